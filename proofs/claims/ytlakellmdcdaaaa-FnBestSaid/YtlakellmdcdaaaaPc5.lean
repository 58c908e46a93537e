/-
  The contracts of splits and SplitsAt.
  Conditions: the piece reads as a piece, the values as a list of numbers.
-/
import Derived.Test.YtlakellmdcdaaaaPc4e
namespace Go.Proofs.Ytlakellmdcdaaaa.Pc
open Go.RowKit Go.Proofs.Ytlakellmdcdaaaa.Row Go.Proofs.Ytlakellmdcdaaaa.Mem Go.Proofs.Ytlakellmdcdaaaa.Mix Go.Proofs.Ytlakellmdcdaaaa.Recs Go.Proofs.Ytlakellmdcdaaaa.Owns Go.Proofs.Ytlakellmdcdaaaa.Blocks Go.Proofs.Ytlakellmdcdaaaa.Piece Go.Proofs.Ytlakellmdcdaaaa.All Go.Proofs.Ytlakellmdcdaaaa.Ints
def splitAt (p : P) (xs : List Int) (k : Nat) : Bool := decide ((chunkAt p k).f ≤ valAt xs (chunkAt p k).r.toNat)
def splitsAt (p : P) (xs : List Int) (i : Int) : Bool := inR i 0 ((p.chunks.length : Int) - 2) && (valuesOk p xs && (pieceOk p && splitAt p xs i.toNat))
set_option maxRecDepth 100000 in
set_option maxHeartbeats 1600000 in
theorem impl_splits {p : P} {r c s t v : Value} {xs : List Int} {w : World} (h : PRow w p r c s t) (hv : Row w v 1 xs.length (ints xs)) {k a : Nat} (hk : k < p.chunks.length) (ha : (chunkAt p k).r = (a : Int)) (hax : a < xs.length) :
    Calls Try.prog 83 #[pv p.ind r c s t, v, .int .i64 k] w fun e w' => e = .returned (.bool (splitAt p xs k)) ∧ Below w.heap.size w w' := by
  obtain ⟨⟨A1, m1, rfl⟩, ⟨A2, m2, rfl⟩, ⟨A3, m3, rfl⟩, ⟨A4, m4, rfl⟩⟩ := h.lits
  obtain ⟨A, c1, e1, -, hn, hnc, hcm, hac⟩ := h.chunks
  injection e1 with ea el ec
  subst ea ec
  clear el h
  obtain ⟨Av, cv, rfl, -, vn, vnc, vcm, va⟩ := hv
  rw [chunkAt_eq hk] at ha
  obtain ⟨b, off, rfl, hb, hc⟩ := hac (by omega)
  obtain ⟨c0, c1, c2, c3, c4⟩ := Chunk.cells_ hc hk
  obtain ⟨b2, off2, rfl, hb2, hc2⟩ := va (by omega)
  have y0 := hc2 a _ (at_one hax .i64)
  rw [ha] at c1
  have hval := Lib.hid (show splitAt p xs k = decide (p.chunks[k].f ≤ xs[a]) by unfold splitAt; rw [chunkAt_eq hk, ha, Int.toNat_natCast, valAt_eq hax])
  have hB := Lib.hid (below2 w (.cells #[.int .i64 p.ind, .slice A1 p.rules.length m1, .slice (some ⟨b, off, none⟩) p.chunks.length m2, .slice A3 p.spans.length m3, .slice A4 p.ties.length m4] 35) (.cells #[.int .i64 (a : Int), .int .i64 p.chunks[k].f, .bool p.chunks[k].s, .int .i64 p.chunks[k].n] 93))
  have z1 : b ≠ w.heap.size := by omega
  have z2 : b < w.heap.size + 1 := by omega
  have z3 : b2 ≠ w.heap.size := by omega
  have z4 : b2 < w.heap.size + 1 := by omega
  have z5 : b2 ≠ w.heap.size + 1 := by omega
  have i0 : (0 : Int) ≤ (a : Int) := by omega
  have i1 : (a : Int) < (xs.length : Int) := by omega
  have i2 : (0 : Int) ≤ (k : Int) := by omega
  have i3 : (k : Int) < (p.chunks.length : Int) := by omega
  clear hc hc2 hac va ha c0 
  go_enter Try.func83, Try.ntmps83
  go_wp2
  go_quiet (fail)
  go_wp2
  go_ret
  exact ⟨by rw [hval.out]; rfl, by first | exact hB.out | exact below_drewN hB.out _⟩
set_option maxRecDepth 100000 in
set_option maxHeartbeats 1600000 in
theorem spec_splits {p : P} {r c s t v : Value} {xs : List Int} {w : World} (h : PRow w p r c s t) (hv : Row w v 1 xs.length (ints xs)) {k a : Nat} (hk : k < p.chunks.length) (ha : (chunkAt p k).r = (a : Int)) (hax : a < xs.length) :
    Calls Try.prog 82 #[pv p.ind r c s t, v, .int .i64 k] w fun e w' => e = .returned (.bool (splitAt p xs k)) ∧ Below w.heap.size w w' := by
  obtain ⟨⟨A1, m1, rfl⟩, ⟨A2, m2, rfl⟩, ⟨A3, m3, rfl⟩, ⟨A4, m4, rfl⟩⟩ := h.lits
  obtain ⟨A, c1, e1, -, hn, hnc, hcm, hac⟩ := h.chunks
  injection e1 with ea el ec
  subst ea ec
  clear el h
  obtain ⟨Av, cv, rfl, -, vn, vnc, vcm, va⟩ := hv
  rw [chunkAt_eq hk] at ha
  obtain ⟨b, off, rfl, hb, hc⟩ := hac (by omega)
  obtain ⟨c0, c1, c2, c3, c4⟩ := Chunk.cells_ hc hk
  obtain ⟨b2, off2, rfl, hb2, hc2⟩ := va (by omega)
  have y0 := hc2 a _ (at_one hax .i64)
  rw [ha] at c1
  have hval := Lib.hid (show splitAt p xs k = decide (p.chunks[k].f ≤ xs[a]) by unfold splitAt; rw [chunkAt_eq hk, ha, Int.toNat_natCast, valAt_eq hax])
  have hB := Lib.hid (below2 w (.cells #[.int .i64 p.ind, .slice A1 p.rules.length m1, .slice (some ⟨b, off, none⟩) p.chunks.length m2, .slice A3 p.spans.length m3, .slice A4 p.ties.length m4] 35) (.cells #[.int .i64 (a : Int), .int .i64 p.chunks[k].f, .bool p.chunks[k].s, .int .i64 p.chunks[k].n] 93))
  have z1 : b ≠ w.heap.size := by omega
  have z2 : b < w.heap.size + 1 := by omega
  have z3 : b2 ≠ w.heap.size := by omega
  have z4 : b2 < w.heap.size + 1 := by omega
  have z5 : b2 ≠ w.heap.size + 1 := by omega
  have i0 : (0 : Int) ≤ (a : Int) := by omega
  have i1 : (a : Int) < (xs.length : Int) := by omega
  have i2 : (0 : Int) ≤ (k : Int) := by omega
  have i3 : (k : Int) < (p.chunks.length : Int) := by omega
  clear hc hc2 hac va ha c0 
  go_enter Try.func82, Try.ntmps82
  go_wp2
  go_quiet (fail)
  go_wp2
  go_ret
  exact ⟨by rw [hval.out]; rfl, by first | exact hB.out | exact below_drewN hB.out _⟩
set_option maxRecDepth 100000 in
set_option maxHeartbeats 3200000 in
theorem impl_SplitsAt {p : P} {r c s t v : Value} {xs : List Int} {w : World} (h : PRow w p r c s t) (hv : Row w v 1 xs.length (ints xs)) (hst : ∀ x ∈ p.chunks, x.t.size ≤ 1099511627776) (i : Int) :
    Calls Try.prog 34 #[pv p.ind r c s t, v, .int .i64 i] w fun e w' => e = .returned (.bool (splitsAt p xs i)) ∧ Below w.heap.size w w' := by
  obtain ⟨⟨A1, m1, rfl⟩, ⟨A2, m2, rfl⟩, ⟨A3, m3, rfl⟩, ⟨A4, m4, rfl⟩⟩ := h.lits
  obtain ⟨Av, cv, rfl, -⟩ := id hv
  have hnn : p.chunks.length ≤ 9223372036854775807 := by obtain ⟨_, _, _, _, h, _⟩ := h.chunks; exact h
  have hb0 := (Below.refl w.heap.size w).alloc (Nat.le_refl _) (.cells #[.int .i64 p.ind, .slice A1 p.rules.length m1, .slice A2 p.chunks.length m2, .slice A3 p.spans.length m3, .slice A4 p.ties.length m4] 35)
  have hB := Lib.hid hb0
  have hK := Lib.hid (heap_alloc_new w (.cells #[.int .i64 p.ind, .slice A1 p.rules.length m1, .slice A2 p.chunks.length m2, .slice A3 p.spans.length m3, .slice A4 p.ties.length m4] 35))
  have hcv := Lib.hid (fun (W : World) (hW : Below w.heap.size w W) => impl_ValuesOk (h.below hW) (hv.below hW))
  have hcp := Lib.hid (fun (W : World) (hW : Below w.heap.size w W) => impl_PieceOk (h.below hW) hst)
  have hcs := Lib.hid (fun (W : World) (hW : Below w.heap.size w W) (k a : Nat) (hk : k < p.chunks.length) (ha : (chunkAt p k).r = (a : Int)) (hax : a < xs.length) => impl_splits (h.below hW) (hv.below hW) hk ha hax)
  clear h hv hst hb0
  cases h1 : inR i 0 ((p.chunks.length : Int) - 2)
  · have hno := Lib.hid (show splitsAt p xs i = false by unfold splitsAt; rw [h1]; simp)
    go_enter Try.func34, Try.ntmps34
    go_wp2_with (go_at_call 67; refine (impl_inRange _ _ _ _).mono ?_; rintro e w1 ⟨rfl, rfl⟩)
    go_ret
    exact ⟨by rw [hno.out]; rfl, hB.out⟩
  · cases h2 : valuesOk p xs
    · have hno := Lib.hid (show splitsAt p xs i = false by unfold splitsAt; rw [h2]; simp)
      rw [h2] at hcv
      go_enter Try.func34, Try.ntmps34
      go_wp2_with (go_at_call 67; refine (impl_inRange _ _ _ _).mono ?_; rintro e w1 ⟨rfl, rfl⟩)
      refine (hcv.out _ hB.out).mono ?_
      rintro e w1 ⟨rfl, b1⟩
      replace hB := Lib.hid (hB.out.trans (b1.mono hB.out.size))
      replace hK := Lib.hid (blk_below hK.out b1)
      obtain ⟨x0, x1, x2, x3, x4⟩ := blk5 hK.out
      clear b1
      clear x0 x1 x2 x3 x4
      go_wp2
      go_ret
      exact ⟨by rw [hno.out]; rfl, hB.out⟩
    · cases h3 : pieceOk p
      · have hno := Lib.hid (show splitsAt p xs i = false by unfold splitsAt; rw [h3]; simp)
        rw [h2] at hcv
        rw [h3] at hcp
        go_enter Try.func34, Try.ntmps34
        go_wp2_with (go_at_call 67; refine (impl_inRange _ _ _ _).mono ?_; rintro e w1 ⟨rfl, rfl⟩)
        refine (hcv.out _ hB.out).mono ?_
        rintro e w1 ⟨rfl, b1⟩
        replace hB := Lib.hid (hB.out.trans (b1.mono hB.out.size))
        replace hK := Lib.hid (blk_below hK.out b1)
        obtain ⟨x0, x1, x2, x3, x4⟩ := blk5 hK.out
        clear b1
        go_wp2_with fail
        refine (hcp.out _ hB.out).mono ?_
        rintro e w2 ⟨rfl, b1⟩
        replace hB := Lib.hid (hB.out.trans (b1.mono hB.out.size))
        replace hK := Lib.hid (blk_below hK.out b1)
        clear x0 x1 x2 x3 x4
        obtain ⟨x0, x1, x2, x3, x4⟩ := blk5 hK.out
        clear b1
        clear x0 x1 x2 x3 x4
        go_wp2
        go_ret
        exact ⟨by rw [hno.out]; rfl, hB.out⟩
      · rw [h2] at hcv
        rw [h3] at hcp
        have hl := valuesOk_length h2
        have hR := right_of h3
        obtain ⟨i1, j1⟩ := inR_iff.1 h1
        obtain ⟨k, rfl⟩ : ∃ k : Nat, i = (k : Int) := ⟨i.toNat, by omega⟩
        obtain ⟨a, ea, hax, -⟩ := right_split hR (i := k) (by omega)
        have hyes := Lib.hid (show splitsAt p xs (k : Int) = splitAt p xs k by unfold splitsAt; rw [h1, h2, h3]; rfl)
        have hcl := Lib.hid (fun (W : World) (hW : Below w.heap.size w W) => hcs.out W hW k a (by omega) ea (by omega))
        clear hl hR i1 j1 ea hax hcs h2 h3
        go_enter Try.func34, Try.ntmps34
        go_wp2_with (go_at_call 67; refine (impl_inRange _ _ _ _).mono ?_; rintro e w1 ⟨rfl, rfl⟩)
        refine (hcv.out _ hB.out).mono ?_
        rintro e w1 ⟨rfl, b1⟩
        replace hB := Lib.hid (hB.out.trans (b1.mono hB.out.size))
        replace hK := Lib.hid (blk_below hK.out b1)
        obtain ⟨x0, x1, x2, x3, x4⟩ := blk5 hK.out
        clear b1
        go_wp2_with fail
        refine (hcp.out _ hB.out).mono ?_
        rintro e w2 ⟨rfl, b1⟩
        replace hB := Lib.hid (hB.out.trans (b1.mono hB.out.size))
        replace hK := Lib.hid (blk_below hK.out b1)
        clear x0 x1 x2 x3 x4
        obtain ⟨x0, x1, x2, x3, x4⟩ := blk5 hK.out
        clear b1
        go_wp2_with fail
        refine (hcl.out _ hB.out).mono ?_
        rintro e w9 ⟨rfl, b9⟩
        go_wp2
        go_ret
        exact ⟨by rw [hyes.out]; rfl, hB.out.trans (b9.mono hB.out.size)⟩
set_option maxRecDepth 100000 in
set_option maxHeartbeats 3200000 in
theorem spec_SplitsAt {p : P} {r c s t v : Value} {xs : List Int} {w : World} (h : PRow w p r c s t) (hv : Row w v 1 xs.length (ints xs)) (hst : ∀ x ∈ p.chunks, x.t.size ≤ 1099511627776) (i : Int) :
    Calls Try.prog 33 #[pv p.ind r c s t, v, .int .i64 i] w fun e w' => e = .returned (.bool (splitsAt p xs i)) ∧ Below w.heap.size w w' := by
  obtain ⟨⟨A1, m1, rfl⟩, ⟨A2, m2, rfl⟩, ⟨A3, m3, rfl⟩, ⟨A4, m4, rfl⟩⟩ := h.lits
  obtain ⟨Av, cv, rfl, -⟩ := id hv
  have hnn : p.chunks.length ≤ 9223372036854775807 := by obtain ⟨_, _, _, _, h, _⟩ := h.chunks; exact h
  have hb0 := (Below.refl w.heap.size w).alloc (Nat.le_refl _) (.cells #[.int .i64 p.ind, .slice A1 p.rules.length m1, .slice A2 p.chunks.length m2, .slice A3 p.spans.length m3, .slice A4 p.ties.length m4] 35)
  have hB := Lib.hid hb0
  have hK := Lib.hid (heap_alloc_new w (.cells #[.int .i64 p.ind, .slice A1 p.rules.length m1, .slice A2 p.chunks.length m2, .slice A3 p.spans.length m3, .slice A4 p.ties.length m4] 35))
  have hcv := Lib.hid (fun (W : World) (hW : Below w.heap.size w W) => spec_ValuesOk (h.below hW) (hv.below hW))
  have hcp := Lib.hid (fun (W : World) (hW : Below w.heap.size w W) => spec_PieceOk (h.below hW) hst)
  have hcs := Lib.hid (fun (W : World) (hW : Below w.heap.size w W) (k a : Nat) (hk : k < p.chunks.length) (ha : (chunkAt p k).r = (a : Int)) (hax : a < xs.length) => spec_splits (h.below hW) (hv.below hW) hk ha hax)
  clear h hv hst hb0
  cases h3 : pieceOk p
  · have hno := Lib.hid (show splitsAt p xs i = false by unfold splitsAt; rw [h3]; simp)
    rw [h3] at hcp
    go_enter Try.func33, Try.ntmps33
    go_wp2_with fail
    refine (hcp.out _ hB.out).mono ?_
    rintro e w1 ⟨rfl, b1⟩
    replace hB := Lib.hid (hB.out.trans (b1.mono hB.out.size))
    replace hK := Lib.hid (blk_below hK.out b1)
    obtain ⟨x0, x1, x2, x3, x4⟩ := blk5 hK.out
    clear b1
    clear x0 x1 x2 x3 x4
    go_wp2
    go_ret
    exact ⟨by rw [hno.out]; rfl, hB.out⟩
  · rw [h3] at hcp
    cases h2 : valuesOk p xs
    · have hno := Lib.hid (show splitsAt p xs i = false by unfold splitsAt; rw [h2]; simp)
      rw [h2] at hcv
      go_enter Try.func33, Try.ntmps33
      go_wp2_with fail
      refine (hcp.out _ hB.out).mono ?_
      rintro e w1 ⟨rfl, b1⟩
      replace hB := Lib.hid (hB.out.trans (b1.mono hB.out.size))
      replace hK := Lib.hid (blk_below hK.out b1)
      obtain ⟨x0, x1, x2, x3, x4⟩ := blk5 hK.out
      clear b1
      go_wp2_with fail
      refine (hcv.out _ hB.out).mono ?_
      rintro e w2 ⟨rfl, b1⟩
      replace hB := Lib.hid (hB.out.trans (b1.mono hB.out.size))
      replace hK := Lib.hid (blk_below hK.out b1)
      clear x0 x1 x2 x3 x4
      obtain ⟨x0, x1, x2, x3, x4⟩ := blk5 hK.out
      clear b1
      clear x0 x1 x2 x3 x4
      go_wp2
      go_ret
      exact ⟨by rw [hno.out]; rfl, hB.out⟩
    · rw [h2] at hcv
      cases h1 : inR i 0 ((p.chunks.length : Int) - 2)
      · have hno := Lib.hid (show splitsAt p xs i = false by unfold splitsAt; rw [h1]; simp)
        go_enter Try.func33, Try.ntmps33
        go_wp2_with fail
        refine (hcp.out _ hB.out).mono ?_
        rintro e w1 ⟨rfl, b1⟩
        replace hB := Lib.hid (hB.out.trans (b1.mono hB.out.size))
        replace hK := Lib.hid (blk_below hK.out b1)
        obtain ⟨x0, x1, x2, x3, x4⟩ := blk5 hK.out
        clear b1
        go_wp2_with fail
        refine (hcv.out _ hB.out).mono ?_
        rintro e w2 ⟨rfl, b1⟩
        replace hB := Lib.hid (hB.out.trans (b1.mono hB.out.size))
        replace hK := Lib.hid (blk_below hK.out b1)
        clear x0 x1 x2 x3 x4
        obtain ⟨x0, x1, x2, x3, x4⟩ := blk5 hK.out
        clear b1
        go_wp2_with (go_at_call 62; refine (spec_inRange _ _ _ _).mono ?_; rintro e w1 ⟨rfl, rfl⟩)
        go_ret
        exact ⟨by rw [hno.out]; rfl, hB.out⟩
      · have hl := valuesOk_length h2
        have hR := right_of h3
        obtain ⟨i1, j1⟩ := inR_iff.1 h1
        obtain ⟨k, rfl⟩ : ∃ k : Nat, i = (k : Int) := ⟨i.toNat, by omega⟩
        obtain ⟨a, ea, hax, -⟩ := right_split hR (i := k) (by omega)
        have hyes := Lib.hid (show splitsAt p xs (k : Int) = splitAt p xs k by unfold splitsAt; rw [h1, h2, h3]; rfl)
        have hcl := Lib.hid (fun (W : World) (hW : Below w.heap.size w W) => hcs.out W hW k a (by omega) ea (by omega))
        clear hl hR i1 j1 ea hax hcs h2 h3
        go_enter Try.func33, Try.ntmps33
        go_wp2_with fail
        refine (hcp.out _ hB.out).mono ?_
        rintro e w1 ⟨rfl, b1⟩
        replace hB := Lib.hid (hB.out.trans (b1.mono hB.out.size))
        replace hK := Lib.hid (blk_below hK.out b1)
        obtain ⟨x0, x1, x2, x3, x4⟩ := blk5 hK.out
        clear b1
        go_wp2_with fail
        refine (hcv.out _ hB.out).mono ?_
        rintro e w2 ⟨rfl, b1⟩
        replace hB := Lib.hid (hB.out.trans (b1.mono hB.out.size))
        replace hK := Lib.hid (blk_below hK.out b1)
        clear x0 x1 x2 x3 x4
        obtain ⟨x0, x1, x2, x3, x4⟩ := blk5 hK.out
        clear b1
        go_wp2_with (go_at_call 62; refine (spec_inRange _ _ _ _).mono ?_; rintro e w1 ⟨rfl, rfl⟩)
        refine (hcl.out _ hB.out).mono ?_
        rintro e w9 ⟨rfl, b9⟩
        go_wp2
        go_ret
        exact ⟨by rw [hyes.out]; rfl, hB.out.trans (b9.mono hB.out.size)⟩
end Go.Proofs.Ytlakellmdcdaaaa.Pc
