/-
  The contracts of the reference's drawing functions over pieces, and of laws.sameInts.
  Conditions: the code that is drawn from reads as bytes.
-/
import Derived.Test.YtlakellmdcdaaaaAnyDraw
namespace Go.Proofs.Ytlakellmdcdaaaa.Draw
open Go.RowKit Go.Proofs.Ytlakellmdcdaaaa.Row Go.Proofs.Ytlakellmdcdaaaa.Mem Go.Proofs.Ytlakellmdcdaaaa.Mix Go.Proofs.Ytlakellmdcdaaaa.Owns Go.Proofs.Ytlakellmdcdaaaa.Blocks Go.Proofs.Ytlakellmdcdaaaa.Piece Go.Proofs.Ytlakellmdcdaaaa.Pc Go.Proofs.Ytlakellmdcdaaaa.Ints
/-- a piece in rows of a call's own -/
structure PQ (B : Nat) (w : World) (p : P) (r c s t : Value) : Prop where
  o1 : w.ownsRow B 80 2 r p.rules.length (Rule.cs p.rules)
  o2 : w.ownsRow B 95 5 c p.chunks.length (Chunk.cs p.chunks)
  o3 : w.ownsRow B 98 3 s p.spans.length (Span.cs p.spans)
  o4 : w.ownsRow B 90 2 t p.ties.length (Tie.cs p.ties)
theorem PQ.row {B : Nat} {w : World} {p : P} {r c s t : Value} (h : PQ B w p r c s t) : PRow w p r c s t := ⟨row_of_owns h.o1, row_of_owns h.o2, row_of_owns h.o3, row_of_owns h.o4⟩
theorem PQ.below {B : Nat} {w w' : World} {p : P} {r c s t : Value} (h : PQ B w p r c s t) (k : Below w.heap.size w w') : PQ B w' p r c s t := ⟨own_below h.o1 k, own_below h.o2 k, own_below h.o3 k, own_below h.o4 k⟩
theorem PQ.mono {B B' : Nat} {w : World} {p : P} {r c s t : Value} (h : PQ B w p r c s t) (hB : B' ≤ B) : PQ B' w p r c s t := ⟨own_mono h.o1 hB, own_mono h.o2 hB, own_mono h.o3 hB, own_mono h.o4 hB⟩
theorem PQ.keep {B g : Nat} {w w' : World} {p : P} {r c s t : Value} (h : PQ B w p r c s t) (k : Keep g w w') (hg : g < B) : PQ B w' p r c s t := ⟨own_keep h.o1 k hg, own_keep h.o2 k hg, own_keep h.o3 k hg, own_keep h.o4 k hg⟩
theorem PO.q {w0 w : World} {cv : Value} {g : Nat} {p : P} {r c s t : Value} (h : PO w0 w cv g p r c s t) : PQ w0.heap.size w p r c s t := ⟨h.o1, h.o2, h.o3, h.o4⟩
theorem PO.below {w0 w w' : World} {cv : Value} {g : Nat} {p : P} {r c s t : Value} (h : PO w0 w cv g p r c s t) (k : Below w.heap.size w w') : PO w0 w' cv g p r c s t := ⟨h.cur.below k, keep_below h.keep k, own_below h.o1 k, own_below h.o2 k, own_below h.o3 k, own_below h.o4 k⟩
theorem keep_res (w : World) (R : Nat) (u0 u1 u2 u3 u4 : Value) : Keep R w (((((w.setCell ⟨R, 0, none⟩ u0).setCell ⟨R, 1, none⟩ u1).setCell ⟨R, 2, none⟩ u2).setCell ⟨R, 3, none⟩ u3).setCell ⟨R, 4, none⟩ u4) := grown_set (grown_set (grown_set (grown_set (grown_set (World.grownBy.refl w _) 0 _) 1 _) 2 _) 3 _) 4 _
theorem below_res {B : Nat} {a w : World} (h : Below B a w) {R : Nat} (hR : B ≤ R) (u0 u1 u2 u3 u4 : Value) : Below B a (((((w.setCell ⟨R, 0, none⟩ u0).setCell ⟨R, 1, none⟩ u1).setCell ⟨R, 2, none⟩ u2).setCell ⟨R, 3, none⟩ u3).setCell ⟨R, 4, none⟩ u4) := ((((h.setCell (p := ⟨R, 0, none⟩) hR u0).setCell (p := ⟨R, 1, none⟩) hR u1).setCell (p := ⟨R, 2, none⟩) hR u2).setCell (p := ⟨R, 3, none⟩) hR u3).setCell (p := ⟨R, 4, none⟩) hR u4
theorem Drawn.le {w : World} {v : Value} {bs : List Int} (h : Drawn w v bs) : ∃ A c, v = .slice A bs.length c := by obtain ⟨⟨A, c, rfl, -⟩, -⟩ := h; exact ⟨A, c, rfl⟩
set_option maxHeartbeats 800000 in
theorem same_any {v1 v2 : Value} {xs ys : List Int} {w : World} (h1 : Row w v1 1 xs.length (ints xs)) (h2 : Row w v2 1 ys.length (ints ys)) :
    Calls Try.prog 54 #[v1, v2] w fun e w' => e = .returned (.bool (xs == ys)) ∧ Below w.heap.size w w' := by
  obtain ⟨A, c, rfl, -, hn, hnc, hcm, ha⟩ := h1
  obtain ⟨A2, c2, rfl, -, hn2, hnc2, hcm2, ha2⟩ := h2
  by_cases hl : xs.length = ys.length
  · have d1 : (xs.length == ys.length) = true := by simpa using hl
    have d2 : (xs.length != ys.length) = false := by simpa using hl
    have d3 : ((xs.length : Int) != (ys.length : Int)) = false := by simp; omega
    have hle : xs.length ≤ ys.length := by omega
    have hge : ys.length ≤ xs.length := by omega
    replace hl := Lib.hid hl
    go_enter Try.func54, Try.ntmps54
    go_wp2
    go_loopw [5] (fun i wr => ∃ k : Nat, k ≤ xs.length ∧ i = .int .i64 k ∧ (∃ n, wr = w.drewN n) ∧ Hid (xs.take k = ys.take k)) (fun i _ => xs.length - (intOf i).toNat)
    case atStart => exact ⟨0, by omega, rfl, ⟨0, rfl⟩, Lib.hid (by simp)⟩
    case round =>
      obtain ⟨k, hk, rfl, ⟨nd, rfl⟩, hr⟩ := hrel
      by_cases hlt : k < xs.length
      · have hlt2 : k < ys.length := by omega
        obtain ⟨b, off, rfl, hb, hc⟩ := ha (by omega)
        obtain ⟨b2, off2, rfl, hb2, hc2⟩ := ha2 (by omega)
        have c1 := hc k _ (at_one hlt .i64)
        have c2 := hc2 k _ (at_one hlt2 .i64)
        clear hc hc2
        have i0 : (0 : Int) ≤ (k : Int) := by omega
        have i1 : (k : Int) < (xs.length : Int) := by omega
        have i2 : (k : Int) < (ys.length : Int) := by omega
        by_cases h : xs[k] = ys[k]
        · have e1 : (xs[k] == ys[k]) = true := by simpa using h
          have e2 : (xs[k] != ys[k]) = false := by simpa using h
          have hon := Lib.hid (show xs.take (k + 1) = ys.take (k + 1) by rw [List.take_succ_eq_append_getElem hlt, List.take_succ_eq_append_getElem hlt2, hr.out, h])
          replace h := Lib.hid h
          go_wp2
          go_quiet (fail)
          go_wp2
          go_roundw
          case rel => exact ⟨k + 1, by omega, by go_num, ⟨_, rfl⟩, hon⟩
          case measure => simp [intOf]; omega
        · have e1 : (xs[k] == ys[k]) = false := by simpa using h
          have e2 : (xs[k] != ys[k]) = true := by simpa using h
          have hne := Lib.hid (show (xs == ys) = false by rw [beq_eq_false_iff_ne]; intro he; subst he; exact h rfl)
          go_wp2
          go_quiet (fail)
          go_wp2
          go_ret
          exact ⟨by rw [hne.out]; rfl, by first | exact to_drewN _ _ _ | (simp only [World.drewN_drewN]; exact to_drewN _ _ _)⟩
      · have hyes := Lib.hid (show (xs == ys) = true by
          have := hr.out
          rw [List.take_of_length_le (by omega), List.take_of_length_le (by omega)] at this
          simpa using this)
        go_wp2
        go_ret
        exact ⟨by rw [hyes.out]; rfl, to_drewN _ _ _⟩
  · have d1 : (xs.length == ys.length) = false := by simpa using hl
    have d2 : (xs.length != ys.length) = true := by simpa using hl
    have d3 : ((xs.length : Int) != (ys.length : Int)) = true := by simp; omega
    have hne := Lib.hid (show (xs == ys) = false by rw [beq_eq_false_iff_ne]; intro he; subst he; exact hl rfl)
    replace hl := Lib.hid hl
    go_enter Try.func54, Try.ntmps54
    go_wp2
    go_ret
    exact ⟨by rw [hne.out]; rfl, Below.refl _ _⟩
theorem same_self {v1 v2 : Value} {xs : List Int} {w : World} (h1 : Row w v1 1 xs.length (ints xs)) (h2 : Row w v2 1 xs.length (ints xs)) : Calls Try.prog 54 #[v1, v2] w fun e w' => e = .returned (.bool true) ∧ Below w.heap.size w w' :=
  (same_any h1 h2).mono fun e w' h => ⟨by rw [h.1]; simp, h.2⟩
end Go.Proofs.Ytlakellmdcdaaaa.Draw
/-
  The contract of spec.l08Pair.
  Conditions: the code that is drawn from reads as bytes.
-/
namespace Go.Proofs.Ytlakellmdcdaaaa.Draw
open Go.RowKit Go.Proofs.Ytlakellmdcdaaaa.Row Go.Proofs.Ytlakellmdcdaaaa.Mem Go.Proofs.Ytlakellmdcdaaaa.Mix Go.Proofs.Ytlakellmdcdaaaa.Owns Go.Proofs.Ytlakellmdcdaaaa.Blocks Go.Proofs.Ytlakellmdcdaaaa.Piece Go.Proofs.Ytlakellmdcdaaaa.Pc Go.Proofs.Ytlakellmdcdaaaa.Ints
set_option maxRecDepth 100000 in
set_option maxHeartbeats 3200000 in
theorem pair_any {w : World} {v : Value} {bs : List Int} (h : Drawn w v bs) (hm : bs.length ≤ 1048576) :
    Calls Try.prog 97 #[v] w fun e w' => ∃ (p : P) (r c s t : Value) (v : Value) (xs : List Int), Sm p ∧ xs.length ≤ 11 ∧ e = .returned (.tuple #[pv p.ind r c s t, v]) ∧ PQ w.heap.size w' p r c s t ∧ w'.ownsRow w.heap.size 3 1 v xs.length (ints xs) ∧ Below w.heap.size w w' := by
  obtain ⟨Av, cv, rfl⟩ := h.le
  have ax := (Below.refl w.heap.size w).alloc (Nat.le_refl _) (.cells #[.int .i64 0, .slice none 0 0, .slice none 0 0, .slice none 0 0, .slice none 0 0] 35)
  have kx := heap_alloc_new w (.cells #[.int .i64 0, .slice none 0 0, .slice none 0 0, .slice none 0 0, .slice none 0 0] 35)
  have s0 : (w.alloc (.cells #[.int .i64 0, .slice none 0 0, .slice none 0 0, .slice none 0 0, .slice none 0 0] 35)).heap.size = w.heap.size + 1 := by simp
  obtain ⟨W, hW⟩ : ∃ W, w.alloc (.cells #[.int .i64 0, .slice none 0 0, .slice none 0 0, .slice none 0 0, .slice none 0 0] 35) = W := ⟨_, rfl⟩
  rw [hW] at ax kx s0
  have hD := h.below ((Below.refl w.heap.size w).alloc (Nat.le_refl _) (.cells #[.int .i64 0, .slice none 0 0, .slice none 0 0, .slice none 0 0, .slice none 0 0] 35))
  rw [hW] at hD
  replace hW := Lib.hid hW
  replace s0 := Lib.hid s0

  go_enter Try.func97, Try.ntmps97
  have hn := Lib.hid (new_any hD hm)
  go_wp2_with fail
  rw [hW.out]
  refine hn.out.mono ?_
  rintro e w1 ⟨rfl, c1, b1⟩
  have l1 := Lib.hid c1.lt
  have z1 := Lib.hid b1.size
  have B1 := Lib.hid (ax.trans (b1.mono ax.size))
  replace kx := Lib.hid (blk_below kx b1)
  clear ax hn hW b1 h hD

  go_wp2_with fail
  refine (anyp_any c1).mono ?_
  rintro e w2 ⟨p, r, c, s, t, hR, rfl, hO⟩

  replace kx := Lib.hid ((hO.keep.block _ (blk_lt kx.out) (fun e => by injection e; have := s0.out; have := l1.out; have := z1.out; omega)).trans kx.out)
  have B2 := Lib.hid (below_keep B1.out hO.keep (by have := s0.out; have := l1.out; have := z1.out; omega) (by have := s0.out; have := l1.out; have := z1.out; omega))
  have z2 : w1.heap.size ≤ w2.heap.size := hO.keep.size
  replace z2 := Lib.hid z2
  clear B1 c1
  obtain ⟨A1, m1, rfl, -⟩ := row_of_owns (PO.o1 hO)
  obtain ⟨A2, m2, rfl, -⟩ := row_of_owns (PO.o2 hO)
  obtain ⟨A3, m3, rfl, -⟩ := row_of_owns (PO.o3 hO)
  obtain ⟨A4, m4, rfl, -⟩ := row_of_owns (PO.o4 hO)

  have al := (Below.refl w2.heap.size w2).alloc (Nat.le_refl _) (.cells #[.int .i64 p.ind, .slice A1 p.rules.length m1, .slice A2 p.chunks.length m2, .slice A3 p.spans.length m3, .slice A4 p.ties.length m4] 35)
  have kb := heap_alloc_new w2 (.cells #[.int .i64 p.ind, .slice A1 p.rules.length m1, .slice A2 p.chunks.length m2, .slice A3 p.spans.length m3, .slice A4 p.ties.length m4] 35)
  replace kx := Lib.hid (blk_below kx.out al)
  replace B2 := Lib.hid (B2.out.trans (al.mono B2.out.size))
  replace hO := Lib.hid (hO.below al)
  
  go_upto_region 3 with fail
  obtain ⟨w3, hw3⟩ : ∃ W, w2.alloc (.cells #[.int .i64 p.ind, .slice A1 p.rules.length m1, .slice A2 p.chunks.length m2, .slice A3 p.spans.length m3, .slice A4 p.ties.length m4] 35) = W := ⟨_, rfl⟩
  rw [hw3] at kx B2 hO kb ⊢
  clear hw3 al
  obtain ⟨bp, hbp⟩ : ∃ bp, w2.heap.size = bp := ⟨_, rfl⟩
  replace z2 := z2.out
  rw [hbp] at kb z2
  replace z2 := Lib.hid z2
  refine wp_region_mix (fun w' => w'.heap[bp]? = some (.cells #[.int .i64 p.ind, .slice A1 p.rules.length m1, .slice A2 p.chunks.length m2, .slice A3 p.spans.length m3, .slice A4 p.ties.length m4] 35 (0, 0))) [(0, true), (1, true), (2, true), (3, false), (4, false), (5, false)] (by kernel_rfl) (by kernel_rfl) (fun d _ _ _ _ h => by cases d <;> exact h) kb ?_
  replace hO := Lib.hid (hO.out.below (to_drew w3 _))
  replace kx := Lib.hid (blk_below kx.out (to_drew w3 _))
  replace kb := Lib.hid (blk_below kb (to_drew w3 _))
  replace B2 := Lib.hid (B2.out.trans (to_drew w3 _))
  generalize w3.drew = w4 at hO kx kb B2 ⊢
  repeat
   (refine mix_still rfl (by rfl) ?_
    apply Exists.intro
    refine ⟨fun w' hS => ?_, ?_⟩
    · (obtain ⟨q0, q1, q2, q3, q4⟩ := blk5 hS; clear hS; go_simp; (try go_bits); with_reducible rfl)
    (go_simp; (try go_bits)))
  refine mix_loud rfl (fun K hK => ?_)
  (go_simp; (try go_bits))
  refine (values_any l1.out hO.out hR.rules).mono ?_
  rintro _ w5 ⟨vv, xs, hx, rfl, ov, c5, k5⟩
  have z5 := Lib.hid hO.out.keep.size
  have hq := Lib.hid (hO.out.q.keep k5 l1.out)
  replace kx := Lib.hid ((k5.block _ (blk_lt kx.out) (fun e => by injection e; have := s0.out; omega)).trans kx.out)
  replace kb := (k5.block _ (blk_lt kb.out) (fun e => by injection e; have := l1.out; have := z2.out; omega)).trans kb.out
  replace B2 := Lib.hid (below_keep B2.out k5 (by have := B2.out.size; omega) (by have := s0.out; have := l1.out; have := z1.out; have := z2.out; have := z5.out; omega))
  replace ov := Lib.hid ov
  clear hO k5 c5
  refine hK _ _ (fun _ => kb) ?_
  clear hK K
  (go_simp; (try go_bits))
  obtain ⟨y0, y1, y2, y3, y4⟩ := blk5 kx.out
  have fx := frz kx.out
  refine mix_loud rfl (fun K hK => ?_)
  (go_simp; (try go_bits))
  refine hK _ _ (no_need (by kernel_rfl)) ?_
  clear hK K
  try (go_simp; (try go_bits))
  refine mix_loud rfl (fun K hK => ?_)
  (go_simp; (try go_bits))
  refine hK _ _ (no_need (by kernel_rfl)) ?_
  clear hK K
  try (go_simp; (try go_bits))
  refine mix_nil ?_
  go_wp2
  refine bodyPost_ret (v := .tuple #[pv p.ind (.slice A1 p.rules.length m1) (.slice A2 p.chunks.length m2) (.slice A3 p.spans.length m3) (.slice A4 p.ties.length m4), vv]) (by simp [results, Try.results97, go_sem, y0, y1, y2, y3, y4]) rfl ?_
  exact ⟨p, _, _, _, _, vv, xs, hR, (by have := hR.rules; omega), rfl, (hq.out.keep (keep_res w5 w.heap.size _ _ _ _ _) (by have := s0.out; have := l1.out; have := z1.out; have := z2.out; have := z5.out; omega)).mono (by have := s0.out; have := l1.out; have := z1.out; have := z2.out; have := z5.out; omega), own_mono (own_keep ov.out (keep_res w5 w.heap.size _ _ _ _ _) (by have := s0.out; have := l1.out; have := z1.out; have := z2.out; have := z5.out; omega)) (by have := s0.out; have := l1.out; have := z1.out; have := z2.out; have := z5.out; omega), below_res B2.out (Nat.le_refl _) _ _ _ _ _⟩
end Go.Proofs.Ytlakellmdcdaaaa.Draw
/-
  The contracts of spec.DrawPiece and spec.DrawPieceOk.
  Conditions: the code that is drawn from reads as bytes.
-/
namespace Go.Proofs.Ytlakellmdcdaaaa.Draw
open Go.RowKit Go.Proofs.Ytlakellmdcdaaaa.Row Go.Proofs.Ytlakellmdcdaaaa.Mem Go.Proofs.Ytlakellmdcdaaaa.Mix Go.Proofs.Ytlakellmdcdaaaa.Owns Go.Proofs.Ytlakellmdcdaaaa.Blocks Go.Proofs.Ytlakellmdcdaaaa.Piece Go.Proofs.Ytlakellmdcdaaaa.Pc Go.Proofs.Ytlakellmdcdaaaa.Ints
set_option maxRecDepth 100000 in
set_option maxHeartbeats 3200000 in
theorem drawPiece_any {w : World} {v : Value} {bs : List Int} (h : Drawn w v bs) (hm : bs.length ≤ 1048576) :
    Calls Try.prog 48 #[v] w fun e w' => ∃ (p : P) (r c s t : Value), Rt p ∧ e = .returned (pv p.ind r c s t) ∧ PQ w.heap.size w' p r c s t ∧ Below w.heap.size w w' := by
  obtain ⟨Av, cv, rfl⟩ := h.le
  have ax := (Below.refl w.heap.size w).alloc (Nat.le_refl _) (.cells #[.int .i64 0, .slice none 0 0, .slice none 0 0, .slice none 0 0, .slice none 0 0] 35)
  have kx := heap_alloc_new w (.cells #[.int .i64 0, .slice none 0 0, .slice none 0 0, .slice none 0 0, .slice none 0 0] 35)
  have s0 : (w.alloc (.cells #[.int .i64 0, .slice none 0 0, .slice none 0 0, .slice none 0 0, .slice none 0 0] 35)).heap.size = w.heap.size + 1 := by simp
  obtain ⟨W, hW⟩ : ∃ W, w.alloc (.cells #[.int .i64 0, .slice none 0 0, .slice none 0 0, .slice none 0 0, .slice none 0 0] 35) = W := ⟨_, rfl⟩
  rw [hW] at ax kx s0
  have hD := h.below ((Below.refl w.heap.size w).alloc (Nat.le_refl _) (.cells #[.int .i64 0, .slice none 0 0, .slice none 0 0, .slice none 0 0, .slice none 0 0] 35))
  rw [hW] at hD
  replace hW := Lib.hid hW
  replace s0 := Lib.hid s0

  go_enter Try.func48, Try.ntmps48
  have hn := Lib.hid (new_any hD hm)
  go_wp2_with fail
  rw [hW.out]
  refine hn.out.mono ?_
  rintro e w1 ⟨rfl, c1, b1⟩
  have l1 := Lib.hid c1.lt
  have z1 := Lib.hid b1.size
  have B1 := Lib.hid (ax.trans (b1.mono ax.size))
  replace kx := Lib.hid (blk_below kx b1)
  clear ax hn hW b1 h hD

  go_wp2_with fail
  refine (piece_any c1).mono ?_
  rintro e w2 ⟨p, r, c, s, t, hR, rfl, hO⟩

  have hq := hO.q
  replace kx := Lib.hid ((hO.keep.block _ (blk_lt kx.out) (fun e => by injection e; have := s0.out; have := l1.out; have := z1.out; omega)).trans kx.out)
  have B2 := Lib.hid (below_keep B1.out hO.keep (by have := s0.out; have := l1.out; have := z1.out; omega) (by have := s0.out; have := l1.out; have := z1.out; omega))
  clear B1 c1 hO
  obtain ⟨A1, m1, rfl, -⟩ := row_of_owns (PQ.o1 hq)
  obtain ⟨A2, m2, rfl, -⟩ := row_of_owns (PQ.o2 hq)
  obtain ⟨A3, m3, rfl, -⟩ := row_of_owns (PQ.o3 hq)
  obtain ⟨A4, m4, rfl, -⟩ := row_of_owns (PQ.o4 hq)

  replace hq := Lib.hid hq
  obtain ⟨y0, y1, y2, y3, y4⟩ := blk5 kx.out
  have fx := frz kx.out
  go_wp2
  refine bodyPost_ret (v := pv p.ind (.slice A1 p.rules.length m1) (.slice A2 p.chunks.length m2) (.slice A3 p.spans.length m3) (.slice A4 p.ties.length m4)) (by simp [results, Try.results48, go_sem, y0, y1, y2, y3, y4]) rfl ?_
  exact ⟨p, _, _, _, _, hR, rfl, (hq.out.keep (keep_res w2 w.heap.size _ _ _ _ _) (by have := s0.out; have := l1.out; have := z1.out; omega)).mono (by have := s0.out; have := l1.out; have := z1.out; omega), below_res B2.out (Nat.le_refl _) _ _ _ _ _⟩

set_option maxRecDepth 100000 in
set_option maxHeartbeats 3200000 in
theorem drawPieceOk_any {w : World} {v : Value} {bs : List Int} (h : Drawn w v bs) (hm : bs.length ≤ 1048576) :
    Calls Try.prog 57 #[v] w fun e w' => ∃ (p : P) (r c s t : Value), Sm p ∧ e = .returned (pv p.ind r c s t) ∧ PQ w.heap.size w' p r c s t ∧ Below w.heap.size w w' := by
  obtain ⟨Av, cv, rfl⟩ := h.le
  have ax := (Below.refl w.heap.size w).alloc (Nat.le_refl _) (.cells #[.int .i64 0, .slice none 0 0, .slice none 0 0, .slice none 0 0, .slice none 0 0] 35)
  have kx := heap_alloc_new w (.cells #[.int .i64 0, .slice none 0 0, .slice none 0 0, .slice none 0 0, .slice none 0 0] 35)
  have s0 : (w.alloc (.cells #[.int .i64 0, .slice none 0 0, .slice none 0 0, .slice none 0 0, .slice none 0 0] 35)).heap.size = w.heap.size + 1 := by simp
  obtain ⟨W, hW⟩ : ∃ W, w.alloc (.cells #[.int .i64 0, .slice none 0 0, .slice none 0 0, .slice none 0 0, .slice none 0 0] 35) = W := ⟨_, rfl⟩
  rw [hW] at ax kx s0
  have hD := h.below ((Below.refl w.heap.size w).alloc (Nat.le_refl _) (.cells #[.int .i64 0, .slice none 0 0, .slice none 0 0, .slice none 0 0, .slice none 0 0] 35))
  rw [hW] at hD
  replace hW := Lib.hid hW
  replace s0 := Lib.hid s0

  go_enter Try.func57, Try.ntmps57
  have hn := Lib.hid (new_any hD hm)
  go_wp2_with fail
  rw [hW.out]
  refine hn.out.mono ?_
  rintro e w1 ⟨rfl, c1, b1⟩
  have l1 := Lib.hid c1.lt
  have z1 := Lib.hid b1.size
  have B1 := Lib.hid (ax.trans (b1.mono ax.size))
  replace kx := Lib.hid (blk_below kx b1)
  clear ax hn hW b1 h hD

  go_wp2_with fail
  refine (anyp_any c1).mono ?_
  rintro e w2 ⟨p, r, c, s, t, hR, rfl, hO⟩

  have hq := hO.q
  replace kx := Lib.hid ((hO.keep.block _ (blk_lt kx.out) (fun e => by injection e; have := s0.out; have := l1.out; have := z1.out; omega)).trans kx.out)
  have B2 := Lib.hid (below_keep B1.out hO.keep (by have := s0.out; have := l1.out; have := z1.out; omega) (by have := s0.out; have := l1.out; have := z1.out; omega))
  clear B1 c1 hO
  obtain ⟨A1, m1, rfl, -⟩ := row_of_owns (PQ.o1 hq)
  obtain ⟨A2, m2, rfl, -⟩ := row_of_owns (PQ.o2 hq)
  obtain ⟨A3, m3, rfl, -⟩ := row_of_owns (PQ.o3 hq)
  obtain ⟨A4, m4, rfl, -⟩ := row_of_owns (PQ.o4 hq)

  replace hq := Lib.hid hq
  obtain ⟨y0, y1, y2, y3, y4⟩ := blk5 kx.out
  have fx := frz kx.out
  go_wp2
  refine bodyPost_ret (v := pv p.ind (.slice A1 p.rules.length m1) (.slice A2 p.chunks.length m2) (.slice A3 p.spans.length m3) (.slice A4 p.ties.length m4)) (by simp [results, Try.results57, go_sem, y0, y1, y2, y3, y4]) rfl ?_
  exact ⟨p, _, _, _, _, hR, rfl, (hq.out.keep (keep_res w2 w.heap.size _ _ _ _ _) (by have := s0.out; have := l1.out; have := z1.out; omega)).mono (by have := s0.out; have := l1.out; have := z1.out; omega), below_res B2.out (Nat.le_refl _) _ _ _ _ _⟩

end Go.Proofs.Ytlakellmdcdaaaa.Draw
/-
  The contracts of spec.DrawValuesOk and spec.DrawNextOf.
  Conditions: the code that is drawn from reads as bytes.
-/
namespace Go.Proofs.Ytlakellmdcdaaaa.Draw
open Go.RowKit Go.Proofs.Ytlakellmdcdaaaa.Row Go.Proofs.Ytlakellmdcdaaaa.Mem Go.Proofs.Ytlakellmdcdaaaa.Mix Go.Proofs.Ytlakellmdcdaaaa.Owns Go.Proofs.Ytlakellmdcdaaaa.Blocks Go.Proofs.Ytlakellmdcdaaaa.Piece Go.Proofs.Ytlakellmdcdaaaa.Pc Go.Proofs.Ytlakellmdcdaaaa.Ints
set_option maxRecDepth 100000 in
set_option maxHeartbeats 3200000 in
theorem drawValuesOk_any {w : World} {v : Value} {bs : List Int} (h : Drawn w v bs) (hm : bs.length ≤ 1048576) :
    Calls Try.prog 55 #[v] w fun e w' => ∃ (p : P) (r c s t : Value) (v : Value) (xs : List Int), Sm p ∧ xs.length ≤ 11 ∧ e = .returned (.tuple #[pv p.ind r c s t, v]) ∧ PQ w.heap.size w' p r c s t ∧ w'.ownsRow w.heap.size 3 1 v xs.length (ints xs) ∧ Below w.heap.size w w' := by
  obtain ⟨Av, cv, rfl⟩ := h.le
  have ax := (Below.refl w.heap.size w).alloc (Nat.le_refl _) (.cells #[.int .i64 0, .slice none 0 0, .slice none 0 0, .slice none 0 0, .slice none 0 0] 35)
  have kx := heap_alloc_new w (.cells #[.int .i64 0, .slice none 0 0, .slice none 0 0, .slice none 0 0, .slice none 0 0] 35)
  have s0 : (w.alloc (.cells #[.int .i64 0, .slice none 0 0, .slice none 0 0, .slice none 0 0, .slice none 0 0] 35)).heap.size = w.heap.size + 1 := by simp
  obtain ⟨W, hW⟩ : ∃ W, w.alloc (.cells #[.int .i64 0, .slice none 0 0, .slice none 0 0, .slice none 0 0, .slice none 0 0] 35) = W := ⟨_, rfl⟩
  rw [hW] at ax kx s0
  have hD := h.below ((Below.refl w.heap.size w).alloc (Nat.le_refl _) (.cells #[.int .i64 0, .slice none 0 0, .slice none 0 0, .slice none 0 0, .slice none 0 0] 35))
  rw [hW] at hD
  replace hW := Lib.hid hW
  replace s0 := Lib.hid s0

  have hn := Lib.hid (pair_any hD hm)
  go_enter Try.func55, Try.ntmps55
  go_wp2_with fail
  rw [hW.out]
  refine hn.out.mono ?_
  rintro e w1 ⟨p, r, c, s, t, vv, xs, hR, hx, rfl, hq, ov, b1⟩
  have z1 := Lib.hid b1.size
  have B1 := Lib.hid (ax.trans (b1.mono ax.size))
  replace kx := Lib.hid (blk_below kx b1)
  clear ax hn hW b1 h hD
  obtain ⟨A1, m1, rfl, -⟩ := row_of_owns (PQ.o1 hq)
  obtain ⟨A2, m2, rfl, -⟩ := row_of_owns (PQ.o2 hq)
  obtain ⟨A3, m3, rfl, -⟩ := row_of_owns (PQ.o3 hq)
  obtain ⟨A4, m4, rfl, -⟩ := row_of_owns (PQ.o4 hq)

  obtain ⟨A5, m5, rfl, -⟩ := row_of_owns ov
  replace hq := Lib.hid hq
  replace ov := Lib.hid ov
  obtain ⟨y0, y1, y2, y3, y4⟩ := blk5 kx.out
  have fx := frz kx.out
  go_wp2
  refine bodyPost_ret (v := .tuple #[pv p.ind (.slice A1 p.rules.length m1) (.slice A2 p.chunks.length m2) (.slice A3 p.spans.length m3) (.slice A4 p.ties.length m4), .slice A5 xs.length m5]) (by simp [results, Try.results55, go_sem, y0, y1, y2, y3, y4]) rfl ?_
  exact ⟨p, _, _, _, _, _, xs, hR, hx, rfl, (hq.out.keep (keep_res w1 w.heap.size _ _ _ _ _) (by have := s0.out; have := z1.out; omega)).mono (by have := s0.out; have := z1.out; omega), own_mono (own_keep ov.out (keep_res w1 w.heap.size _ _ _ _ _) (by have := s0.out; have := z1.out; omega)) (by have := s0.out; have := z1.out; omega), below_res B1.out (Nat.le_refl _) _ _ _ _ _⟩

set_option maxRecDepth 100000 in
set_option maxHeartbeats 3200000 in
theorem drawNextOf_any {w : World} {v : Value} {bs : List Int} (h : Drawn w v bs) (hm : bs.length ≤ 1048576) :
    Calls Try.prog 53 #[v] w fun e w' => ∃ (p : P) (r c s t : Value) (v : Value) (xs : List Int), Sm p ∧ xs.length ≤ 11 ∧ e = .returned (.tuple #[pv p.ind r c s t, v]) ∧ PQ w.heap.size w' p r c s t ∧ w'.ownsRow w.heap.size 3 1 v xs.length (ints xs) ∧ Below w.heap.size w w' := by
  obtain ⟨Av, cv, rfl⟩ := h.le
  have ax := (Below.refl w.heap.size w).alloc (Nat.le_refl _) (.cells #[.int .i64 0, .slice none 0 0, .slice none 0 0, .slice none 0 0, .slice none 0 0] 35)
  have kx := heap_alloc_new w (.cells #[.int .i64 0, .slice none 0 0, .slice none 0 0, .slice none 0 0, .slice none 0 0] 35)
  have s0 : (w.alloc (.cells #[.int .i64 0, .slice none 0 0, .slice none 0 0, .slice none 0 0, .slice none 0 0] 35)).heap.size = w.heap.size + 1 := by simp
  obtain ⟨W, hW⟩ : ∃ W, w.alloc (.cells #[.int .i64 0, .slice none 0 0, .slice none 0 0, .slice none 0 0, .slice none 0 0] 35) = W := ⟨_, rfl⟩
  rw [hW] at ax kx s0
  have hD := h.below ((Below.refl w.heap.size w).alloc (Nat.le_refl _) (.cells #[.int .i64 0, .slice none 0 0, .slice none 0 0, .slice none 0 0, .slice none 0 0] 35))
  rw [hW] at hD
  replace hW := Lib.hid hW
  replace s0 := Lib.hid s0

  have hn := Lib.hid (pair_any hD hm)
  go_enter Try.func53, Try.ntmps53
  go_wp2_with fail
  rw [hW.out]
  refine hn.out.mono ?_
  rintro e w1 ⟨p, r, c, s, t, vv, xs, hR, hx, rfl, hq, ov, b1⟩
  have z1 := Lib.hid b1.size
  have B1 := Lib.hid (ax.trans (b1.mono ax.size))
  replace kx := Lib.hid (blk_below kx b1)
  clear ax hn hW b1 h hD
  obtain ⟨A1, m1, rfl, -⟩ := row_of_owns (PQ.o1 hq)
  obtain ⟨A2, m2, rfl, -⟩ := row_of_owns (PQ.o2 hq)
  obtain ⟨A3, m3, rfl, -⟩ := row_of_owns (PQ.o3 hq)
  obtain ⟨A4, m4, rfl, -⟩ := row_of_owns (PQ.o4 hq)

  obtain ⟨A5, m5, rfl, -⟩ := row_of_owns ov
  replace hq := Lib.hid hq
  replace ov := Lib.hid ov
  obtain ⟨y0, y1, y2, y3, y4⟩ := blk5 kx.out
  have fx := frz kx.out
  go_wp2
  refine bodyPost_ret (v := .tuple #[pv p.ind (.slice A1 p.rules.length m1) (.slice A2 p.chunks.length m2) (.slice A3 p.spans.length m3) (.slice A4 p.ties.length m4), .slice A5 xs.length m5]) (by simp [results, Try.results53, go_sem, y0, y1, y2, y3, y4]) rfl ?_
  exact ⟨p, _, _, _, _, _, xs, hR, hx, rfl, (hq.out.keep (keep_res w1 w.heap.size _ _ _ _ _) (by have := s0.out; have := z1.out; omega)).mono (by have := s0.out; have := z1.out; omega), own_mono (own_keep ov.out (keep_res w1 w.heap.size _ _ _ _ _) (by have := s0.out; have := z1.out; omega)) (by have := s0.out; have := z1.out; omega), below_res B1.out (Nat.le_refl _) _ _ _ _ _⟩

end Go.Proofs.Ytlakellmdcdaaaa.Draw
/-
  The contracts of spec.DrawWidth, spec.DrawBestOf and spec.DrawSplitsAt.
  Conditions: the code that is drawn from reads as bytes.
-/
namespace Go.Proofs.Ytlakellmdcdaaaa.Draw
open Go.RowKit Go.Proofs.Ytlakellmdcdaaaa.Row Go.Proofs.Ytlakellmdcdaaaa.Mem Go.Proofs.Ytlakellmdcdaaaa.Mix Go.Proofs.Ytlakellmdcdaaaa.Owns Go.Proofs.Ytlakellmdcdaaaa.Blocks Go.Proofs.Ytlakellmdcdaaaa.Piece Go.Proofs.Ytlakellmdcdaaaa.Pc Go.Proofs.Ytlakellmdcdaaaa.Ints
set_option maxRecDepth 100000 in
set_option maxHeartbeats 3200000 in
theorem drawWidth_any {w : World} {v : Value} {bs : List Int} (h : Drawn w v bs) (hm : bs.length ≤ 1048576) :
    Calls Try.prog 49 #[v] w fun e w' => ∃ x : Int, e = .returned (.int .i64 x) ∧ Below w.heap.size w w' := by
  obtain ⟨Av, cv, rfl⟩ := h.le
  replace h := Lib.hid h
  go_enter Try.func49, Try.ntmps49
  go_wp2_with fail
  refine (new_any h.out hm).mono ?_
  rintro e w1 ⟨rfl, c1, b1⟩
  have al := (Below.refl w1.heap.size w1).alloc (Nat.le_refl _) (.cells #[.int .i64 10, .int .i64 20, .int .i64 30, .int .i64 40, .int .i64 60, .int .i64 80] 3)
  have l1 := c1.lt
  have hp := Lib.hid (pickInt_any (c1.below al) w1.heap.size [10, 20, 30, 40, 60, 80] 6 _ _ (str_alloc w1 _ _ _) (by omega) rfl (by omega) (by omega))
  have B1 := Lib.hid (b1.trans (al.mono b1.size))
  clear al c1 b1 l1 h
  go_wp2_with fail
  refine hp.out.mono ?_
  rintro e w2 ⟨x, -, rfl, c2, k2⟩
  have B2 := Lib.hid (below_keep B1.out k2 B1.out.size (Nat.le_refl _))
  clear c2 k2 hp B1
  go_wp2
  go_ret
  exact ⟨x, rfl, B2.out⟩
set_option maxRecDepth 100000 in
set_option maxHeartbeats 3200000 in
theorem drawBestOf_any {w : World} {v : Value} {bs : List Int} (h : Drawn w v bs) (hm : bs.length ≤ 1048576) :
    Calls Try.prog 52 #[v] w fun e w' => ∃ (p : P) (r c s t : Value) (x : Int), Sm p ∧ e = .returned (.tuple #[pv p.ind r c s t, .int .i64 x]) ∧ PQ w.heap.size w' p r c s t ∧ Below w.heap.size w w' := by
  obtain ⟨Av, cv, rfl⟩ := h.le
  have ax := (Below.refl w.heap.size w).alloc (Nat.le_refl _) (.cells #[.int .i64 0, .slice none 0 0, .slice none 0 0, .slice none 0 0, .slice none 0 0] 35)
  have kx := heap_alloc_new w (.cells #[.int .i64 0, .slice none 0 0, .slice none 0 0, .slice none 0 0, .slice none 0 0] 35)
  have s0 : (w.alloc (.cells #[.int .i64 0, .slice none 0 0, .slice none 0 0, .slice none 0 0, .slice none 0 0] 35)).heap.size = w.heap.size + 1 := by simp
  obtain ⟨W, hW⟩ : ∃ W, w.alloc (.cells #[.int .i64 0, .slice none 0 0, .slice none 0 0, .slice none 0 0, .slice none 0 0] 35) = W := ⟨_, rfl⟩
  rw [hW] at ax kx s0
  have hD := h.below ((Below.refl w.heap.size w).alloc (Nat.le_refl _) (.cells #[.int .i64 0, .slice none 0 0, .slice none 0 0, .slice none 0 0, .slice none 0 0] 35))
  rw [hW] at hD
  replace hW := Lib.hid hW
  replace s0 := Lib.hid s0

  go_enter Try.func52, Try.ntmps52
  have hn := Lib.hid (new_any hD hm)
  go_wp2_with fail
  rw [hW.out]
  refine hn.out.mono ?_
  rintro e w1 ⟨rfl, c1, b1⟩
  have al := (Below.refl w1.heap.size w1).alloc (Nat.le_refl _) (.cells #[.int .i64 10, .int .i64 20, .int .i64 30, .int .i64 60] 3)
  have l1 := c1.lt
  have hp := Lib.hid (pickInt_any (c1.below al) w1.heap.size [10, 20, 30, 60] 4 _ _ (str_alloc w1 _ _ _) (by omega) rfl (by omega) (by omega))
  have B1 := Lib.hid ((ax.trans (b1.mono ax.size)).trans (al.mono ((ax.trans (b1.mono ax.size)).size)))
  have z1 := Lib.hid (Nat.le_trans b1.size al.size)
  replace kx := Lib.hid (blk_below (blk_below kx b1) al)
  clear al c1 b1 l1 h hn hD ax hW
  go_wp2_with fail
  refine hp.out.mono ?_
  rintro e w2 ⟨x, -, rfl, c2, k2⟩
  have z2 := Lib.hid (Nat.le_trans z1.out k2.size)
  replace kx := Lib.hid ((k2.block _ (blk_lt kx.out) (fun e => by injection e; have := s0.out; omega)).trans kx.out)
  have B2 := Lib.hid (below_keep B1.out k2 B1.out.size (by have := s0.out; omega))
  clear k2 hp B1 z1
  go_wp2_with fail
  refine (anyp_any c2).mono ?_
  rintro e w3 ⟨p, r, c, s, t, hR, rfl, hO⟩
  have hq := hO.q
  replace kx := Lib.hid ((hO.keep.block _ (blk_lt kx.out) (fun e => by injection e; have := s0.out; omega)).trans kx.out)
  have B3 := Lib.hid (below_keep B2.out hO.keep B2.out.size (by have := s0.out; omega))
  clear B2 hO c2
  obtain ⟨A1, m1, rfl, -⟩ := row_of_owns (PQ.o1 hq)
  obtain ⟨A2, m2, rfl, -⟩ := row_of_owns (PQ.o2 hq)
  obtain ⟨A3, m3, rfl, -⟩ := row_of_owns (PQ.o3 hq)
  obtain ⟨A4, m4, rfl, -⟩ := row_of_owns (PQ.o4 hq)
  replace hq := Lib.hid hq
  obtain ⟨y0, y1, y2, y3, y4⟩ := blk5 kx.out
  have fx := frz kx.out
  go_wp2
  refine bodyPost_ret (v := .tuple #[pv p.ind (.slice A1 p.rules.length m1) (.slice A2 p.chunks.length m2) (.slice A3 p.spans.length m3) (.slice A4 p.ties.length m4), .int .i64 x]) (by simp [results, Try.results52, go_sem, y0, y1, y2, y3, y4]) rfl ?_
  exact ⟨p, _, _, _, _, x, hR, rfl, (hq.out.keep (keep_res w3 w.heap.size _ _ _ _ _) (by have := s0.out; have := z2.out; omega)).mono (by have := s0.out; have := z2.out; omega), below_res B3.out (Nat.le_refl _) _ _ _ _ _⟩
set_option maxRecDepth 100000 in
set_option maxHeartbeats 3200000 in
theorem drawSplitsAt_any {w : World} {v : Value} {bs : List Int} (h : Drawn w v bs) (hm : bs.length ≤ 1048576) :
    Calls Try.prog 56 #[v] w fun e w' => ∃ (p : P) (r c s t : Value) (v : Value) (xs : List Int) (i : Int), Sm p ∧ xs.length ≤ 11 ∧ e = .returned (.tuple #[pv p.ind r c s t, v, .int .i64 i]) ∧ PQ w.heap.size w' p r c s t ∧ w'.ownsRow w.heap.size 3 1 v xs.length (ints xs) ∧ Below w.heap.size w w' := by
  obtain ⟨Av, cv, rfl⟩ := h.le
  have ax := (Below.refl w.heap.size w).alloc (Nat.le_refl _) (.cells #[.int .i64 0, .slice none 0 0, .slice none 0 0, .slice none 0 0, .slice none 0 0] 35)
  have kx := heap_alloc_new w (.cells #[.int .i64 0, .slice none 0 0, .slice none 0 0, .slice none 0 0, .slice none 0 0] 35)
  have s0 : (w.alloc (.cells #[.int .i64 0, .slice none 0 0, .slice none 0 0, .slice none 0 0, .slice none 0 0] 35)).heap.size = w.heap.size + 1 := by simp
  obtain ⟨W, hW⟩ : ∃ W, w.alloc (.cells #[.int .i64 0, .slice none 0 0, .slice none 0 0, .slice none 0 0, .slice none 0 0] 35) = W := ⟨_, rfl⟩
  rw [hW] at ax kx s0
  have hD := h.below ((Below.refl w.heap.size w).alloc (Nat.le_refl _) (.cells #[.int .i64 0, .slice none 0 0, .slice none 0 0, .slice none 0 0, .slice none 0 0] 35))
  rw [hW] at hD
  replace hW := Lib.hid hW
  replace s0 := Lib.hid s0

  go_enter Try.func56, Try.ntmps56
  have hn := Lib.hid (new_any hD hm)
  go_wp2_with fail
  rw [hW.out]
  refine hn.out.mono ?_
  rintro e w1 ⟨rfl, c1, b1⟩
  have B1 := Lib.hid (ax.trans (b1.mono ax.size))
  replace kx := Lib.hid (blk_below kx b1)
  replace h := Lib.hid h
  clear b1 hn hD ax hW
  go_wp2_with fail
  refine (below_any c1 10).mono ?_
  rintro e w2 ⟨x, x0, x1, -, rfl, c2, k2⟩
  replace x1 := x1 (by omega)
  replace kx := Lib.hid ((k2.block _ (blk_lt kx.out) (fun e => by injection e; have := s0.out; omega)).trans kx.out)
  have B2 := Lib.hid (below_keep B1.out k2 B1.out.size (by have := s0.out; omega))
  have z2 := Lib.hid (show w.heap.size < w2.heap.size from Nat.lt_of_lt_of_le (blk_lt kx.out) (Nat.le_refl _))
  clear k2 B1 c1 c2
  go_wp2_with fail
  refine (pair_any (Drawn.below h.out B2.out) hm).mono ?_
  rintro e w3 ⟨p, r, c, s, t, vv, xs, hR, hx, rfl, hq, ov, b3⟩
  replace kx := Lib.hid (blk_below kx.out b3)
  have B3 := Lib.hid (B2.out.trans (b3.mono B2.out.size))
  have z3 := Lib.hid b3.size
  clear B2 b3 h
  obtain ⟨A1, m1, rfl, -⟩ := row_of_owns (PQ.o1 hq)
  obtain ⟨A2, m2, rfl, -⟩ := row_of_owns (PQ.o2 hq)
  obtain ⟨A3, m3, rfl, -⟩ := row_of_owns (PQ.o3 hq)
  obtain ⟨A4, m4, rfl, -⟩ := row_of_owns (PQ.o4 hq)
  obtain ⟨A5, m5, rfl, -⟩ := row_of_owns ov
  replace hq := Lib.hid hq
  replace ov := Lib.hid ov
  obtain ⟨y0, y1, y2, y3, y4⟩ := blk5 kx.out
  have fx := frz kx.out
  have lx := blk_lt kx.out
  have hal := Lib.hid (fun W : World => (Below.refl W.heap.size W).alloc (Nat.le_refl _) (.cells #[.int .i64 p.ind, .slice A1 p.rules.length m1, .slice A2 p.chunks.length m2, .slice A3 p.spans.length m3, .slice A4 p.ties.length m4] 35))
  go_wp2
  refine bodyPost_ret (v := .tuple #[pv p.ind (.slice A1 p.rules.length m1) (.slice A2 p.chunks.length m2) (.slice A3 p.spans.length m3) (.slice A4 p.ties.length m4), .slice A5 xs.length m5, .int .i64 (x - 1)]) (by simp [results, Try.results56, go_sem, y0, y1, y2, y3, y4, lx]) rfl ?_
  exact ⟨p, _, _, _, _, _, xs, x - 1, hR, hx, rfl, ((hq.out.keep (keep_res w3 w.heap.size _ _ _ _ _) z2.out).mono (Nat.le_of_lt z2.out)).below (hal.out _), own_below (own_mono (own_keep ov.out (keep_res w3 w.heap.size _ _ _ _ _) z2.out) (Nat.le_of_lt z2.out)) (hal.out _), (below_res B3.out (Nat.le_refl _) _ _ _ _ _).alloc (by simp; have := z2.out; have := z3.out; omega) _⟩
end Go.Proofs.Ytlakellmdcdaaaa.Draw
