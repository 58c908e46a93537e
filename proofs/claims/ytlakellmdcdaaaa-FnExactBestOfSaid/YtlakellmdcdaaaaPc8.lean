/-
  The contracts of impl.render and spec.l09Render.
  Conditions: a right piece, right values; texts of 2^20 bytes at most together.
-/
import Derived.Test.YtlakellmdcdaaaaPc5
import Derived.Test.YtlakellmdcdaaaaPc7
import Derived.Test.YtlakellmdcdaaaaRep
namespace Go.Proofs.Ytlakellmdcdaaaa.Pc
open Go.RowKit Go.Proofs.Ytlakellmdcdaaaa.Row Go.Proofs.Ytlakellmdcdaaaa.Mem Go.Proofs.Ytlakellmdcdaaaa.Mix Go.Proofs.Ytlakellmdcdaaaa.Recs Go.Proofs.Ytlakellmdcdaaaa.Owns Go.Proofs.Ytlakellmdcdaaaa.Blocks Go.Proofs.Ytlakellmdcdaaaa.Piece Go.Proofs.Ytlakellmdcdaaaa.All Go.Proofs.Ytlakellmdcdaaaa.Ints Go.Proofs.Ytlakellmdcdaaaa.Strs Go.Proofs.Ytlakellmdcdaaaa.Rep
/-- the lines so far and the line under way, after so many chunks -/
def ren (p : P) (xs : List Int) : Nat → List ByteArray × ByteArray
  | 0 => ([], spaces p.ind.toNat)
  | k + 1 =>
    if k + 1 = p.chunks.length then ((ren p xs k).1, (ren p xs k).2 ++ (chunkAt p k).t)
    else if splitAt p xs k = true then ((ren p xs k).1 ++ [(ren p xs k).2 ++ (chunkAt p k).t], spaces (p.ind + (chunkAt p k).n).toNat)
    else if (chunkAt p k).s = true then ((ren p xs k).1, (ren p xs k).2 ++ (chunkAt p k).t ++ ByteArray.mk #[32])
    else ((ren p xs k).1, (ren p xs k).2 ++ (chunkAt p k).t)
def renderTo (p : P) (xs : List Int) : List ByteArray := (ren p xs p.chunks.length).1 ++ [(ren p xs p.chunks.length).2]
def tt (p : P) : Nat → Nat
  | 0 => 0
  | k + 1 => tt p k + (chunkAt p k).t.size
theorem tt_eq (p : P) : ∀ {k : Nat}, k ≤ p.chunks.length → tt p k = tot ((Chunk.texts p.chunks).take k)
  | 0, _ => by simp [tt, tot]
  | k + 1, h => by
    have hk : k < (Chunk.texts p.chunks).length := by simp [Chunk.texts]; omega
    rw [tt, tt_eq p (by omega), List.take_succ_eq_append_getElem hk, tot_snoc, chunkAt_eq (by omega)]
    simp [Chunk.texts]
theorem tt_le {p : P} {k : Nat} (h : k ≤ p.chunks.length) : tt p k ≤ tot (Chunk.texts p.chunks) := by rw [tt_eq p h]; exact tot_take _ _
theorem mk_size : (ByteArray.mk #[32]).size = 1 := rfl
theorem ren_size {p : P} (xs : List Int) (hR : Right p) : ∀ {k : Nat}, k ≤ p.chunks.length → (ren p xs k).2.size ≤ 100 + tt p k + k
  | 0, _ => by
    have := hR.ind
    simp only [ren, spaces_size]
    omega
  | k + 1, h => by
    have ih := ren_size xs hR (k := k) (by omega)
    have hi := hR.ind
    unfold ren
    split
    · simp only [ByteArray.size_append, tt]; omega
    · rename_i hn
      obtain ⟨a, -, -, h3, h4, -⟩ := right_split hR (i := k) (by omega)
      split
      · simp only [spaces_size]; omega
      · split
        · simp only [ByteArray.size_append, mk_size, tt]; omega
        · simp only [ByteArray.size_append, tt]; omega
theorem ren_len (p : P) (xs : List Int) : ∀ (k : Nat), (ren p xs k).1.length ≤ k
  | 0 => by simp [ren]
  | k + 1 => by
    have ih := ren_len p xs k
    unfold ren
    split
    · simp only; omega
    · split
      · simp only [List.length_append, List.length_singleton]; omega
      · split <;> (simp only; omega)
theorem strs_snoc (l : List ByteArray) (x : ByteArray) : strs l ++ [.string x] = strs (l ++ [x]) := by simp [strs]
theorem add_size {a b : ByteArray} : (a ++ b).size = a.size + b.size := ByteArray.size_append
set_option maxRecDepth 100000 in
set_option maxHeartbeats 6400000 in
theorem impl_render {p : P} {r c s t v : Value} {xs : List Int} {w : World} (h : PRow w p r c s t) (hv : Row w v 1 xs.length (ints xs)) (hR : Right p) (hx : xs.length = p.rules.length) (ht : tot (Chunk.texts p.chunks) ≤ 1048576) :
    Calls Try.prog 88 #[pv p.ind r c s t, v] w fun e w' => ∃ v', e = .returned v' ∧ w'.ownsRow w.heap.size 9 1 v' (renderTo p xs).length (strs (renderTo p xs)) ∧ Below w.heap.size w w' := by
  obtain ⟨⟨A1, m1, rfl⟩, ⟨A2, m2, rfl⟩, ⟨A3, m3, rfl⟩, ⟨A4, m4, rfl⟩⟩ := h.lits
  obtain ⟨A, c1, e1, -, hn, hnc, hcm, hac⟩ := h.chunks
  injection e1 with ea el ec
  subst ea ec
  clear el
  obtain ⟨b, off, rfl, hb, hc⟩ := hac (by have := hR.nchunks; omega)
  clear hac

  have hi := hR.ind
  have hn1 := hR.nchunks
  have hb1 := (Below.refl w.heap.size w).alloc (Nat.le_refl _) (.cells #[.int .i64 p.ind, .slice A1 p.rules.length m1, .slice (some ⟨b, off, none⟩) p.chunks.length m2, .slice A3 p.spans.length m3, .slice A4 p.ties.length m4] 35)
  have kb := heap_alloc_new w (.cells #[.int .i64 p.ind, .slice A1 p.rules.length m1, .slice (some ⟨b, off, none⟩) p.chunks.length m2, .slice A3 p.spans.length m3, .slice A4 p.ties.length m4] 35)
  obtain ⟨W, hW⟩ : ∃ W, w.alloc (.cells #[.int .i64 p.ind, .slice A1 p.rules.length m1, .slice (some ⟨b, off, none⟩) p.chunks.length m2, .slice A3 p.spans.length m3, .slice A4 p.ties.length m4] 35) = W := ⟨_, rfl⟩
  rw [hW] at hb1 kb
  replace hW := Lib.hid hW
  replace h := Lib.hid h
  replace hv := Lib.hid hv
  replace hR := Lib.hid hR
  replace hx := Lib.hid hx
  replace ht := Lib.hid ht
  replace hb1 := Lib.hid hb1
  replace kb := Lib.hid kb
  go_enter Try.func88, Try.ntmps88
  go_wp2_with fail
  rw [hW.out]
  refine (impl_blanks p.ind hi.1 (by omega) W).mono ?_
  rintro e w1 ⟨rfl, bb⟩
  replace hb1 := Lib.hid (hb1.out.trans (bb.mono hb1.out.size))
  replace kb := Lib.hid (blk_below kb.out bb)
  clear bb hW
  have hs1 := blk_lt kb.out
  obtain ⟨x0, x1, x2, x3, x4⟩ := blk5 kb.out
  clear x0 x1 x3 x4
  go_wp2
  clear x2 hs1
  go_loopw [5, 6, 7, 15] (fun o s _ i wr => ∃ k : Nat, k < p.chunks.length ∧ i = .int .i64 k ∧ s = .string (ren p xs k).2 ∧ wr.ownsRow w.heap.size 9 1 o (ren p xs k).1.length (strs (ren p xs k).1) ∧ Below w.heap.size w wr ∧ Hid (wr.heap[w.heap.size]? = some (.cells #[.int .i64 p.ind, .slice A1 p.rules.length m1, .slice (some ⟨b, off, none⟩) p.chunks.length m2, .slice A3 p.spans.length m3, .slice A4 p.ties.length m4] 35 (0, 0))) ∧ Hid (∀ q, o.ownBlock = some q → w.heap.size + 1 ≤ q)) (fun _ _ _ i _ => p.chunks.length - (intOf i).toNat)
  case atStart => exact ⟨0, by omega, rfl, rfl, ⟨by simp [ren], .inl ⟨rfl, rfl⟩⟩, hb1.out, kb, Lib.hid (fun q hq => by cases hq)⟩
  case round =>
    clear hb1 kb
    obtain ⟨k, hlt, rfl, rfl, hown, hbw, hbx, hob⟩ := hrel
    have hs0 := blk_lt hbx.out
    have hsz := hbw.size
    obtain ⟨x0, x1, x2, x3, x4⟩ := blk5 hbx.out
    obtain ⟨c0, c1, c2, c3, c4⟩ := Chunk.cells_ (fun j u hu => (cells_of hbw b _ hb).trans (hc j u hu)) hlt
    have z3 : b ≠ wr.heap.size := by omega
    have z1 : b < wr.heap.size := by omega
    have hrs := ren_size xs hR.out (k := k) (by omega)
    have htt := tt_le (p := p) (k := k + 1) (by omega)
    rw [tt, chunkAt_eq hlt] at htt
    have htt2 := ht.out
    have hz : (ren p xs k).2.size + p.chunks[k].t.size + 1 ≤ 1099511627776 := by omega
    have i0 : (0 : Int) ≤ (k : Int) := by omega
    have i1 : (k : Int) < (p.chunks.length : Int) := by omega
    clear hrs htt htt2
    have hbc := hbw.alloc hsz (.cells #[.string p.chunks[k].t, .int .i64 p.chunks[k].r, .int .i64 p.chunks[k].f, .bool p.chunks[k].s, .int .i64 p.chunks[k].n] 95)
    have kc := heap_alloc_new wr (.cells #[.string p.chunks[k].t, .int .i64 p.chunks[k].r, .int .i64 p.chunks[k].f, .bool p.chunks[k].s, .int .i64 p.chunks[k].n] 95)
    have kbc := (Below.heap_alloc wr (.cells #[.string p.chunks[k].t, .int .i64 p.chunks[k].r, .int .i64 p.chunks[k].f, .bool p.chunks[k].s, .int .i64 p.chunks[k].n] 95) _ hs0).trans hbx.out
    have hac := (Below.refl wr.heap.size wr).alloc (Nat.le_refl _) (.cells #[.string p.chunks[k].t, .int .i64 p.chunks[k].r, .int .i64 p.chunks[k].f, .bool p.chunks[k].s, .int .i64 p.chunks[k].n] 95)
    have hsc : (wr.alloc (.cells #[.string p.chunks[k].t, .int .i64 p.chunks[k].r, .int .i64 p.chunks[k].f, .bool p.chunks[k].s, .int .i64 p.chunks[k].n] 95)).heap.size = wr.heap.size + 1 := by simp
    have hownc := own_below hown hac
    have hol := Lib.hid (fun q hq => (hown.lt q hq).2)
    by_cases hl : k + 1 = p.chunks.length
    · have d1 : decide ((k : Int) = (p.chunks.length : Int) - 1) = true := by simp; omega
      have d1' : ((k : Int) == (p.chunks.length : Int) - 1) = true := by simp; omega
      have hre : Hid (ren p xs p.chunks.length = ((ren p xs k).1, (ren p xs k).2 ++ p.chunks[k].t)) := Lib.hid (by rw [← hl, ren, if_pos hl, chunkAt_eq hlt])
      obtain ⟨v2, w2, hrun, o2, b2, g2, ob2⟩ := append_at ES hownc hbc (wr.heap.size + 1) hsc [.string ((ren p xs k).2 ++ p.chunks[k].t)] 1 rfl (by simp [Value.oneCell']) (by have := ren_len p xs k; simp only [maxLen]; omega) (by have := ren_len p xs k; omega)
      rw [strs_snoc, ← List.length_singleton (a := (ren p xs k).2 ++ p.chunks[k].t), ← List.length_append] at o2
      have hlen := Lib.hid (show renderTo p xs = (ren p xs k).1 ++ [(ren p xs k).2 ++ p.chunks[k].t] by unfold renderTo; rw [hre.out])
      rw [← hlen.out] at o2
      clear g2 ob2 hown hownc hbc kc kbc hac hre
      generalize (ren p xs k).2 = j at *
      go_wp2_with (at_builtin; refine wpList_append_run rfl rfl hrun ?_)
      go_ret
      exact ⟨_, rfl, o2, b2⟩
    · have d1 : decide ((k : Int) = (p.chunks.length : Int) - 1) = false := by simp; omega
      have d1' : ((k : Int) == (p.chunks.length : Int) - 1) = false := by simp; omega
      obtain ⟨a, ea, eal, hn0, hn40, -⟩ := right_split hR.out (i := k) (by omega)
      have hsp := impl_splits (h.out.below hbc) (hv.out.below hbc) hlt ea (by rw [hx.out]; exact eal)
      replace hsp := Lib.hid hsp
      have hre : Hid (ren p xs (k + 1) = if splitAt p xs k = true then ((ren p xs k).1 ++ [(ren p xs k).2 ++ p.chunks[k].t], spaces (p.ind + p.chunks[k].n).toNat) else if p.chunks[k].s = true then ((ren p xs k).1, (ren p xs k).2 ++ p.chunks[k].t ++ ByteArray.mk #[32]) else ((ren p xs k).1, (ren p xs k).2 ++ p.chunks[k].t)) := Lib.hid (by rw [ren, if_neg hl, chunkAt_eq hlt])
      rw [chunkAt_eq hlt] at hn0 hn40
      have hwn : wrap64 (p.ind + p.chunks[k].n) = p.ind + p.chunks[k].n := by unfold wrap64; omega
      obtain ⟨W, hW⟩ : ∃ W, wr.alloc (.cells #[.string p.chunks[k].t, .int .i64 p.chunks[k].r, .int .i64 p.chunks[k].f, .bool p.chunks[k].s, .int .i64 p.chunks[k].n] 95) = W := ⟨_, rfl⟩
      rw [hW] at hsp hbc kc kbc hac hsc hownc
      replace hW := Lib.hid hW
      generalize hj : (ren p xs k).2 = j at *
      replace hj := Lib.hid hj
      replace hownc := Lib.hid hownc
      replace kc := Lib.hid kc
      replace kbc := Lib.hid kbc
      replace hbc := Lib.hid hbc
      replace hob := Lib.hid hob.out
      clear hown hac hbw hbx ea eal
      obtain ⟨bb, hbb⟩ : ∃ b, splitAt p xs k = b := ⟨_, rfl⟩
      rw [hbb] at hsp hre
      go_wp2_with fail
      rw [hW.out]
      refine hsp.out.mono ?_
      rintro e w1 ⟨rfl, bs⟩
      replace hbc := Lib.hid (hbc.out.trans (bs.mono hbc.out.size))
      replace kc := Lib.hid (blk_below kc.out bs)
      replace kbc := Lib.hid (blk_below kbc.out bs)
      replace hownc := Lib.hid (own_below hownc.out bs)
      have hs1 := blk_lt kc.out
      have hs2 := blk_lt kbc.out
      have hs3 := hbc.out.size
      clear bs hsp hbb c0 c1 c2 c3 c4 x0 x1 x2 x3 x4 hW
      obtain ⟨x0, x1, x2, x3, x4⟩ := blk5 kbc.out
      obtain ⟨y0, y1, y2, y3, y4⟩ := blk5 kc.out
      clear x1 x2 x3 x4 y0 y1 y2
      cases bb
      · clear y4
        cases hsv : p.chunks[k].s
        · rw [hsv] at hre y3
          have hre' : Hid (ren p xs (k + 1) = ((ren p xs k).1, j ++ p.chunks[k].t)) := Lib.hid (by rw [hre.out]; simp)
          clear hre hsv
          go_wp2
          go_roundw
          case rel => exact ⟨k + 1, by omega, by go_num, by rw [hre'.out], by rw [hre'.out]; exact hownc.out, hbc.out, kbc, hob⟩
          case measure => simp [intOf]; omega
        · rw [hsv] at hre y3
          have hre' : Hid (ren p xs (k + 1) = ((ren p xs k).1, j ++ p.chunks[k].t ++ ByteArray.mk #[32])) := Lib.hid (by rw [hre.out]; simp)
          have hz2 : (j ++ p.chunks[k].t).size = j.size + p.chunks[k].t.size := add_size
          clear hre hsv
          go_wp2
          go_roundw
          case rel => exact ⟨k + 1, by omega, by go_num, by rw [hre'.out], by rw [hre'.out]; exact hownc.out, hbc.out, kbc, hob⟩
          case measure => simp [intOf]; omega
      · have hre' : Hid (ren p xs (k + 1) = ((ren p xs k).1 ++ [j ++ p.chunks[k].t], spaces (p.ind + p.chunks[k].n).toNat)) := Lib.hid (by rw [hre.out]; simp)
        clear hre y3
        obtain ⟨v3, w3, hrun, o3, b3, g3, ob3⟩ := append_at ES hownc.out hbc.out (w1.heap.size) rfl [.string (j ++ p.chunks[k].t)] 1 rfl (by simp [Value.oneCell']) (by have := ren_len p xs k; simp only [maxLen]; omega) (by have := ren_len p xs k; omega)
        rw [strs_snoc, ← List.length_singleton (a := j ++ p.chunks[k].t), ← List.length_append] at o3
        have k3 := Lib.hid ((g3.block _ hs2 (fun e => by have := hob.out _ e.symm; omega)).trans kbc.out)
        have kc3 := Lib.hid ((g3.block _ hs1 (fun e => by have := hol.out _ e.symm; omega)).trans kc.out)
        have hob' : Hid (∀ q, v3.ownBlock = some q → w.heap.size + 1 ≤ q) := Lib.hid (fun q hq => by
          rcases ob3 with e | e
          · exact hob.out q (e ▸ hq)
          · rw [e] at hq; injection hq with hq; omega)
        rw [← show (ren p xs (k + 1)).1 = (ren p xs k).1 ++ [j ++ p.chunks[k].t] by rw [hre'.out]] at o3
        replace o3 := Lib.hid o3
        replace b3 := Lib.hid b3
        replace hrun := Lib.hid hrun
        have hs4 := blk_lt k3.out
        have hs5 := blk_lt kc3.out
        clear x0 y4 g3 ob3 hownc kbc kc hbc hob hol
        obtain ⟨x0, x1, x2, x3, x4⟩ := blk5 k3.out
        obtain ⟨y0, y1, y2, y3, y4⟩ := blk5 kc3.out
        clear x1 x2 x3 x4 y0 y1 y2 y3
        go_wp2_with (at_builtin; refine wpList_append_run rfl rfl hrun.out ?_)
        refine (impl_blanks (p.ind + p.chunks[k].n) (by omega) (by omega) w3).mono ?_
        rintro e w4 ⟨rfl, b4⟩
        go_wp2
        go_roundw
        case rel => exact ⟨k + 1, by omega, by go_num, by rw [hre'.out], own_below o3.out b4, b3.out.trans (b4.mono b3.out.size), Lib.hid (blk_below k3.out b4), hob'⟩
        case measure => simp [intOf]; omega
end Go.Proofs.Ytlakellmdcdaaaa.Pc
/-
  The contract of spec.l09Render.
  Conditions: as for impl.render.
-/
namespace Go.Proofs.Ytlakellmdcdaaaa.Pc
open Go.RowKit Go.Proofs.Ytlakellmdcdaaaa.Row Go.Proofs.Ytlakellmdcdaaaa.Mem Go.Proofs.Ytlakellmdcdaaaa.Mix Go.Proofs.Ytlakellmdcdaaaa.Recs Go.Proofs.Ytlakellmdcdaaaa.Owns Go.Proofs.Ytlakellmdcdaaaa.Blocks Go.Proofs.Ytlakellmdcdaaaa.Piece Go.Proofs.Ytlakellmdcdaaaa.All Go.Proofs.Ytlakellmdcdaaaa.Ints Go.Proofs.Ytlakellmdcdaaaa.Strs Go.Proofs.Ytlakellmdcdaaaa.Rep
set_option maxRecDepth 100000 in
set_option maxHeartbeats 6400000 in
theorem spec_render {p : P} {r c s t v : Value} {xs : List Int} {w : World} (h : PRow w p r c s t) (hv : Row w v 1 xs.length (ints xs)) (hR : Right p) (hx : xs.length = p.rules.length) (ht : tot (Chunk.texts p.chunks) ≤ 1048576) :
    Calls Try.prog 87 #[pv p.ind r c s t, v] w fun e w' => ∃ v', e = .returned v' ∧ w'.ownsRow w.heap.size 9 1 v' (renderTo p xs).length (strs (renderTo p xs)) ∧ Below w.heap.size w w' := by
  obtain ⟨⟨A1, m1, rfl⟩, ⟨A2, m2, rfl⟩, ⟨A3, m3, rfl⟩, ⟨A4, m4, rfl⟩⟩ := h.lits
  obtain ⟨A, c1, e1, -, hn, hnc, hcm, hac⟩ := h.chunks
  injection e1 with ea el ec
  subst ea ec
  clear el
  obtain ⟨b, off, rfl, hb, hc⟩ := hac (by have := hR.nchunks; omega)
  clear hac

  have hi := hR.ind
  have hn1 := hR.nchunks
  replace h := Lib.hid h
  replace hv := Lib.hid hv
  replace hR := Lib.hid hR
  replace hx := Lib.hid hx
  replace ht := Lib.hid ht
  go_enter Try.func87, Try.ntmps87
  go_wp2_with (go_at_call 111; refine (spec_blanks p.ind hi.1 (by omega) _).mono ?_; rintro e w1 ⟨rfl, rfl⟩)
  go_loopw [5, 6, 7] (fun o s i wr => ∃ k : Nat, k < p.chunks.length ∧ i = .int .i64 k ∧ s = .string (ren p xs k).2 ∧ wr.ownsRow w.heap.size 9 1 o (ren p xs k).1.length (strs (ren p xs k).1) ∧ Below w.heap.size w wr ∧ Hid (wr.heap[w.heap.size]? = some (.cells #[.int .i64 p.ind, .slice A1 p.rules.length m1, .slice (some ⟨b, off, none⟩) p.chunks.length m2, .slice A3 p.spans.length m3, .slice A4 p.ties.length m4] 35 (0, 0))) ∧ Hid (∀ q, o.ownBlock = some q → w.heap.size + 1 ≤ q)) (fun _ _ i _ => p.chunks.length - (intOf i).toNat)
  case atStart =>
    have h1 := own_mono (own_empty (w.alloc (.cells #[.int .i64 p.ind, .slice A1 p.rules.length m1, .slice (some ⟨b, off, none⟩) p.chunks.length m2, .slice A3 p.spans.length m3, .slice A4 p.ties.length m4] 35)) 9 1) (base' := w.heap.size) (by simp)
    rw [show (w.alloc (.cells #[.int .i64 p.ind, .slice A1 p.rules.length m1, .slice (some ⟨b, off, none⟩) p.chunks.length m2, .slice A3 p.spans.length m3, .slice A4 p.ties.length m4] 35)).heap.size = w.heap.size + 1 by simp] at h1
    refine ⟨0, by omega, rfl, rfl, h1, below2 w _ _, Lib.hid (two w _ _).1, Lib.hid (fun q hq => ?_)⟩
    injection hq with hq
    simp at hq
    omega
  case round =>
    obtain ⟨k, hlt, rfl, rfl, hown, hbw, hbx, hob⟩ := hrel
    have hs0 := blk_lt hbx.out
    have hsz := hbw.size
    obtain ⟨x0, x1, x2, x3, x4⟩ := blk5 hbx.out
    obtain ⟨c0, c1, c2, c3, c4⟩ := Chunk.cells_ (fun j u hu => (cells_of hbw b _ hb).trans (hc j u hu)) hlt
    have z1 : b < wr.heap.size := by omega
    have hrs := ren_size xs hR.out (k := k) (by omega)
    have htt := tt_le (p := p) (k := k + 1) (by omega)
    rw [tt, chunkAt_eq hlt] at htt
    have htt2 := ht.out
    have hz : (ren p xs k).2.size + p.chunks[k].t.size + 1 ≤ 1099511627776 := by omega
    have i0 : (0 : Int) ≤ (k : Int) := by omega
    have i1 : (k : Int) < (p.chunks.length : Int) := by omega
    clear hrs htt htt2
    by_cases hl : k + 1 = p.chunks.length
    · have d1 : decide ((k : Int) + 1 = (p.chunks.length : Int)) = true := by simp; omega
      have d1' : ((k : Int) + 1 == (p.chunks.length : Int)) = true := by simp; omega
      have hre : Hid (ren p xs p.chunks.length = ((ren p xs k).1, (ren p xs k).2 ++ p.chunks[k].t)) := Lib.hid (by rw [← hl, ren, if_pos hl, chunkAt_eq hlt])
      obtain ⟨v2, w2, hrun, o2, b2, g2, ob2⟩ := append_at ES hown hbw (wr.heap.size) rfl [.string ((ren p xs k).2 ++ p.chunks[k].t)] 1 rfl (by simp [Value.oneCell']) (by have := ren_len p xs k; simp only [maxLen]; omega) (by have := ren_len p xs k; omega)
      rw [strs_snoc, ← List.length_singleton (a := (ren p xs k).2 ++ p.chunks[k].t), ← List.length_append] at o2
      have hlen := Lib.hid (show renderTo p xs = (ren p xs k).1 ++ [(ren p xs k).2 ++ p.chunks[k].t] by unfold renderTo; rw [hre.out])
      rw [← hlen.out] at o2
      clear g2 ob2 hown hbw hre
      generalize (ren p xs k).2 = j at *
      go_wp2_with (at_builtin; refine wpList_append_run rfl rfl hrun ?_)
      go_ret
      exact ⟨_, rfl, o2, b2⟩
    · have d1 : decide ((k : Int) + 1 = (p.chunks.length : Int)) = false := by simp; omega
      have d1' : ((k : Int) + 1 == (p.chunks.length : Int)) = false := by simp; omega
      obtain ⟨a, ea, eal, hn0, hn40, -⟩ := right_split hR.out (i := k) (by omega)
      have hsp := Lib.hid (spec_splits (h.out.below hbw) (hv.out.below hbw) hlt ea (by rw [hx.out]; exact eal))
      have hre : Hid (ren p xs (k + 1) = if splitAt p xs k = true then ((ren p xs k).1 ++ [(ren p xs k).2 ++ p.chunks[k].t], spaces (p.ind + p.chunks[k].n).toNat) else if p.chunks[k].s = true then ((ren p xs k).1, (ren p xs k).2 ++ p.chunks[k].t ++ ByteArray.mk #[32]) else ((ren p xs k).1, (ren p xs k).2 ++ p.chunks[k].t)) := Lib.hid (by rw [ren, if_neg hl, chunkAt_eq hlt])
      rw [chunkAt_eq hlt] at hn0 hn40
      have hwn : wrap64 (p.ind + p.chunks[k].n) = p.ind + p.chunks[k].n := by unfold wrap64; omega
      have hwr : IntKind.i64.wrap (p.ind + p.chunks[k].n) = p.ind + p.chunks[k].n := by rw [wrap_eq, hwn]
      have hcall := Lib.hid (spec_blanks (p.ind + p.chunks[k].n) (by omega) (by omega))
      generalize hj : (ren p xs k).2 = j at *
      replace hj := Lib.hid hj
      replace hown := Lib.hid hown
      replace hob := Lib.hid hob.out
      replace hbw := Lib.hid hbw
      clear ea eal
      obtain ⟨bb, hbb⟩ : ∃ b, splitAt p xs k = b := ⟨_, rfl⟩
      rw [hbb] at hsp hre
      go_wp2_with fail
      refine hsp.out.mono ?_
      rintro e w1 ⟨rfl, bs⟩
      replace hbw := Lib.hid (hbw.out.trans (bs.mono hbw.out.size))
      replace hbx := Lib.hid (blk_below hbx.out bs)
      replace hown := Lib.hid (own_below hown.out bs)
      have hs2 := blk_lt hbx.out
      have hs3 := hbw.out.size
      clear bs hsp hbb c0 c1 c2 c3 c4 x0 x1 x2 x3 x4 z1
      cases bb
      · obtain ⟨x0, x1, x2, x3, x4⟩ := blk5 hbx.out
        obtain ⟨c0, c1, c2, c3, c4⟩ := Chunk.cells_ (fun j u hu => (cells_of hbw.out b _ hb).trans (hc j u hu)) hlt
        have z1 : b < w1.heap.size := by omega
        clear x1 x3 x4 c0 c1 c2 c4
        cases hsv : p.chunks[k].s
        · rw [hsv] at hre c3
          have hre' : Hid (ren p xs (k + 1) = ((ren p xs k).1, j ++ p.chunks[k].t)) := Lib.hid (by rw [hre.out]; simp)
          clear hre hsv
          go_wp2
          go_roundw
          case rel => exact ⟨k + 1, by omega, by go_num, by rw [hre'.out], by rw [hre'.out]; exact hown.out, hbw.out, hbx, hob⟩
          case measure => simp [intOf]; omega
        · rw [hsv] at hre c3
          have hre' : Hid (ren p xs (k + 1) = ((ren p xs k).1, j ++ p.chunks[k].t ++ ByteArray.mk #[32])) := Lib.hid (by rw [hre.out]; simp)
          have hz2 : (j ++ p.chunks[k].t).size = j.size + p.chunks[k].t.size := add_size
          clear hre hsv
          go_wp2
          go_roundw
          case rel => exact ⟨k + 1, by omega, by go_num, by rw [hre'.out], by rw [hre'.out]; exact hown.out, hbw.out, hbx, hob⟩
          case measure => simp [intOf]; omega
      · have hre' : Hid (ren p xs (k + 1) = ((ren p xs k).1 ++ [j ++ p.chunks[k].t], spaces (p.ind + p.chunks[k].n).toNat)) := Lib.hid (by rw [hre.out]; simp)
        clear hre
        obtain ⟨v3, w3, hrun, o3, b3, g3, ob3⟩ := append_at ES hown.out hbw.out (w1.heap.size) rfl [.string (j ++ p.chunks[k].t)] 1 rfl (by simp [Value.oneCell']) (by have := ren_len p xs k; simp only [maxLen]; omega) (by have := ren_len p xs k; omega)
        rw [strs_snoc, ← List.length_singleton (a := j ++ p.chunks[k].t), ← List.length_append] at o3
        have k3 := Lib.hid ((g3.block _ hs2 (fun e => by have := hob.out _ e.symm; omega)).trans hbx.out)
        have hob' : Hid (∀ q, v3.ownBlock = some q → w.heap.size + 1 ≤ q) := Lib.hid (fun q hq => by
          rcases ob3 with e | e
          · exact hob.out q (e ▸ hq)
          · rw [e] at hq; injection hq with hq; omega)
        rw [← show (ren p xs (k + 1)).1 = (ren p xs k).1 ++ [j ++ p.chunks[k].t] by rw [hre'.out]] at o3
        replace o3 := Lib.hid o3
        obtain ⟨c0, c1, c2, c3, c4⟩ := Chunk.cells_ (fun j u hu => (cells_of b3 b _ hb).trans (hc j u hu)) hlt
        have hs4 := blk_lt k3.out
        have hs5 := b3.size
        have z1 : b < w3.heap.size := by omega
        replace b3 := Lib.hid b3
        replace hrun := Lib.hid hrun
        clear g3 ob3 hown hbw hbx hob c0 c1 c2 c3
        obtain ⟨x0, x1, x2, x3, x4⟩ := blk5 k3.out
        clear x1 x3 x4
        go_wp2_with (at_builtin; refine wpList_append_run rfl rfl hrun.out ?_)
        refine wp_region_below [(0, true), (1, true), (2, true), (3, true), (4, true), (5, true), (6, true), (7, true), (8, true), (9, true), (10, false), (11, false)] (by kernel_rfl) (by kernel_rfl) (fun d _ _ _ _ h => by cases d <;> exact h) ?_
        repeat
         (refine mix_still rfl (by rfl) ?_
          apply Exists.intro
          refine ⟨fun w' hS => ?_, ?_⟩
          · (have hS' := cells_of hS; clear hS; go_simp; (try go_bits); first | with_reducible rfl | (refine (if_pos ?_).trans ?_; omega; with_reducible rfl))
          (go_simp; (try go_bits)))
        refine mix_loud rfl (fun K hK => ?_)
        (go_simp; (try go_bits))
        refine (hcall.out _).mono ?_
        rintro _ w4 ⟨rfl, rfl⟩
        refine hK _ _ (no_need (by kernel_rfl)) ?_
        clear hK K
        go_simp
        refine mix_loud rfl (fun K hK => ?_)
        (go_simp; (try go_bits))
        refine hK _ _ (no_need (by kernel_rfl)) ?_
        clear hK K
        try (go_simp; (try go_bits))
        refine mix_nil ?_
        go_wp2
        go_roundw
        case rel => exact ⟨k + 1, by omega, by go_num, by rw [hre'.out], o3.out, b3.out.drew, k3, hob'⟩
        case measure => simp [intOf]; omega
end Go.Proofs.Ytlakellmdcdaaaa.Pc
