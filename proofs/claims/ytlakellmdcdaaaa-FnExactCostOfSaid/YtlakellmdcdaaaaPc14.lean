/-
  The contracts of impl.CostOf and spec.CostOf.
  Conditions: the piece reads as a piece, the values as a list of numbers; texts of 2^20 bytes at most together.
-/
import Derived.Test.YtlakellmdcdaaaaPc13
import Derived.Test.YtlakellmdcdaaaaCost
namespace Go.Proofs.Ytlakellmdcdaaaa.Pc
open Go.RowKit Go.Proofs.Ytlakellmdcdaaaa.Row Go.Proofs.Ytlakellmdcdaaaa.Mem Go.Proofs.Ytlakellmdcdaaaa.Mix Go.Proofs.Ytlakellmdcdaaaa.Recs Go.Proofs.Ytlakellmdcdaaaa.Owns Go.Proofs.Ytlakellmdcdaaaa.Blocks Go.Proofs.Ytlakellmdcdaaaa.Piece Go.Proofs.Ytlakellmdcdaaaa.All Go.Proofs.Ytlakellmdcdaaaa.Ints Go.Proofs.Ytlakellmdcdaaaa.Strs Go.Proofs.Ytlakellmdcdaaaa.Rep
def cO (p : P) (xs : List Int) (x : Int) : Int := if pieceOk p = true ∧ valuesOk p xs = true then overOf (widthOf x) (renderTo p xs) else 1000000
def cS (p : P) (xs : List Int) : Int := if pieceOk p = true ∧ valuesOk p xs = true then sumOf p xs else 0
set_option maxRecDepth 100000 in
set_option maxHeartbeats 3200000 in
theorem impl_CostOf {p : P} {r c s t v : Value} {xs : List Int} {w : World} (h : PRow w p r c s t) (hv : Row w v 1 xs.length (ints xs)) (ht : tot (Chunk.texts p.chunks) ≤ 1048576) (x : Int) :
    Calls Try.prog 43 #[pv p.ind r c s t, v, .int .i64 x] w fun e w' => e = .returned (cost (cO p xs x) (cS p xs)) ∧ Below w.heap.size w w' := by
  obtain ⟨⟨A1, m1, rfl⟩, ⟨A2, m2, rfl⟩, ⟨A3, m3, rfl⟩, ⟨A4, m4, rfl⟩⟩ := h.lits
  have hst := texts_le ht
  have hB0 := below2 w (.cells #[.int .i64 p.ind, .slice A1 p.rules.length m1, .slice A2 p.chunks.length m2, .slice A3 p.spans.length m3, .slice A4 p.ties.length m4] 35) (.cells #[.int .i64 0, .int .i64 0] 57)
  have hT := two w (.cells #[.int .i64 p.ind, .slice A1 p.rules.length m1, .slice A2 p.chunks.length m2, .slice A3 p.spans.length m3, .slice A4 p.ties.length m4] 35) (.cells #[.int .i64 0, .int .i64 0] 57)
  obtain ⟨W, hW⟩ : ∃ W, (w.alloc (.cells #[.int .i64 p.ind, .slice A1 p.rules.length m1, .slice A2 p.chunks.length m2, .slice A3 p.spans.length m3, .slice A4 p.ties.length m4] 35)).alloc (.cells #[.int .i64 0, .int .i64 0] 57) = W := ⟨_, rfl⟩
  rw [hW] at hB0 hT
  replace hW := Lib.hid hW
  have k := Lib.hid hT.1
  have k1 := Lib.hid hT.2.1
  clear hT
  replace h := Lib.hid (h.below hB0)
  replace hv := Lib.hid (hv.below hB0)
  replace ht := Lib.hid ht
  have hB := Lib.hid hB0
  clear hB0
  obtain ⟨bp, hbp⟩ : ∃ b, pieceOk p = b := ⟨_, rfl⟩
  obtain ⟨bv, hbv⟩ : ∃ b, valuesOk p xs = b := ⟨_, rfl⟩
  have hp := impl_PieceOk h.out hst
  rw [hbp] at hp
  replace hp := Lib.hid hp
  replace hbp := Lib.hid hbp
  replace hbv := Lib.hid hbv
  clear hst
  go_enter Try.func43, Try.ntmps43
  go_wp2_with fail
  rw [hW.out]
  refine hp.out.mono ?_
  rintro e w1 ⟨rfl, b1⟩
  replace hB := Lib.hid (hB.out.trans (b1.mono hB.out.size))
  replace k := Lib.hid (blk_below k.out b1)
  replace k1 := Lib.hid (blk_below k1.out b1)
  replace h := Lib.hid (h.out.below b1)
  replace hv := Lib.hid (hv.out.below b1)
  clear b1 hp hW
  have l1 := blk_lt k.out
  have l2 := blk_lt k1.out
  obtain ⟨x0, x1, x2, x3, x4⟩ := blk5 k.out
  cases bp
  · have hnoO := Lib.hid (show cO p xs x = 1000000 by unfold cO; rw [hbp.out]; simp)
    have hnoS := Lib.hid (show cS p xs = 0 by unfold cS; rw [hbp.out]; simp)
    obtain ⟨v0, v1⟩ := blk2 k1.out
    have g0 := frz k1.out
    go_wp2
    refine bodyPost_ret (v := cost 1000000 0) (by simp [results, Try.results43, go_sem, v0, v1]) rfl ⟨by rw [hnoO.out, hnoS.out], ?_⟩
    repeat (first | (with_reducible exact hB.out) | refine Below.setCell ?_ (by simp <;> omega) _)
  · have hvv := impl_ValuesOk h.out hv.out
    rw [hbv.out] at hvv
    replace hvv := Lib.hid hvv
    go_wp2_with fail
    refine hvv.out.mono ?_
    rintro e w2 ⟨rfl, b2⟩
    replace hB := Lib.hid (hB.out.trans (b2.mono hB.out.size))
    replace k := Lib.hid (blk_below k.out b2)
    replace k1 := Lib.hid (blk_below k1.out b2)
    replace h := Lib.hid (h.out.below b2)
    replace hv := Lib.hid (hv.out.below b2)
    clear b2 hvv l1 l2 x0 x1 x2 x3 x4
    have l1 := blk_lt k.out
    have l2 := blk_lt k1.out
    obtain ⟨x0, x1, x2, x3, x4⟩ := blk5 k.out
    cases bv
    · have hnoO := Lib.hid (show cO p xs x = 1000000 by unfold cO; rw [hbv.out]; simp)
      have hnoS := Lib.hid (show cS p xs = 0 by unfold cS; rw [hbv.out]; simp)
      obtain ⟨v0, v1⟩ := blk2 k1.out
      have g0 := frz k1.out
      go_wp2
      refine bodyPost_ret (v := cost 1000000 0) (by simp [results, Try.results43, go_sem, v0, v1]) rfl ⟨by rw [hnoO.out, hnoS.out], ?_⟩
      repeat (first | (with_reducible exact hB.out) | refine Below.setCell ?_ (by simp <;> omega) _)
    · have hyO := Lib.hid (show cO p xs x = overOf (widthOf x) (renderTo p xs) by unfold cO; rw [hbp.out, hbv.out]; simp)
      have hyS := Lib.hid (show cS p xs = sumOf p xs by unfold cS; rw [hbp.out, hbv.out]; simp)
      have hr := Lib.hid (impl_cost h.out hv.out (right_of hbp.out) hbv.out ht.out x)
      unfold costVal at hr
      rw [← hyO.out, ← hyS.out] at hr
      clear hyO hyS
      obtain ⟨o, ho⟩ : ∃ o, cO p xs x = o := ⟨_, rfl⟩
      obtain ⟨sm, hs⟩ : ∃ o, cS p xs = o := ⟨_, rfl⟩
      rw [ho, hs] at hr
      replace ho := Lib.hid ho
      replace hs := Lib.hid hs
      replace hr := Lib.hid hr.out
      go_wp2_with fail
      refine hr.out.mono ?_
      rintro e w3 ⟨rfl, b3⟩
      replace hB := Lib.hid (hB.out.trans (b3.mono hB.out.size))
      replace k1 := Lib.hid (blk_below k1.out b3)
      clear b3 x0 x1 x2 x3 x4 l1 l2 hr
      have l2 := blk_lt k1.out
      obtain ⟨v0, v1⟩ := blk2 k1.out
      have g0 := frz k1.out
      go_wp2
      refine bodyPost_ret (v := cost o sm) (by simp [results, Try.results43, go_sem, v0, v1]) rfl ⟨by rw [ho.out, hs.out], ?_⟩
      repeat (first | (with_reducible exact hB.out) | refine Below.setCell ?_ (by simp <;> omega) _)
set_option maxRecDepth 100000 in
set_option maxHeartbeats 3200000 in
theorem spec_CostOf {p : P} {r c s t v : Value} {xs : List Int} {w : World} (h : PRow w p r c s t) (hv : Row w v 1 xs.length (ints xs)) (ht : tot (Chunk.texts p.chunks) ≤ 1048576) (x : Int) :
    Calls Try.prog 42 #[pv p.ind r c s t, v, .int .i64 x] w fun e w' => e = .returned (cost (cO p xs x) (cS p xs)) ∧ Below w.heap.size w w' := by
  obtain ⟨⟨A1, m1, rfl⟩, ⟨A2, m2, rfl⟩, ⟨A3, m3, rfl⟩, ⟨A4, m4, rfl⟩⟩ := h.lits
  have hst := texts_le ht
  have hB0 := below2 w (.cells #[.int .i64 p.ind, .slice A1 p.rules.length m1, .slice A2 p.chunks.length m2, .slice A3 p.spans.length m3, .slice A4 p.ties.length m4] 35) (.cells #[.int .i64 0, .int .i64 0] 57)
  have hT := two w (.cells #[.int .i64 p.ind, .slice A1 p.rules.length m1, .slice A2 p.chunks.length m2, .slice A3 p.spans.length m3, .slice A4 p.ties.length m4] 35) (.cells #[.int .i64 0, .int .i64 0] 57)
  obtain ⟨W, hW⟩ : ∃ W, (w.alloc (.cells #[.int .i64 p.ind, .slice A1 p.rules.length m1, .slice A2 p.chunks.length m2, .slice A3 p.spans.length m3, .slice A4 p.ties.length m4] 35)).alloc (.cells #[.int .i64 0, .int .i64 0] 57) = W := ⟨_, rfl⟩
  rw [hW] at hB0 hT
  replace hW := Lib.hid hW
  have k := Lib.hid hT.1
  have k1 := Lib.hid hT.2.1
  clear hT
  replace h := Lib.hid (h.below hB0)
  replace hv := Lib.hid (hv.below hB0)
  replace ht := Lib.hid ht
  have hB := Lib.hid hB0
  clear hB0
  obtain ⟨bp, hbp⟩ : ∃ b, pieceOk p = b := ⟨_, rfl⟩
  obtain ⟨bv, hbv⟩ : ∃ b, valuesOk p xs = b := ⟨_, rfl⟩
  have hp := spec_PieceOk h.out hst
  rw [hbp] at hp
  replace hp := Lib.hid hp
  replace hbp := Lib.hid hbp
  replace hbv := Lib.hid hbv
  clear hst
  go_enter Try.func42, Try.ntmps42
  go_wp2_with fail
  rw [hW.out]
  refine hp.out.mono ?_
  rintro e w1 ⟨rfl, b1⟩
  replace hB := Lib.hid (hB.out.trans (b1.mono hB.out.size))
  replace k := Lib.hid (blk_below k.out b1)
  replace k1 := Lib.hid (blk_below k1.out b1)
  replace h := Lib.hid (h.out.below b1)
  replace hv := Lib.hid (hv.out.below b1)
  clear b1 hp hW
  have l1 := blk_lt k.out
  have l2 := blk_lt k1.out
  obtain ⟨x0, x1, x2, x3, x4⟩ := blk5 k.out
  cases bp
  · have hnoO := Lib.hid (show cO p xs x = 1000000 by unfold cO; rw [hbp.out]; simp)
    have hnoS := Lib.hid (show cS p xs = 0 by unfold cS; rw [hbp.out]; simp)
    obtain ⟨v0, v1⟩ := blk2 k1.out
    have g0 := frz k1.out
    go_wp2
    refine bodyPost_ret (v := cost 1000000 0) (by simp [results, Try.results42, go_sem, v0, v1]) rfl ⟨by rw [hnoO.out, hnoS.out], ?_⟩
    repeat (first | (with_reducible exact hB.out) | refine Below.setCell ?_ (by simp <;> omega) _)
  · have hvv := spec_ValuesOk h.out hv.out
    rw [hbv.out] at hvv
    replace hvv := Lib.hid hvv
    go_wp2_with fail
    refine hvv.out.mono ?_
    rintro e w2 ⟨rfl, b2⟩
    replace hB := Lib.hid (hB.out.trans (b2.mono hB.out.size))
    replace k := Lib.hid (blk_below k.out b2)
    replace k1 := Lib.hid (blk_below k1.out b2)
    replace h := Lib.hid (h.out.below b2)
    replace hv := Lib.hid (hv.out.below b2)
    clear b2 hvv l1 l2 x0 x1 x2 x3 x4
    have l1 := blk_lt k.out
    have l2 := blk_lt k1.out
    obtain ⟨x0, x1, x2, x3, x4⟩ := blk5 k.out
    cases bv
    · have hnoO := Lib.hid (show cO p xs x = 1000000 by unfold cO; rw [hbv.out]; simp)
      have hnoS := Lib.hid (show cS p xs = 0 by unfold cS; rw [hbv.out]; simp)
      obtain ⟨v0, v1⟩ := blk2 k1.out
      have g0 := frz k1.out
      go_wp2
      refine bodyPost_ret (v := cost 1000000 0) (by simp [results, Try.results42, go_sem, v0, v1]) rfl ⟨by rw [hnoO.out, hnoS.out], ?_⟩
      repeat (first | (with_reducible exact hB.out) | refine Below.setCell ?_ (by simp <;> omega) _)
    · have hyO := Lib.hid (show cO p xs x = overOf (widthOf x) (renderTo p xs) by unfold cO; rw [hbp.out, hbv.out]; simp)
      have hyS := Lib.hid (show cS p xs = sumOf p xs by unfold cS; rw [hbp.out, hbv.out]; simp)
      have hr := Lib.hid (spec_cost h.out hv.out (right_of hbp.out) hbv.out ht.out x)
      unfold costVal at hr
      rw [← hyO.out, ← hyS.out] at hr
      clear hyO hyS
      obtain ⟨o, ho⟩ : ∃ o, cO p xs x = o := ⟨_, rfl⟩
      obtain ⟨sm, hs⟩ : ∃ o, cS p xs = o := ⟨_, rfl⟩
      rw [ho, hs] at hr
      replace ho := Lib.hid ho
      replace hs := Lib.hid hs
      replace hr := Lib.hid hr.out
      go_wp2_with fail
      refine hr.out.mono ?_
      rintro e w3 ⟨rfl, b3⟩
      replace hB := Lib.hid (hB.out.trans (b3.mono hB.out.size))
      replace k1 := Lib.hid (blk_below k1.out b3)
      clear b3 x0 x1 x2 x3 x4 l1 l2 hr
      have l2 := blk_lt k1.out
      obtain ⟨v0, v1⟩ := blk2 k1.out
      have g0 := frz k1.out
      go_wp2
      refine bodyPost_ret (v := cost o sm) (by simp [results, Try.results42, go_sem, v0, v1]) rfl ⟨by rw [ho.out, hs.out], ?_⟩
      repeat (first | (with_reducible exact hB.out) | refine Below.setCell ?_ (by simp <;> omega) _)
end Go.Proofs.Ytlakellmdcdaaaa.Pc
