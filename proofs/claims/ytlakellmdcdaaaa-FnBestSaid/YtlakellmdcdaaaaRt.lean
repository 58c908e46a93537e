/-
  A piece as it is drawn is right; what may be split may be split at once; how many values there are.
  Conditions: the piece is one as it is drawn.
-/
import Derived.Test.YtlakellmdcdaaaaPieceDraw
import Derived.Test.YtlakellmdcdaaaaPc12
import Derived.Test.YtlakellmdcdaaaaBest
import Derived.Test.YtlakellmdcdaaaaPc5
namespace Go.Proofs.Ytlakellmdcdaaaa.Draw
open Go.RowKit Go.Proofs.Ytlakellmdcdaaaa.Row Go.Proofs.Ytlakellmdcdaaaa.Mem Go.Proofs.Ytlakellmdcdaaaa.Mix Go.Proofs.Ytlakellmdcdaaaa.Owns Go.Proofs.Ytlakellmdcdaaaa.Blocks Go.Proofs.Ytlakellmdcdaaaa.Piece Go.Proofs.Ytlakellmdcdaaaa.Pc Go.Proofs.Ytlakellmdcdaaaa.All
theorem rt_rule {p : P} (h : Rt p) {i : Nat} (hi : i < p.rules.length) : ((ruleAt p i).v = 2 ∨ (ruleAt p i).v = 3) ∧ 1 ≤ (ruleAt p i).c ∧ (ruleAt p i).c ≤ 2 := by
  rw [ruleAt_eq hi]
  exact h.rules _ (List.getElem_mem hi)
theorem rt_chunk {p : P} (h : Rt p) {i : Nat} (hi : i + 1 < p.chunks.length) : ChunkOk p.rules (chunkAt p i) := by
  obtain ⟨cs, x, hcs, hl, hck, hx, hs, hsp, ht, htk⟩ := h.chunks
  have hn : p.chunks.length = cs.length + 1 := by rw [hcs]; simp
  have hlt : i < cs.length := by omega
  have : chunkAt p i = cs[i] := by
    unfold chunkAt
    rw [hcs]
    simp [List.getD, List.getElem?_append_left hlt, hlt]
  rw [this]
  exact hck _ (List.getElem_mem hlt)
theorem rt_last {p : P} (h : Rt p) : LastOk (chunkAt p (p.chunks.length - 1)) := by
  obtain ⟨cs, x, hcs, hl, hck, hx, hs, hsp, ht, htk⟩ := h.chunks
  have : chunkAt p (p.chunks.length - 1) = x := by
    unfold chunkAt
    rw [hcs]
    simp [List.getD]
  rw [this]
  exact hx
theorem rt_sizes {p : P} (h : Rt p) : 1 ≤ p.chunks.length ∧ p.chunks.length ≤ 9 ∧ p.spans.length ≤ 2 ∧ p.ties.length ≤ 2 := by
  obtain ⟨cs, x, hcs, hl, hck, hx, hs, hsp, ht, htk⟩ := h.chunks
  have hn : p.chunks.length = cs.length + 1 := by rw [hcs]; simp
  exact ⟨by omega, by omega, hs, ht⟩
theorem rt_span {p : P} (h : Rt p) {i : Nat} (hi : i < p.spans.length) : SpanOk (p.chunks.length - 1) (spanAt p i) := by
  obtain ⟨cs, x, hcs, hl, hck, hx, hs, hsp, ht, htk⟩ := h.chunks
  have hn : p.chunks.length = cs.length + 1 := by rw [hcs]; simp
  rw [spanAt_eq hi, show p.chunks.length - 1 = cs.length by omega]
  exact hsp _ (List.getElem_mem hi)
theorem rt_tie {p : P} (h : Rt p) {i : Nat} (hi : i < p.ties.length) : TieOk p.rules.length (tieAt p i) := by
  obtain ⟨cs, x, hcs, hl, hck, hx, hs, hsp, ht, htk⟩ := h.chunks
  rw [tieAt_eq hi]
  exact htk _ (List.getElem_mem hi)
theorem dec_rt {p : P} (h : Rt p) {i : Nat} (hi : i < p.rules.length) : wrap64 ((ruleAt p i).v - 1) = (ruleAt p i).v - 1 := by
  rcases (rt_rule h hi).1 with h2 | h2
  · rw [h2]; unfold wrap64; omega
  · rw [h2]; unfold wrap64; omega
theorem rt_ok {p : P} (h : Rt p) : pieceOk p = true := by
  obtain ⟨n1, n2, n3, n4⟩ := rt_sizes h
  have hi0 := h.ind
  have h5 := h.r5
  unfold pieceOk rulesOk chunksOk sizesOk
  simp only [Bool.and_eq_true, decide_eq_true_eq, inR_iff, allTo_iff]
  refine ⟨by omega, ⟨fun i hi => ?_, by omega⟩, ⟨by omega, fun i hi => ?_, ?_⟩, ⟨by omega, by omega⟩, fun i hi => ?_, fun i hi => ?_⟩
  · have := rt_rule h hi
    unfold ruleFit
    simp only [Bool.and_eq_true, inR_iff]
    omega
  · unfold chunkFit
    by_cases hlt : i + 1 < p.chunks.length
    · obtain ⟨c1, c2, q, hq, c3, c4, c5, c6, c7⟩ := rt_chunk h hlt
      rw [c1, decide_eq_true hlt]
      simp only [Bool.true_and, Bool.not_true, Bool.false_or]
      unfold splitFit
      rw [c3, Int.toNat_natCast, dec_rt h hq, ruleAt_eq hq]
      simp only [Bool.and_eq_true, inR_iff]
      omega
    · have := rt_last h
      rw [show p.chunks.length - 1 = i by omega] at this
      rw [this.1, decide_eq_false hlt]
      rfl
  · obtain ⟨-, -, a, b, c, d⟩ := rt_last h
    unfold lastFit zeroSplit
    rw [a, b, c, d]
    rfl
  · obtain ⟨a, b, c, d, e⟩ := rt_span h hi
    unfold spanFit
    simp only [Bool.and_eq_true, inR_iff]
    omega
  · obtain ⟨a, b, c, d, e⟩ := rt_tie h hi
    unfold tieFit
    simp only [Bool.and_eq_true, inR_iff, Bool.not_eq_true', beq_eq_false_iff_ne]
    exact ⟨by omega, by omega, e⟩
theorem rt_right {p : P} (h : Rt p) : Right p := right_of (rt_ok h)
theorem val_all {p : P} (h : Rt p) {i : Nat} (hi : i < p.rules.length) : valAt (allSplit p) i = (ruleAt p i).v - 1 := by
  rw [← dec_rt h hi, valAt_eq (by rw [allSplit_len]; exact hi), ruleAt_eq hi]
  simp [allSplit, lasts]
theorem all_ok {p : P} (h : Rt p) : valuesOk p (allSplit p) = true := by
  refine ok_of_fit (rt_right h) (allSplit_len p) fun i hi => ?_
  rw [val_all h hi]
  have := (rt_rule h hi).1
  omega
theorem all_splits {p : P} (h : Rt p) {i : Nat} (hi : i + 1 < p.chunks.length) : splitsAt p (allSplit p) (i : Int) = true := by
  unfold splitsAt
  rw [all_ok h, rt_ok h, Int.toNat_natCast, inR_yes (by omega) (by omega)]
  obtain ⟨c1, c2, q, hq, c3, c4, c5, c6, c7⟩ := rt_chunk h hi
  unfold splitAt
  rw [c3, Int.toNat_natCast, val_all h hq, ruleAt_eq hq]
  simp
  omega
theorem all_ties {p : P} (h : Rt p) : tiesHold p (allSplit p) = true := by
  unfold tiesHold tiesOk
  rw [all_ok h, Bool.true_and, allTo_iff]
  intro i hi
  obtain ⟨a, b, c, d, e⟩ := rt_tie h hi
  unfold tieOk isR
  rw [inR_yes a (by omega), inR_yes c (by omega)]
  have hu := val_all h (i := (tieAt p i).u.toNat) (by omega)
  have := (rt_rule h (i := (tieAt p i).u.toNat) (by omega)).1
  rw [show (valAt (allSplit p) (tieAt p i).u.toNat == 0) = false from beq_eq_false_iff_ne.2 (by rw [hu]; omega)]
  simp
theorem none_ties {p : P} (h : Rt p) : tiesHold p (List.replicate p.rules.length 0) = true := by
  unfold tiesHold
  have h1 := seqv_ok (rt_right h) (allN_pos (rt_right h))
  have h2 := zero_ties (rt_right h)
  simp only [seqv] at h1 h2
  rw [h1, h2]
  rfl
theorem prod_nat {p : P} : ∀ {k : Nat}, V23 p k → prod p k = (prodTo p k : Int)
  | 0, _ => rfl
  | k + 1, hV => by
    have h2 := hV k (by omega)
    rw [prod, prodTo, prod_nat (k := k) (fun i hi => hV i (by omega)), Int.natCast_mul]
    unfold vN
    rw [Int.toNat_of_nonneg (by omega)]
theorem count_all {p : P} (h : Right p) : countOf p = (allN p : Int) := by
  have hV := v23_of h
  have h8 := h.nrules
  unfold countOf
  rw [Nat.min_eq_left h8, if_pos (allTo_iff.2 fun i hi => by
    have := hV i hi
    unfold okV
    rw [inR_iff]
    omega), prod_nat hV]
  rfl
theorem prodTo_two {p : P} : ∀ {k : Nat}, V23 p (k + 1) → 2 ≤ prodTo p (k + 1)
  | k, hV => by
    have h1 := prodTo_pos (k := k) (fun i hi => hV i (by omega))
    have h2 := hV k (by omega)
    have h3 : 1 * 2 ≤ prodTo p k * vN p k := Nat.mul_le_mul h1 (by unfold vN; omega)
    rw [prodTo]
    omega
theorem prodTo_le {p : P} : ∀ {k : Nat}, V23 p k → prodTo p k ≤ 3 ^ k
  | 0, _ => by simp [prodTo]
  | k + 1, hV => by
    have h1 := prodTo_le (k := k) (fun i hi => hV i (by omega))
    have h2 := hV k (by omega)
    rw [prodTo, Nat.pow_succ]
    exact Nat.mul_le_mul h1 (by unfold vN; omega)
theorem count_two {p : P} (h : Rt p) : 2 ≤ countOf p := by
  rw [count_all (rt_right h)]
  obtain ⟨m, hm⟩ : ∃ m, p.rules.length = m + 1 := ⟨p.rules.length - 1, by have := h.r1; omega⟩
  have := prodTo_two (p := p) (k := m) (by rw [← hm]; exact v23_of (rt_right h))
  unfold allN
  rw [hm]
  omega
theorem allN_le {p : P} (h : Rt p) : allN p ≤ 243 := by
  have h1 := prodTo_le (v23_of (rt_right h))
  have h2 := h.r5
  have h3 : 3 ^ p.rules.length ≤ 3 ^ 5 := Nat.pow_le_pow_right (by omega) h2
  unfold allN
  omega
end Go.Proofs.Ytlakellmdcdaaaa.Draw
