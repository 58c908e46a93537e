/-
  What a right piece gives: short texts, places of rules.
  Conditions: none.
-/
import Derived.Test.YtlakellmdcdaaaaPc4d
import Derived.Test.YtlakellmdcdaaaaPc4c
namespace Go.Proofs.Ytlakellmdcdaaaa.Pc
open Go.RowKit Go.Proofs.Ytlakellmdcdaaaa.Piece Go.Proofs.Ytlakellmdcdaaaa.All
theorem tot_mem {xs : List ByteArray} {x : ByteArray} (h : x ∈ xs) : x.size ≤ Strs.tot xs := by
  induction xs with
  | nil => simp at h
  | cons a xs ih =>
    simp only [Strs.tot, List.map_cons, List.sum_cons] at ih ⊢
    rcases List.mem_cons.1 h with rfl | h
    · omega
    · have := ih h; omega
theorem texts_le {p : P} (h : Strs.tot (Chunk.texts p.chunks) ≤ 1048576) : ∀ x ∈ p.chunks, x.t.size ≤ 1099511627776 := fun x hx => by
  have : x.t.size ≤ Strs.tot (Chunk.texts p.chunks) := tot_mem (List.mem_map_of_mem (f := Chunk.T.t) hx)
  omega
structure Right (p : P) : Prop where
  ind : 0 ≤ p.ind ∧ p.ind ≤ 60
  nrules : p.rules.length ≤ 8
  nchunks : 1 ≤ p.chunks.length ∧ p.chunks.length ≤ 80
  nspans : p.spans.length ≤ 40
  nties : p.ties.length ≤ 20
  rules : ∀ i, i < p.rules.length → ruleFit p i = true
  chunks : ∀ i, i < p.chunks.length → chunkFit p i = true
  spans : ∀ i, i < p.spans.length → spanFit p i = true
  ties : ∀ i, i < p.ties.length → tieFit p i = true
theorem right_of {p : P} (h : pieceOk p = true) : Right p := by
  unfold pieceOk rulesOk chunksOk sizesOk at h
  simp only [Bool.and_eq_true, decide_eq_true_eq, inR_iff, allTo_iff] at h
  obtain ⟨h1, ⟨h2, h3⟩, ⟨h4, h5, h6⟩, ⟨h7, h8⟩, h9, h10⟩ := h
  exact ⟨h1, h3, ⟨by omega, by omega⟩, h7, h8, h2, h5, h9, h10⟩
theorem right_rule {p : P} (h : Right p) {i : Nat} (hi : i < p.rules.length) : 2 ≤ (ruleAt p i).v ∧ (ruleAt p i).v ≤ 3 ∧ 0 ≤ (ruleAt p i).c ∧ (ruleAt p i).c ≤ 9 := by
  have := h.rules i hi
  unfold ruleFit at this
  simp only [Bool.and_eq_true, inR_iff] at this
  exact ⟨this.1.1, this.1.2, this.2.1, this.2.2⟩
theorem right_split {p : P} (h : Right p) {i : Nat} (hi : i + 1 < p.chunks.length) : ∃ a : Nat, (chunkAt p i).r = (a : Int) ∧ a < p.rules.length ∧ 0 ≤ (chunkAt p i).n ∧ (chunkAt p i).n ≤ 40 ∧ 1 ≤ (chunkAt p i).f := by
  have := h.chunks i (by omega)
  unfold chunkFit splitFit at this
  rw [decide_eq_true hi] at this
  simp only [Bool.not_true, Bool.false_or, Bool.and_eq_true, inR_iff] at this
  obtain ⟨-, ⟨h1, h2⟩, ⟨h3, h4⟩, h5, h6⟩ := this
  exact ⟨(chunkAt p i).r.toNat, by omega, by omega, h3, h4, h5⟩
end Go.Proofs.Ytlakellmdcdaaaa.Pc
