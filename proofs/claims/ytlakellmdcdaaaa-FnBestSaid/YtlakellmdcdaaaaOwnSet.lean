/-
  A slice of a call's own, a cell of it written; an append of a slice that came in.
  Conditions: none.
-/
import Derived.Test.YtlakellmdcdaaaaOwns
namespace Go.Proofs.Ytlakellmdcdaaaa.Owns
open Go.RowKit Go.Proofs.Ytlakellmdcdaaaa.Row Go.Proofs.Ytlakellmdcdaaaa.Mem
section
variable {w : World} {e g n cap base : Nat} {cs : List Value}
theorem owns_set (h : w.ownsRow base e 1 (.slice (some ⟨g, 0, none⟩) n cap) n cs) (j : Nat) (u : Value) :
    (w.setCell ⟨g, j, none⟩ u).ownsRow base e 1 (.slice (some ⟨g, 0, none⟩) n cap) n (cs.set j u) := by
  obtain ⟨hl, h2⟩ := h
  refine ⟨by simpa using hl, ?_⟩
  rcases h2 with ⟨h0, _⟩ | ⟨g', cap', cur, hv, hb, hg, hnc, hcm, hcs, ht⟩
  · cases h0
  · cases hv
    refine .inr ⟨g, cap, _, rfl, hb, heap_set hg j u, hnc, hcm, by simpa using hcs, ?_⟩
    rw [Array.toList_setIfInBounds, List.take_set, ht]
theorem owns_open {A : Option Addr} (h : w.ownsRow base e 1 (.slice A n cap) n cs) (h0 : 0 < n) :
    ∃ g, A = some ⟨g, 0, none⟩ ∧ base ≤ g ∧ g < w.heap.size ∧ (∀ j u, cs[j]? = some u → w.cell? ⟨g, j, none⟩ = some u) ∧ ∀ j, w.frozen? ⟨g, j, none⟩ = false := by
  have hr := row_of_owns h
  rcases h.2 with ⟨hv, _⟩ | ⟨g', cap', cur, hv, hb, hg, hnc, hcm, hcs, ht⟩
  · injection hv with _ hv _
    omega
  · cases hv
    refine ⟨g', rfl, hb, (Array.getElem?_eq_some_iff.1 hg).1, fun j u hu => ?_, fun j => by simp [World.frozen?, hg]⟩
    obtain ⟨A, c, e1, -, -, -, -, ha⟩ := hr
    cases e1
    obtain ⟨b, off, e2, _, hc⟩ := ha h0
    cases e2
    have := hc j u hu
    rwa [Nat.zero_add] at this
end
/-- 'append(out, v...)' of a slice that came in -/
theorem append_row {P : Program} {t e : TypeId} {z : Value} {size bytes : Nat} (E : Elem P t e z size bytes) {w0 W : World} {v x : Value} {n m : Nat} {xs news : List Value} (hown : W.ownsRow w0.heap.size e size v n xs)
    (hb : Below w0.heap.size w0 W) (hx : Row W x size m news) (h1 : ∀ u ∈ news, u.oneCell' = true) (h63 : n + m ≤ maxLen) (hbytes : (n + m) * bytes ≤ 140737488355328) :
    ∃ v' w', (Builtin.append_ #[t, t] t #[v, x]).run P W = .ok v' w' ∧ w'.ownsRow w0.heap.size e size v' (n + m) (xs ++ news) ∧
      Below w0.heap.size w0 w' ∧ W.grownBy w' v.ownBlock ∧ (v'.ownBlock = v.ownBlock ∨ v'.ownBlock = some W.heap.size) := by
  obtain ⟨i, hi, hz, hs, hy⟩ := info_parts E.info
  obtain ⟨A, c, rfl, hl, hm, hmc, hcm, ha⟩ := hx
  have hr : ∀ k, v.ownBlock = some k → w0.heap.size ≤ k := fun k hk => (hown.lt k hk).1
  by_cases h0 : 0 < m
  · obtain ⟨b, off, rfl, hlt, hc⟩ := ha h0
    obtain ⟨v', w', hrun, h2, h3, _, h5⟩ := run_append_own_at (P := P) W w0.heap.size t t e i z size bytes E.under hi hz hs hy E.cells E.pos v n xs hown
      ⟨b, off, none⟩ m c news hl (fun j u hu => by
        have ha : (⟨b, off, none⟩ : Addr).add j = ⟨b, off + j, none⟩ := by unfold Addr.add; split <;> simp_all
        rw [ha]; exact hc j u hu) h1 h63 hbytes hb.size
    exact ⟨v', w', hrun, h2, hb.grown h3 hb.size hr, h3, h5⟩
  · obtain rfl : m = 0 := by omega
    obtain rfl : news = [] := List.eq_nil_of_length_eq_zero (by simpa using hl)
    refine ⟨v, W, ?_, by simpa using hown, hb, ⟨rfl, rfl, rfl, Nat.le_refl _, fun _ _ _ => rfl⟩, .inl rfl⟩
    rcases hown.2 with ⟨rfl, rfl⟩ | ⟨g, cap, cur, rfl, _, _, hnc, _⟩
    · cases A <;> simp [Builtin.append_, run_underlying E.under, sizeOf, typeInfo, hi, Builtin.lenOf, Builtin.firstCells, loadCells, loadCellsFrom]
    · cases A <;> simp [Builtin.append_, run_underlying E.under, sizeOf, typeInfo, hi, Builtin.lenOf, Builtin.firstCells, hnc, loadCells, loadCellsFrom, storeCells]
end Go.Proofs.Ytlakellmdcdaaaa.Owns
