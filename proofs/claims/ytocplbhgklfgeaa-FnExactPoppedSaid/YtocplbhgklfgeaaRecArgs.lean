/-
  Arguments opened: a slice of records that came in reads as a row; a record's fields of one cell each.
  Conditions: none beyond the reading.
-/
import Derived.Test.YtocplbhgklfgeaaArgs
import Derived.Test.YtocplbhgklfgeaaRecs
import Derived.Deep.Slices
import Derived.Deep.Fields
import Derived.ChangeArms
namespace Go.Proofs.Ytocplbhgklfgeaa.Args
open Go.RowKit Go.Proofs.Ytocplbhgklfgeaa.Row Go.Proofs.Ytocplbhgklfgeaa.Recs Go.ChangeShapes Go.WideShapes Go.Deep
section
variable {H : Type} {enc : TypeId × Value → H} {P : Program} {w : World} {base : Nat} {r : Reach}
theorem row_recs {α : Type} {f : α → List Value} {s : Nat} {Q : α → Prop} {t e : TypeId} {v : Value} {d : DataW H} {p : List MemPlace} (ht : P.underlying t = some (.slice e)) (hC : P.cellsOf e = s) (hs : 0 < s) (hfl : ∀ x, (f x).length = s)
    (hdec : ∀ n cs y, cs.length = s → DataW.trod enc P w 0 (fun _ => true) true n e cs = some y → ∃ x, cs = f x ∧ Q x)
    (ho : Value.okWide P w r base t v) (h : DataW.Trod enc P w 0 (fun _ => true) true t v d p) : ∃ xs : List α, Row w v s xs.length (xs.flatMap f) ∧ ∀ x ∈ xs, Q x := by
  obtain ⟨a0, len0, cap0, rfl⟩ := okWide_slice ht ho
  obtain ⟨fuel, hf'⟩ := h
  rcases open_slice ht hf' with ⟨hcs, _⟩ | ⟨a, len, cap, m, n, D, Pl, hcs, _, hl, hm, hmm, _, hi⟩
  · simp [Value.cells] at hcs
    obtain ⟨rfl, rfl, rfl⟩ := hcs
    exact ⟨[], Row.nil_ w s, by simp⟩
  · simp [Value.cells] at hcs
    obtain ⟨rfl, rfl, rfl⟩ := hcs
    have hlm : len0 ≤ m := by rw [hmm]; split <;> omega
    have key : ∀ i : Fin len0, ∃ x, Q x ∧ ∀ j u, (f x)[j]? = some u → w.cell? (a.add (i.1 * s + j)) = some u := fun i => by
      obtain ⟨cs', hc, ht'⟩ := hi i.1 (by have := i.2; omega)
      obtain ⟨_, hcl, hat⟩ := World.cells?_some hc
      obtain ⟨x, rfl, hq⟩ := hdec _ _ _ (by omega) ht'
      refine ⟨x, hq, fun j u hu => ?_⟩
      have hj : j < s := by have := (List.getElem?_eq_some_iff.1 hu).1; rw [hfl] at this; exact this
      rw [hC] at hat
      rw [← Go.Deep.add_add, hat j hj, hu]
    obtain ⟨g, hg⟩ := Classical.axiomOfChoice key
    have hlo : (List.ofFn g).length = len0 := List.length_ofFn
    refine ⟨List.ofFn g, ?_, fun x hx => ?_⟩
    · have hcell : ∀ j u, ((List.ofFn g).flatMap f)[j]? = some u → w.cell? (a.add j) = some u := fun j u hu => by
        have hj : j < len0 * s := by have := (List.getElem?_eq_some_iff.1 hu).1; rw [flat_len hfl, hlo] at this; exact this
        have hq : j / s < len0 := Nat.div_lt_of_lt_mul (by rw [Nat.mul_comm]; exact hj)
        have hr : j % s < s := Nat.mod_lt _ hs
        have e : j / s * s + j % s = j := by rw [Nat.mul_comm]; exact Nat.div_add_mod j s
        rw [← e, flat_at hfl _ _ _ (by rw [hlo]; exact hq) hr] at hu
        rw [← e]
        exact (hg ⟨j / s, hq⟩).2 _ _ (by simpa using hu)
      have := row_of_cells (w := w) (cap := cap0) (by rw [flat_len hfl]) hs (by rw [hlo]; exact hl) hm hcell
      rw [hlo] at this ⊢
      exact this
    · obtain ⟨i, rfl⟩ := List.mem_ofFn.1 hx
      exact (hg i).1
theorem fields_of {e : TypeId} {fs : Array Field} {cs : List Value} {fuel : Nat} {x : DataW H × List MemPlace} {spare : Nat → Bool} {held : Bool} (he : P.underlying e = some (.struct fs)) (hone : oneCellFields P fs = true) (hl : cs.length = fs.size)
    (h : DataW.trod enc P w base spare held fuel e cs = some x) : ∃ n, ∀ (j : Nat) (f : Field), fs[j]? = some f → ∃ v y, cs[j]? = some v ∧ DataW.trod enc P w base spare held n f.type [v] = some y := by
  obtain ⟨ys, n, _, _, _, hyl, hf⟩ := DataW.trod_struct he h
  refine ⟨n, fun j f hj => ?_⟩
  obtain ⟨ho, hk⟩ := hone_of hone j f hj
  have hjl : j < fs.size := (Array.getElem?_eq_some_iff.1 hj).1
  have h1 := hf j f hj
  rw [ho, hk, List.drop_eq_getElem_cons (by omega)] at h1
  exact ⟨cs[j], ys[j], List.getElem?_eq_getElem _, h1.trans (List.getElem?_eq_getElem _)⟩
theorem row_ints_at {t e : TypeId} {k : IntKind} {fuel : Nat} {v : Value} {y : DataW H × List MemPlace} (ht : P.underlying t = some (.slice e)) (he : P.underlying e = some (.int k)) (hc : P.cellsOf e = 1)
    (hf : DataW.trod enc P w 0 (fun _ => true) true fuel t [v] = some y) : ∃ xs : List Int, Row w v 1 xs.length (xs.map (Value.int k)) ∧ ∀ x ∈ xs, (Lit.int k x).wf = true := by
  rcases open_ints ht he hc hf with ⟨hcs, hx⟩ | ⟨a, len, cap, zs, hcs, _, hl, hm, hz, hx, hcell, hwz⟩
  · simp at hcs
    subst hcs
    exact ⟨[], Row.nil_ w 1, by simp⟩
  · simp at hcs
    subst hcs
    simp only [if_true] at hz
    have hlen : (zs.take len).length = len := by rw [List.length_take]; omega
    refine ⟨zs.take len, ?_, fun x hx => hwz x (List.mem_of_mem_take hx)⟩
    rw [hlen]
    refine row_of_cells (by rw [List.length_map, hlen, Nat.mul_one]) (by omega) hl hm fun j u hu => ?_
    have hj : j < len := by have := (List.getElem?_eq_some_iff.1 hu).1; simp at this; omega
    rw [hcell j (by omega)]
    simp [List.getElem?_map, List.getElem?_take_of_lt hj, List.getElem?_eq_getElem (show j < zs.length by omega)] at hu
    rw [← hu]
    simp [List.getElem?_eq_getElem (show j < zs.length by omega)]
end
end Go.Proofs.Ytocplbhgklfgeaa.Args
