/-
  Arguments opened: a slice of numbers or of texts that came in reads as a row.
  Conditions: none beyond the reading.
-/
import Derived.Test.YtlakellmdcdaaaaRow
import Derived.ChangeSlices
import Derived.SliceStrings
import Derived.WideShapes
namespace Go.Proofs.Ytlakellmdcdaaaa.Args
open Go.RowKit Go.Proofs.Ytlakellmdcdaaaa.Row Go.ChangeShapes Go.WideShapes
section
variable {H : Type} {enc : TypeId × Value → H} {P : Program} {w : World} {base : Nat} {r : Reach}
theorem plain_addr {a : Addr} {u : Value} (h : w.cell? a = some u) : a = ⟨a.block, a.off, none⟩ := by
  obtain ⟨b, o, s⟩ := a
  cases s with
  | none => rfl
  | some s => simp [World.cell?] at h; split at h <;> simp at h
theorem row_of_cells {a : Addr} {len cap size : Nat} {cs : List Value} (hl : cs.length = len * size) (hs : 0 < size) (hcap : len ≤ cap) (hmax : cap ≤ maxLen) (hc : ∀ j u, cs[j]? = some u → w.cell? (a.add j) = some u) :
    Row w (.slice (some a) len cap) size len cs := by
  simp only [maxLen] at hmax
  refine ⟨some a, cap, rfl, hl, by omega, hcap, by omega, fun h0 => ?_⟩
  have hpos : 0 < len * size := Nat.mul_pos h0 hs
  have h1 := hc 0 _ (List.getElem?_eq_getElem (show 0 < cs.length by omega))
  have ha : a.add 0 = a := rfl
  rw [ha] at h1
  have hp := plain_addr h1
  refine ⟨a.block, a.off, by rw [← hp], block_lt_of_cell h1, fun j u hu => ?_⟩
  have := hc j u hu
  have hj : a.add j = ⟨a.block, a.off + j, none⟩ := by
    unfold Addr.add
    split
    · rename_i h; subst h; exact hp
    · rfl
  rwa [hj] at this
theorem row_ints {t e : TypeId} {k : IntKind} {v : Value} {d : DataW H} {p : List MemPlace} (ht : P.underlying t = some (.slice e)) (he : P.underlying e = some (.int k)) (hc : P.cellsOf e = 1)
    (ho : Value.okWide P w r base t v) (h : DataW.Trod enc P w 0 (fun _ => true) true t v d p) : ∃ xs : List Int, Row w v 1 xs.length (xs.map (Value.int k)) ∧ ∀ x ∈ xs, (Lit.int k x).wf = true := by
  obtain ⟨a0, len0, cap0, rfl⟩ := okWide_slice ht ho
  obtain ⟨fuel, hf⟩ := h
  rcases open_ints ht he hc hf with ⟨hcs, hx⟩ | ⟨a, len, cap, zs, hcs, _, hl, hm, hz, hx, hcell, hwz⟩
  · simp [Value.cells] at hcs
    obtain ⟨rfl, rfl, rfl⟩ := hcs
    exact ⟨[], Row.nil_ w 1, by simp⟩
  · simp [Value.cells] at hcs
    obtain ⟨rfl, rfl, rfl⟩ := hcs
    simp only [if_true] at hz
    have hlen : (zs.take len0).length = len0 := by rw [List.length_take]; omega
    refine ⟨zs.take len0, ?_, fun x hx => hwz x (List.mem_of_mem_take hx)⟩
    rw [hlen]
    refine row_of_cells (by rw [List.length_map, hlen, Nat.mul_one]) (by omega) hl hm fun j u hu => ?_
    have hj : j < len0 := by have := (List.getElem?_eq_some_iff.1 hu).1; simp at this; omega
    rw [hcell j (by omega)]
    simp [List.getElem?_map, List.getElem?_take_of_lt hj, List.getElem?_eq_getElem (show j < zs.length by omega)] at hu
    rw [← hu]
    simp [List.getElem?_eq_getElem (show j < zs.length by omega)]
theorem row_strings {t e : TypeId} {v : Value} {d : DataW H} {p : List MemPlace} (ht : P.underlying t = some (.slice e)) (he : P.underlying e = some .string) (hc : P.cellsOf e = 1)
    (ho : Value.okWide P w r base t v) (h : DataW.Trod enc P w 0 (fun _ => true) true t v d p) : ∃ xs : List ByteArray, Row w v 1 xs.length (xs.map Value.string) ∧ ∀ x ∈ xs, x.size ≤ maxLen := by
  obtain ⟨a0, len0, cap0, rfl⟩ := okWide_slice ht ho
  obtain ⟨fuel, hf⟩ := h
  rcases open_strings ht he hc hf with ⟨hcs, hx⟩ | ⟨a, len, cap, zs, hcs, _, hl, hm, hz, hx, hcell, hwz⟩
  · simp [Value.cells] at hcs
    obtain ⟨rfl, rfl, rfl⟩ := hcs
    exact ⟨[], Row.nil_ w 1, by simp⟩
  · simp [Value.cells] at hcs
    obtain ⟨rfl, rfl, rfl⟩ := hcs
    simp only [if_true] at hz
    have hlen : (zs.take len0).length = len0 := by rw [List.length_take]; omega
    refine ⟨zs.take len0, ?_, fun x hx => hwz x (List.mem_of_mem_take hx)⟩
    rw [hlen]
    refine row_of_cells (by rw [List.length_map, hlen, Nat.mul_one]) (by omega) hl hm fun j u hu => ?_
    have hj : j < len0 := by have := (List.getElem?_eq_some_iff.1 hu).1; simp at this; omega
    rw [hcell j (by omega)]
    simp [List.getElem?_map, List.getElem?_take_of_lt hj, List.getElem?_eq_getElem (show j < zs.length by omega)] at hu
    rw [← hu]
    simp [List.getElem?_eq_getElem (show j < zs.length by omega)]
end
end Go.Proofs.Ytlakellmdcdaaaa.Args
