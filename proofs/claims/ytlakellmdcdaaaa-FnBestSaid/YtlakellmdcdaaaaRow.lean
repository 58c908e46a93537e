/-
  Slices that read as lists of cells ('Row'), and slices in a block of their own that is known whole ('Own'): what keeps them.
  Conditions: none.
-/
import Derived.Below
import Derived.OwnWalk
import Derived.Deep.Draws
import Derived.Laws.Rows
namespace Go.Proofs.Ytlakellmdcdaaaa.Row
open Go.RowKit

/-- the slice value v reads as n elements of 'size' cells each -/
def Row (w : World) (v : Value) (size n : Nat) (cs : List Value) : Prop :=
  ∃ A c, v = .slice A n c ∧ cs.length = n * size ∧ n ≤ 9223372036854775807 ∧ n ≤ c ∧ c ≤ 9223372036854775807 ∧ (0 < n → ∃ b off, A = some ⟨b, off, none⟩ ∧ b < w.heap.size ∧ ∀ j u, cs[j]? = some u → w.cell? ⟨b, off + j, none⟩ = some u)

/-- the slice value v is block g from its head on, and block g is just these cells -/
def Own (w : World) (v : Value) (e size g n : Nat) (cs : List Value) : Prop :=
  v = .slice (some ⟨g, 0, none⟩) n n ∧ cs.length = n * size ∧ n ≤ 9223372036854775807 ∧ w.heap[g]? = some (.cells cs.toArray e (0, 0))

section
variable {w w' : World} {v : Value} {e size g n : Nat} {cs : List Value}
theorem Row.below (h : Row w v size n cs) (hb : Below w.heap.size w w') : Row w' v size n cs := by
  obtain ⟨A, c, hv, hl, hn, hc, hm, ha⟩ := h
  refine ⟨A, c, hv, hl, hn, hc, hm, fun h0 => ?_⟩
  obtain ⟨b, off, hA, hlt, hcell⟩ := ha h0
  exact ⟨b, off, hA, Nat.lt_of_lt_of_le hlt hb.size, fun j u hu => (hb.cell (p := ⟨b, off + j, none⟩) hlt).trans (hcell j u hu)⟩
theorem Row.drewN (h : Row w v size n cs) (k : Nat) : Row (w.drewN k) v size n cs := h
theorem Row.drew (h : Row w v size n cs) : Row w.drew v size n cs := h
theorem Own.lt (h : Own w v e size g n cs) : g < w.heap.size := (Array.getElem?_eq_some_iff.1 h.2.2.2).1
theorem Own.cell (h : Own w v e size g n cs) {j : Nat} {u : Value} (hu : cs[j]? = some u) : w.cell? ⟨g, j, none⟩ = some u := by
  rw [cell_of_row w g j cs.toArray e (0, 0) h.2.2.2]; simpa using hu
theorem Own.row (h : Own w v e size g n cs) : Row w v size n cs :=
  ⟨_, n, h.1, h.2.1, h.2.2.1, Nat.le_refl _, h.2.2.1, fun _ => ⟨g, 0, rfl, h.lt, fun j u hu => by rw [Nat.zero_add]; exact h.cell hu⟩⟩
theorem Own.block (h : Own w v e size g n cs) (hb : w'.heap[g]? = w.heap[g]?) : Own w' v e size g n cs := ⟨h.1, h.2.1, h.2.2.1, hb.trans h.2.2.2⟩
theorem Own.below (h : Own w v e size g n cs) (hb : Below w.heap.size w w') : Own w' v e size g n cs := h.block (hb.block g h.lt)
theorem Own.drew (h : Own w v e size g n cs) : Own w.drew v e size g n cs := h
/-- the row that append and make leave reads as a row -/
theorem row_of_owns {base : Nat} (h : w.ownsRow base e size v n cs) : Row w v size n cs := by
  obtain ⟨hl, h2⟩ := h
  rcases h2 with ⟨rfl, rfl⟩ | ⟨g, cap, cur, rfl, hb, hg, hnc, hcm, hcs, ht⟩
  · exact ⟨none, 0, rfl, hl, by omega, by omega, by omega, fun h0 => absurd h0 (by omega)⟩
  · simp only [maxLen] at hcm
    refine ⟨_, cap, rfl, hl, by omega, hnc, by omega, fun _ => ⟨g, 0, rfl, (Array.getElem?_eq_some_iff.1 hg).1, fun j u hu => ?_⟩⟩
    rw [Nat.zero_add, cell_of_row w g j cur e (0, 0) hg]
    have hj : j < n * size := by
      have := (List.getElem?_eq_some_iff.1 hu).1
      omega
    rw [← ht, List.getElem?_take_of_lt hj] at hu
    simpa using hu
/-- an empty row -/
theorem Row.nil_ (w : World) (size : Nat) : Row w (.slice none 0 0) size 0 [] := ⟨none, 0, rfl, by simp, by omega, by omega, by omega, fun h => absurd h (by omega)⟩
/-- a store elsewhere -/
theorem Own.setCell (h : Own w v e size g n cs) {p : Addr} (hp : g ≠ p.block) (u : Value) : Own (w.setCell p u) v e size g n cs := h.block (Below.heap_setCell w p u g hp)
end
/-- cells stored one behind the other -/
def setAll (w : World) (g o : Nat) : List Value → World
  | [] => w
  | u :: l => setAll (w.setCell ⟨g, o, none⟩ u) g (o + 1) l

/-- block g, of n elements of 'size' cells, holds in its first k elements these cells -/
def Fill (w : World) (g e size n k : Nat) (pre : List Value) : Prop :=
  ∃ arr : Array Value, w.heap[g]? = some (.cells arr e (0, 0)) ∧ arr.size = n * size ∧ pre.length = k * size ∧ k ≤ n ∧ arr.toList.take (k * size) = pre

section
variable {w w' : World} {e size g n k : Nat} {pre : List Value}
theorem Fill.lt (h : Fill w g e size n k pre) : g < w.heap.size := by
  obtain ⟨arr, h1, _⟩ := h
  exact (Array.getElem?_eq_some_iff.1 h1).1
theorem Fill.cell (h : Fill w g e size n k pre) {j : Nat} (hj : j < n * size) : ∃ u, w.cell? ⟨g, j, none⟩ = some u := by
  obtain ⟨arr, h1, h2, _⟩ := h
  exact ⟨arr[j]'(by omega), by rw [cell_of_row w g j arr e (0, 0) h1]; exact Array.getElem?_eq_getElem _⟩
theorem Fill.frozen (h : Fill w g e size n k pre) (j : Nat) : w.frozen? ⟨g, j, none⟩ = false := by
  obtain ⟨arr, h1, _⟩ := h
  simp [World.frozen?, h1]
theorem Fill.block (h : Fill w g e size n k pre) (hb : w'.heap[g]? = w.heap[g]?) : Fill w' g e size n k pre := by
  obtain ⟨arr, h1, h2⟩ := h
  exact ⟨arr, hb.trans h1, h2⟩
theorem Fill.below (h : Fill w g e size n k pre) (hb : Below w.heap.size w w') : Fill w' g e size n k pre := h.block (hb.block g h.lt)
theorem heap_set {arr : Array Value} (h : w.heap[g]? = some (.cells arr e (0, 0))) (j : Nat) (u : Value) : (w.setCell ⟨g, j, none⟩ u).heap[g]? = some (.cells (arr.setIfInBounds j u) e (0, 0)) := by
  simp [World.setCell, Array.getElem?_modify, h]
/-- the cells from o on are written one by one: what lies ahead of o stays -/
theorem setAll_block : ∀ (us : List Value) (w : World) (o : Nat) (arr : Array Value), w.heap[g]? = some (.cells arr e (0, 0)) → o + us.length ≤ arr.size →
    ∃ arr' : Array Value, (setAll w g o us).heap[g]? = some (.cells arr' e (0, 0)) ∧ arr'.size = arr.size ∧ arr'.toList.take (o + us.length) = arr.toList.take o ++ us
  | [], w, o, arr, h, _ => ⟨arr, h, rfl, by simp⟩
  | u :: us, w, o, arr, h, hl => by
    simp only [List.length_cons] at hl
    obtain ⟨arr', h1, h2, h3⟩ := setAll_block us (w.setCell ⟨g, o, none⟩ u) (o + 1) _ (heap_set h o u) (by simp; omega)
    refine ⟨arr', h1, by simpa using h2, ?_⟩
    rw [List.length_cons, show o + (us.length + 1) = o + 1 + us.length from by omega, h3, Array.toList_setIfInBounds, List.take_succ_eq_append_getElem (by simp; omega)]
    simp [List.take_set_of_le]
theorem Fill.put (h : Fill w g e size n k pre) (hk : k < n) (us : List Value) (hu : us.length = size) : Fill (setAll w g (k * size) us) g e size n (k + 1) (pre ++ us) := by
  obtain ⟨arr, h1, h2, h3, h4, h5⟩ := h
  have hm : (k + 1) * size ≤ n * size := Nat.mul_le_mul (by omega) (Nat.le_refl _)
  rw [Nat.add_mul, Nat.one_mul] at hm
  obtain ⟨arr', g1, g2, g3⟩ := setAll_block us w (k * size) arr h1 (by omega)
  refine ⟨arr', g1, by omega, by rw [List.length_append, h3, hu, Nat.add_mul, Nat.one_mul], by omega, ?_⟩
  rw [hu] at g3
  rw [Nat.add_mul, Nat.one_mul, g3, h5]
theorem Fill.done (h : Fill w g e size n n pre) (hn : n ≤ 9223372036854775807) : Own w (.slice (some ⟨g, 0, none⟩) n n) e size g n pre := by
  obtain ⟨arr, h1, h2, h3, h4, h5⟩ := h
  refine ⟨rfl, h3, hn, ?_⟩
  rw [List.take_of_length_le (by simp; omega)] at h5
  rw [h1, ← h5]
theorem Fill.made (w : World) (arr : Array Value) (ha : arr.size = n * size) : Fill (w.alloc (.cells arr e)) w.heap.size e size n 0 [] :=
  ⟨arr, heap_alloc_new w _, ha, by simp, by omega, by simp⟩
theorem below_setAll {B : Nat} : ∀ (us : List Value) {a w : World} (o : Nat), Below B a w → B ≤ g → Below B a (setAll w g o us)
  | [], _, _, _, h, _ => h
  | u :: us, _, _, o, h, hg => below_setAll us (o + 1) (h.setCell (p := ⟨g, o, none⟩) hg u) hg
end
/-- one element's cells by its place -/
theorem at_one {xs : List Int} {k : Nat} (h : k < xs.length) (kd : IntKind) : (xs.map (Value.int kd))[k]? = some (.int kd xs[k]) := by simp [h]
end Go.Proofs.Ytlakellmdcdaaaa.Row
