/-
  Blocks just laid: what they hold, cell by cell.
  Conditions: none.
-/
import Derived.Below
import Derived.OwnWalk
import Derived.Laws.Rows
namespace Go.Proofs.Ytlakellmdcdaaaa.Blocks
open Go.RowKit
theorem two (w : World) (o1 o2 : Obj) : ((w.alloc o1).alloc o2).heap[w.heap.size]? = some o1 ∧ ((w.alloc o1).alloc o2).heap[w.heap.size + 1]? = some o2 ∧ ((w.alloc o1).alloc o2).heap.size = w.heap.size + 1 + 1 := by
  have s1 : (w.alloc o1).heap.size = w.heap.size + 1 := by simp
  refine ⟨?_, ?_, by simp⟩
  · rw [Below.heap_alloc _ _ _ (by omega), heap_alloc_new]
  · rw [← s1, heap_alloc_new]
theorem below2 (w : World) (o1 o2 : Obj) : Below w.heap.size w ((w.alloc o1).alloc o2) := ((Below.refl _ _).alloc (Nat.le_refl _) _).alloc (by simp) _
theorem three (w : World) (o1 o2 o3 : Obj) : (((w.alloc o1).alloc o2).alloc o3).heap[w.heap.size]? = some o1 ∧ (((w.alloc o1).alloc o2).alloc o3).heap[w.heap.size + 1]? = some o2 ∧ (((w.alloc o1).alloc o2).alloc o3).heap[w.heap.size + 1 + 1]? = some o3 ∧ (((w.alloc o1).alloc o2).alloc o3).heap.size = w.heap.size + 1 + 1 + 1 := by
  have s1 : (w.alloc o1).heap.size = w.heap.size + 1 := by simp
  have s2 : ((w.alloc o1).alloc o2).heap.size = w.heap.size + 1 + 1 := by simp
  refine ⟨?_, ?_, ?_, by simp⟩
  · rw [Below.heap_alloc _ _ _ (by omega), Below.heap_alloc _ _ _ (by omega), heap_alloc_new]
  · rw [Below.heap_alloc _ _ _ (by omega), ← s1, heap_alloc_new]
  · rw [← s2, heap_alloc_new]
theorem below3 (w : World) (o1 o2 o3 : Obj) : Below w.heap.size w (((w.alloc o1).alloc o2).alloc o3) := (((Below.refl _ _).alloc (Nat.le_refl _) _).alloc (by simp) _).alloc (by simp; omega) _
theorem blk_below {W W' : World} {g : Nat} {o : Obj} (h : W.heap[g]? = some o) (k : Below W.heap.size W W') : W'.heap[g]? = some o := (k.block g (Array.getElem?_eq_some_iff.1 h).1).trans h
theorem blk_lt {W : World} {g : Nat} {o : Obj} (h : W.heap[g]? = some o) : g < W.heap.size := (Array.getElem?_eq_some_iff.1 h).1
theorem blk2 {W : World} {g : Nat} {a b : Value} {e : TypeId} (h : W.heap[g]? = some (.cells #[a, b] e (0, 0))) : W.cell? ⟨g, 0, none⟩ = some a ∧ W.cell? ⟨g, 1, none⟩ = some b :=
  ⟨by rw [cell_of_row W _ 0 _ _ (0, 0) h]; rfl, by rw [cell_of_row W _ 1 _ _ (0, 0) h]; rfl⟩
theorem blk3 {W : World} {g : Nat} {a b c : Value} {e : TypeId} (h : W.heap[g]? = some (.cells #[a, b, c] e (0, 0))) : W.cell? ⟨g, 0, none⟩ = some a ∧ W.cell? ⟨g, 1, none⟩ = some b ∧ W.cell? ⟨g, 2, none⟩ = some c :=
  ⟨by rw [cell_of_row W _ 0 _ _ (0, 0) h]; rfl, by rw [cell_of_row W _ 1 _ _ (0, 0) h]; rfl, by rw [cell_of_row W _ 2 _ _ (0, 0) h]; rfl⟩
theorem blk4 {W : World} {g : Nat} {a b c d : Value} {e : TypeId} (h : W.heap[g]? = some (.cells #[a, b, c, d] e (0, 0))) : W.cell? ⟨g, 0, none⟩ = some a ∧ W.cell? ⟨g, 1, none⟩ = some b ∧ W.cell? ⟨g, 2, none⟩ = some c ∧ W.cell? ⟨g, 3, none⟩ = some d :=
  ⟨by rw [cell_of_row W _ 0 _ _ (0, 0) h]; rfl, by rw [cell_of_row W _ 1 _ _ (0, 0) h]; rfl, by rw [cell_of_row W _ 2 _ _ (0, 0) h]; rfl, by rw [cell_of_row W _ 3 _ _ (0, 0) h]; rfl⟩
theorem blk5 {W : World} {g : Nat} {a b c d f : Value} {e : TypeId} (h : W.heap[g]? = some (.cells #[a, b, c, d, f] e (0, 0))) : W.cell? ⟨g, 0, none⟩ = some a ∧ W.cell? ⟨g, 1, none⟩ = some b ∧ W.cell? ⟨g, 2, none⟩ = some c ∧ W.cell? ⟨g, 3, none⟩ = some d ∧ W.cell? ⟨g, 4, none⟩ = some f :=
  ⟨by rw [cell_of_row W _ 0 _ _ (0, 0) h]; rfl, by rw [cell_of_row W _ 1 _ _ (0, 0) h]; rfl, by rw [cell_of_row W _ 2 _ _ (0, 0) h]; rfl, by rw [cell_of_row W _ 3 _ _ (0, 0) h]; rfl, by rw [cell_of_row W _ 4 _ _ (0, 0) h]; rfl⟩
theorem frz {W : World} {g : Nat} {a : Array Value} {e : TypeId} (h : W.heap[g]? = some (.cells a e (0, 0))) : ∀ j, W.frozen? ⟨g, j, none⟩ = false := fun j => by simp [World.frozen?, h]
end Go.Proofs.Ytlakellmdcdaaaa.Blocks
