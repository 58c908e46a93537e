/-
  Plain: two elements of a list change places; a new one goes up in a heap; one goes down.
  Conditions: none.
-/
import Derived.Test.YtocplbhgklfgeaaState
namespace Go.Proofs.Ytocplbhgklfgeaa.Sift
open Go.Proofs.Ytocplbhgklfgeaa.State
def swp {α : Type} (xs : List α) (i j : Nat) : List α :=
  match xs[i]?, xs[j]? with
  | some a, some b => (xs.set i b).set j a
  | _, _ => xs
theorem swp_eq {α : Type} {xs : List α} {i j : Nat} (hi : i < xs.length) (hj : j < xs.length) : swp xs i j = (xs.set i xs[j]).set j xs[i] := by
  unfold swp
  rw [List.getElem?_eq_getElem hi, List.getElem?_eq_getElem hj]
theorem swp_len {α : Type} (xs : List α) (i j : Nat) : (swp xs i j).length = xs.length := by
  unfold swp
  split <;> simp
theorem swp_map {α β : Type} (f : α → β) (xs : List α) (i j : Nat) : (swp xs i j).map f = swp (xs.map f) i j := by
  unfold swp
  rw [List.getElem?_map, List.getElem?_map]
  cases xs[i]? <;> cases xs[j]? <;> simp [List.map_set]
theorem swp_perm {α : Type} (xs : List α) (i j : Nat) : (swp xs i j).Perm xs := by
  by_cases hi : i < xs.length
  · by_cases hj : j < xs.length
    · rw [swp_eq hi hj]
      exact List.set_set_perm hi hj
    · unfold swp
      rw [List.getElem?_eq_none (Nat.le_of_not_lt hj)]
      cases xs[i]? <;> exact List.Perm.refl _
  · unfold swp
    rw [List.getElem?_eq_none (Nat.le_of_not_lt hi)]
    all_goals exact List.Perm.refl _
abbrev A : Type := List Int × Int
def lessA (a b : A) : Bool := lessState a.1 b.1 a.2 b.2
def lessAt (l : List A) (i j : Nat) : Bool := lessA (l.getD i ([], 0)) (l.getD j ([], 0))
/-- up from place i -/
def upA (l : List A) (i : Nat) : List A :=
  if h : 0 < i then
    if lessAt l i ((i + 1) / 2 - 1) = true then upA (swp l i ((i + 1) / 2 - 1)) ((i + 1) / 2 - 1) else l
  else l
termination_by i
decreasing_by omega
theorem upA_zero (l : List A) : upA l 0 = l := by rw [upA]; simp
theorem upA_no {l : List A} {i : Nat} (h : lessAt l i ((i + 1) / 2 - 1) = false) : upA l i = l := by rw [upA]; simp [h]
theorem upA_yes {l : List A} {i : Nat} (h0 : 0 < i) (h : lessAt l i ((i + 1) / 2 - 1) = true) : upA l i = upA (swp l i ((i + 1) / 2 - 1)) ((i + 1) / 2 - 1) := by
  rw [upA]; rw [dif_pos h0, if_pos h]
def kidA (l : List A) (i : Nat) : Nat := if 2 * i + 2 < l.length ∧ lessAt l (2 * i + 2) (2 * i + 1) = true then 2 * i + 2 else 2 * i + 1
theorem kidA_bd {l : List A} {i : Nat} (h : 2 * i + 1 < l.length) : i < kidA l i ∧ kidA l i < l.length := by
  unfold kidA
  split
  · omega
  · omega
/-- down from place i -/
def downA (l : List A) (i : Nat) : List A :=
  if h : 2 * i + 1 < l.length then
    if lessAt l (kidA l i) i = true then downA (swp l i (kidA l i)) (kidA l i) else l
  else l
termination_by l.length - i
decreasing_by rw [swp_len]; have := kidA_bd h; omega
theorem downA_end {l : List A} {i : Nat} (h : ¬ 2 * i + 1 < l.length) : downA l i = l := by rw [downA]; rw [dif_neg h]
theorem downA_no {l : List A} {i : Nat} (h : lessAt l (kidA l i) i = false) : downA l i = l := by rw [downA]; simp [h]
theorem downA_yes {l : List A} {i : Nat} (h : 2 * i + 1 < l.length) (h1 : lessAt l (kidA l i) i = true) : downA l i = downA (swp l i (kidA l i)) (kidA l i) := by
  rw [downA]; rw [dif_pos h, if_pos h1]
/-- pushed -/
def pushA (l : List A) (x : A) : List A := upA (l ++ [x]) l.length
/-- popped: the last goes to the front, the list is one shorter -/
def popA (l : List A) : List A := downA ((l.set 0 (l.getD (l.length - 1) ([], 0))).take (l.length - 1)) 0
end Go.Proofs.Ytocplbhgklfgeaa.Sift
