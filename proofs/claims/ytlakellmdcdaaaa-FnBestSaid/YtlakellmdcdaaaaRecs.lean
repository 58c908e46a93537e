/-
  Lists of records as rows of cells: each record gives the same number of cells.
  Conditions: none.
-/
import Derived.Test.YtlakellmdcdaaaaRow
namespace Go.Proofs.Ytlakellmdcdaaaa.Recs
open Go.RowKit Go.Proofs.Ytlakellmdcdaaaa.Row
section
variable {α : Type} {f : α → List Value} {s : Nat}
theorem flat_len (hf : ∀ x, (f x).length = s) : ∀ xs : List α, (xs.flatMap f).length = xs.length * s
  | [] => by simp
  | x :: xs => by rw [List.flatMap_cons, List.length_append, hf, flat_len hf xs, List.length_cons, Nat.add_mul, Nat.one_mul]; omega
theorem flat_at (hf : ∀ x, (f x).length = s) : ∀ (xs : List α) (i j : Nat) (hi : i < xs.length), j < s → (xs.flatMap f)[i * s + j]? = (f xs[i])[j]?
  | [], _, _, hi, _ => absurd hi (Nat.not_lt_zero _)
  | x :: xs, 0, j, _, hj => by rw [List.flatMap_cons, Nat.zero_mul, Nat.zero_add, List.getElem?_append_left (by rw [hf]; exact hj)]; rfl
  | x :: xs, i + 1, j, hi, hj => by
    rw [List.flatMap_cons, Nat.add_mul, Nat.one_mul, List.getElem?_append_right (by rw [hf]; omega), hf, show i * s + s + j - s = i * s + j from by omega, flat_at hf xs i j (by simpa using hi) hj]
    rfl
theorem flat_take (xs : List α) (k : Nat) (hk : k < xs.length) : (xs.take (k + 1)).flatMap f = (xs.take k).flatMap f ++ f xs[k] := by
  rw [List.take_succ_eq_append_getElem hk, List.flatMap_append]; simp
end
end Go.Proofs.Ytlakellmdcdaaaa.Recs
