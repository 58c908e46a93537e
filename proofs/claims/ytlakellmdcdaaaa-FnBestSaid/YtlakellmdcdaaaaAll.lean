/-
  True for all places below a bound; between two bounds.
  Conditions: none.
-/
namespace Go.Proofs.Ytlakellmdcdaaaa.All
/-- true for all below k -/
def allTo (f : Nat → Bool) : Nat → Bool
  | 0 => true
  | k + 1 => allTo f k && f k
theorem allTo_on {f : Nat → Bool} {k : Nat} (h : allTo f k = true) (h1 : f k = true) : allTo f (k + 1) = true := by simp [allTo, h, h1]
theorem allTo_off {f : Nat → Bool} {k : Nat} (h1 : f k = false) : ∀ n, k < n → allTo f n = false
  | 0, h => absurd h (Nat.not_lt_zero _)
  | n + 1, h => by
    rcases Nat.lt_or_ge k n with h' | h'
    · simp [allTo, allTo_off h1 n h']
    · obtain rfl : k = n := by omega
      simp [allTo, h1]
theorem allTo_iff {f : Nat → Bool} : ∀ {n : Nat}, allTo f n = true ↔ ∀ i, i < n → f i = true
  | 0 => by simp [allTo]
  | n + 1 => by
    rw [allTo, Bool.and_eq_true, allTo_iff]
    constructor
    · rintro ⟨h1, h2⟩ i hi
      rcases Nat.lt_or_ge i n with h | h
      · exact h1 i h
      · obtain rfl : i = n := by omega
        exact h2
    · exact fun h => ⟨fun i hi => h i (by omega), h n (by omega)⟩
theorem allTo_congr {f g : Nat → Bool} {n : Nat} (h : ∀ i, i < n → f i = g i) : allTo f n = allTo g n := by
  rw [Bool.eq_iff_iff, allTo_iff, allTo_iff]
  exact ⟨fun k i hi => (h i hi) ▸ k i hi, fun k i hi => (h i hi).symm ▸ k i hi⟩
def inR (n a b : Int) : Bool := decide (a ≤ n) && decide (n ≤ b)
theorem inR_iff {n a b : Int} : inR n a b = true ↔ a ≤ n ∧ n ≤ b := by simp [inR]
theorem inR_yes {n a b : Int} (h1 : a ≤ n) (h2 : n ≤ b) : inR n a b = true := inR_iff.2 ⟨h1, h2⟩
theorem inR_no {n a b : Int} (h : n < a ∨ b < n) : inR n a b = false := by
  rw [Bool.eq_false_iff]
  intro e
  have := inR_iff.1 e
  omega
theorem getD_at {α : Type} {xs : List α} {k : Nat} (h : k < xs.length) (d : α) : xs.getD k d = xs[k] := by simp [List.getD, h]
end Go.Proofs.Ytlakellmdcdaaaa.All
