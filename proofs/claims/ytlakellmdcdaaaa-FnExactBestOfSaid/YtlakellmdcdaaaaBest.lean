/-
  All values counted through in their order, and the first of the cheapest: the plain part of BestOf.
  Conditions: a right piece.
-/
import Derived.Test.YtlakellmdcdaaaaPc13
import Derived.Test.YtlakellmdcdaaaaPc7
import Derived.Test.YtlakellmdcdaaaaPc3
import Derived.Test.YtlakellmdcdaaaaCost
import Derived.Test.YtlakellmdcdaaaaCompare
namespace Go.Proofs.Ytlakellmdcdaaaa.Pc
open Go.RowKit Go.Proofs.Ytlakellmdcdaaaa.Row Go.Proofs.Ytlakellmdcdaaaa.Mem Go.Proofs.Ytlakellmdcdaaaa.Mix Go.Proofs.Ytlakellmdcdaaaa.Recs Go.Proofs.Ytlakellmdcdaaaa.Owns Go.Proofs.Ytlakellmdcdaaaa.Blocks Go.Proofs.Ytlakellmdcdaaaa.Piece Go.Proofs.Ytlakellmdcdaaaa.All Go.Proofs.Ytlakellmdcdaaaa.Ints Go.Proofs.Ytlakellmdcdaaaa.Strs
def vN (p : P) (k : Nat) : Nat := (ruleAt p k).v.toNat
def prodTo (p : P) : Nat → Nat
  | 0 => 1
  | k + 1 => prodTo p k * vN p k
def numTo (p : P) (xs : List Int) : Nat → Nat
  | 0 => 0
  | k + 1 => numTo p xs k * vN p k + (valAt xs k).toNat
/-- the first k values are in bounds -/
def Fit (p : P) (xs : List Int) (k : Nat) : Prop := ∀ i, i < k → 0 ≤ valAt xs i ∧ valAt xs i < (ruleAt p i).v
def V23 (p : P) (n : Nat) : Prop := ∀ i, i < n → 2 ≤ (ruleAt p i).v ∧ (ruleAt p i).v ≤ 3
theorem v23_of {p : P} (hR : Right p) : V23 p p.rules.length := by
  intro i hi
  have h := hR.rules i hi
  simp only [ruleFit, Bool.and_eq_true, inR_iff] at h
  exact h.1
theorem numTo_congr {p : P} {xs ys : List Int} : ∀ {k : Nat}, (∀ i, i < k → valAt xs i = valAt ys i) → numTo p xs k = numTo p ys k
  | 0, _ => rfl
  | k + 1, h => by rw [numTo, numTo, numTo_congr (fun i hi => h i (by omega)), h k (by omega)]
theorem prodTo_pos {p : P} : ∀ {k : Nat}, V23 p k → 0 < prodTo p k
  | 0, _ => by simp [prodTo]
  | k + 1, h => by
    have h1 := prodTo_pos (k := k) (fun i hi => h i (by omega))
    have h2 := h k (by omega)
    exact Nat.mul_pos h1 (by unfold vN; omega)
theorem numTo_lt {p : P} {xs : List Int} : ∀ {k : Nat}, V23 p k → Fit p xs k → numTo p xs k < prodTo p k
  | 0, _, _ => by simp [numTo, prodTo]
  | k + 1, h, hf => by
    have h1 := numTo_lt (k := k) (fun i hi => h i (by omega)) (fun i hi => hf i (by omega))
    have h2 := hf k (by omega)
    have h3 : (numTo p xs k + 1) * vN p k ≤ prodTo p k * vN p k := Nat.mul_le_mul h1 (Nat.le_refl _)
    rw [Nat.add_mul, Nat.one_mul] at h3
    have h4 : (valAt xs k).toNat < vN p k := by unfold vN; omega
    rw [numTo, prodTo]
    omega
theorem valAt_set {xs : List Int} {k : Nat} (hk : k < xs.length) (u : Int) (i : Nat) : valAt (xs.set k u) i = if i = k then u else valAt xs i := by
  unfold valAt
  by_cases h : i = k
  · subst h; simp [List.getD, hk]
  · rw [if_neg h]
    simp only [List.getD]
    rw [List.getElem?_set_ne (by omega)]
theorem next_num {p : P} : ∀ {k : Nat} (xs : List Int), V23 p k → k ≤ xs.length → Fit p xs k →
    (∀ i, k ≤ i → valAt (nextTo p k xs).1 i = valAt xs i) ∧ Fit p (nextTo p k xs).1 k ∧
    ((nextTo p k xs).2 = true → numTo p (nextTo p k xs).1 k = numTo p xs k + 1) ∧ ((nextTo p k xs).2 = false → numTo p xs k + 1 = prodTo p k)
  | 0, xs, _, _, hf => ⟨fun _ _ => rfl, hf, fun h => (by cases h), fun _ => rfl⟩
  | k + 1, xs, h, hl, hf => by
    have h2 := h k (by omega)
    have h3 := hf k (by omega)
    have hk : k < xs.length := by omega
    have hw : wrap64 (valAt xs k + 1) = valAt xs k + 1 := wrap_small (by omega) (by omega)
    unfold nextTo
    rw [hw]
    by_cases hlt : valAt xs k + 1 < (ruleAt p k).v
    · rw [if_pos hlt]
      refine ⟨fun i hi => by rw [valAt_set hk, if_neg (by omega)], fun i hi => ?_, fun _ => ?_, fun h => (by cases h)⟩
      · rw [valAt_set hk]
        split
        · rename_i e; subst e; exact ⟨by omega, hlt⟩
        · exact hf i hi
      · rw [numTo, numTo, valAt_set hk, if_pos rfl, numTo_congr (ys := xs) (fun i hi => by rw [valAt_set hk, if_neg (by omega)])]
        omega
    · rw [if_neg hlt]
      obtain ⟨i1, i2, i3, i4⟩ := next_num (p := p) (k := k) (xs.set k 0) (fun i hi => h i (by omega)) (by simp; omega) (fun i hi => by rw [valAt_set hk, if_neg (by omega)]; exact hf i (by omega))
      have hn : numTo p (xs.set k 0) k = numTo p xs k := numTo_congr (fun i hi => by rw [valAt_set hk, if_neg (by omega)])
      have hz : valAt (nextTo p k (xs.set k 0)).1 k = 0 := by rw [i1 k (by omega), valAt_set hk, if_pos rfl]
      have hv : (valAt xs k).toNat + 1 = vN p k := by unfold vN; omega
      refine ⟨fun i hi => by rw [i1 i (by omega), valAt_set hk, if_neg (by omega)], fun i hi => ?_, fun hb => ?_, fun hb => ?_⟩
      · by_cases e : i = k
        · subst e; rw [hz]; exact ⟨by omega, by omega⟩
        · exact i2 i (by omega)
      · rw [numTo, numTo, hz, i3 hb, hn, Nat.add_mul, Nat.one_mul]
        omega
      · have := i4 hb
        rw [hn] at this
        rw [numTo, prodTo, ← this, Nat.add_mul, Nat.one_mul]
        omega
theorem next_flag {p : P} {k : Nat} {xs : List Int} (h : V23 p k) (hl : k ≤ xs.length) (hf : Fit p xs k) : (nextTo p k xs).2 = decide (numTo p xs k + 1 < prodTo p k) := by
  obtain ⟨i1, i2, i3, i4⟩ := next_num xs h hl hf
  cases hb : (nextTo p k xs).2
  · have := i4 hb
    rw [eq_comm, decide_eq_false_iff_not]; omega
  · have h1 := i3 hb
    have := numTo_lt h i2
    rw [eq_comm, decide_eq_true_eq]; omega
/-- the values in their order -/
def seqv (p : P) : Nat → List Int
  | 0 => List.replicate p.rules.length 0
  | i + 1 => (nextTo p p.rules.length (seqv p i)).1
theorem seqv_len (p : P) : ∀ i, (seqv p i).length = p.rules.length
  | 0 => by simp [seqv]
  | i + 1 => by rw [seqv, nextTo_len, seqv_len p i]
def allN (p : P) : Nat := prodTo p p.rules.length
theorem numTo_zero {p : P} {m : Nat} : ∀ k, numTo p (List.replicate m 0) k = 0
  | 0 => rfl
  | k + 1 => by
    rw [numTo, numTo_zero k]
    simp [valAt, List.getD, List.getElem?_replicate]
    split <;> simp
theorem valAt_zero (m i : Nat) : valAt (List.replicate m 0) i = 0 := by
  simp [valAt, List.getD, List.getElem?_replicate]
  split <;> simp
theorem seqv_facts {p : P} (hR : Right p) : ∀ i, i < allN p → Fit p (seqv p i) p.rules.length ∧ numTo p (seqv p i) p.rules.length = i
  | 0, _ => ⟨fun i hi => by rw [seqv, valAt_zero]; have := v23_of hR i hi; omega, numTo_zero _⟩
  | i + 1, hi => by
    obtain ⟨h1, h2⟩ := seqv_facts hR i (by omega)
    have hV := v23_of hR
    have hl : p.rules.length ≤ (seqv p i).length := by rw [seqv_len]; exact Nat.le_refl _
    obtain ⟨-, i2, i3, -⟩ := next_num (seqv p i) hV hl h1
    have hb := next_flag hV hl h1
    rw [h2] at hb
    have : (nextTo p p.rules.length (seqv p i)).2 = true := by rw [hb, decide_eq_true_eq]; exact hi
    refine ⟨i2, ?_⟩
    rw [seqv, i3 this, h2]
theorem seqv_flag {p : P} (hR : Right p) {i : Nat} (hi : i < allN p) : (nextTo p p.rules.length (seqv p i)).2 = decide (i + 1 < allN p) := by
  obtain ⟨h1, h2⟩ := seqv_facts hR i hi
  rw [next_flag (v23_of hR) (by rw [seqv_len]; exact Nat.le_refl _) h1, h2]
  rfl
theorem ok_of_fit {p : P} {xs : List Int} (hR : Right p) (hl : xs.length = p.rules.length) (hf : Fit p xs p.rules.length) : valuesOk p xs = true := by
  refine valuesOk_yes hl (allTo_iff.2 fun i hi => ?_)
  have h1 := hf i (by omega)
  have h2 := v23_of hR i (by omega)
  have h3 : dec (ruleAt p i).v = (ruleAt p i).v - 1 := wrap_small (by omega) (by omega)
  unfold fits
  rw [inR_iff, h3]
  omega
theorem fit_of_ok {p : P} {xs : List Int} (hR : Right p) (h : valuesOk p xs = true) : Fit p xs p.rules.length := by
  intro i hi
  have hl := valuesOk_same h
  unfold valuesOk at h
  rw [Bool.and_eq_true, allTo_iff] at h
  have h1 := h.2 i (by omega)
  have h2 := v23_of hR i (by omega)
  have h3 : dec (ruleAt p i).v = (ruleAt p i).v - 1 := wrap_small (by omega) (by omega)
  unfold fits at h1
  rw [inR_iff, h3] at h1
  omega
theorem seqv_ok {p : P} (hR : Right p) {i : Nat} (hi : i < allN p) : valuesOk p (seqv p i) = true := ok_of_fit hR (seqv_len p i) (seqv_facts hR i hi).1
theorem allN_pos {p : P} (hR : Right p) : 0 < allN p := prodTo_pos (v23_of hR)
theorem zero_ties {p : P} (hR : Right p) : tiesOk p (seqv p 0) = true := by
  refine allTo_iff.2 fun i hi => ?_
  have h := hR.ties i hi
  simp only [tieFit, Bool.and_eq_true] at h
  unfold tieOk
  simp only [Bool.and_eq_true]
  refine ⟨h.1, h.2.1, ?_⟩
  rw [seqv, valAt_zero]
  rfl
/-- what i values' search has found: the values, what they cost, whether there are any -/
def overC (p : P) (x : Int) (xs : List Int) : Int := overOf (widthOf x) (renderTo p xs)
structure Found where
  v : List Int
  o : Int
  s : Int
  f : Bool
/-- the i-th values are taken -/
def takes (p : P) (x : Int) (b : Found) (i : Nat) : Bool := tiesOk p (seqv p i) && (!b.f || Cost.less (overC p x (seqv p i)) (sumOf p (seqv p i)) b.o b.s)
def bestTo (p : P) (x : Int) : Nat → Found
  | 0 => ⟨[], 0, 0, false⟩
  | i + 1 => if takes p x (bestTo p x i) i = true then ⟨seqv p i, overC p x (seqv p i), sumOf p (seqv p i), true⟩ else bestTo p x i
theorem bestTo_found {p : P} (hR : Right p) (x : Int) : ∀ i, (bestTo p x (i + 1)).f = true
  | 0 => by
    have : takes p x (bestTo p x 0) 0 = true := by unfold takes; rw [zero_ties hR]; rfl
    rw [bestTo, if_pos this]
  | i + 1 => by
    rw [bestTo]
    split
    · rfl
    · exact bestTo_found hR x i
theorem bestTo_len {p : P} (x : Int) : ∀ i, (bestTo p x i).v.length ≤ p.rules.length
  | 0 => by simp [bestTo]
  | i + 1 => by
    rw [bestTo]
    split
    · exact Nat.le_of_eq (seqv_len p i)
    · exact bestTo_len x i
end Go.Proofs.Ytlakellmdcdaaaa.Pc
/-
  The found is the first of the cheapest: the plain law of FnBest.
  Conditions: a right piece.
-/
namespace Go.Proofs.Ytlakellmdcdaaaa.Pc
open Go.RowKit Go.Proofs.Ytlakellmdcdaaaa.Row Go.Proofs.Ytlakellmdcdaaaa.Piece Go.Proofs.Ytlakellmdcdaaaa.All Go.Proofs.Ytlakellmdcdaaaa.Ints
open Go.Proofs.Ytlakellmdcdaaaa.Compare (cmp)
theorem less_iff {a b c d : Int} : Cost.less a b c d = true ↔ a < c ∨ (a = c ∧ b < d) := by
  unfold Cost.less
  simp
theorem less_no {a b c d : Int} : Cost.less a b c d = false ↔ ¬ (a < c ∨ (a = c ∧ b < d)) := by
  rw [← less_iff, Bool.not_eq_true]
theorem bestTo_least {p : P} (hR : Right p) (x : Int) : ∀ n, ∃ i, i < n + 1 ∧ tiesOk p (seqv p i) = true ∧ bestTo p x (n + 1) = ⟨seqv p i, overC p x (seqv p i), sumOf p (seqv p i), true⟩ ∧
    ∀ j, j < n + 1 → tiesOk p (seqv p j) = true → Cost.less (overC p x (seqv p j)) (sumOf p (seqv p j)) (overC p x (seqv p i)) (sumOf p (seqv p i)) = false ∧
      (j < i → Cost.less (overC p x (seqv p i)) (sumOf p (seqv p i)) (overC p x (seqv p j)) (sumOf p (seqv p j)) = true)
  | 0 => by
    have : takes p x (bestTo p x 0) 0 = true := by unfold takes; rw [zero_ties hR]; rfl
    refine ⟨0, by omega, zero_ties hR, by rw [bestTo, if_pos this], fun j hj _ => ?_⟩
    obtain rfl : j = 0 := by omega
    exact ⟨less_no.2 (by omega), fun h => by omega⟩
  | n + 1 => by
    obtain ⟨i, hi, ht, hb, hall⟩ := bestTo_least hR x n
    rw [bestTo, hb]
    have htk : takes p x ⟨seqv p i, overC p x (seqv p i), sumOf p (seqv p i), true⟩ (n + 1) = (tiesOk p (seqv p (n + 1)) && Cost.less (overC p x (seqv p (n + 1))) (sumOf p (seqv p (n + 1))) (overC p x (seqv p i)) (sumOf p (seqv p i))) := by
      unfold takes; simp
    rw [htk]
    split
    · rename_i h
      rw [Bool.and_eq_true, less_iff] at h
      refine ⟨n + 1, by omega, h.1, rfl, fun j hj hj2 => ?_⟩
      by_cases e : j = n + 1
      · subst e
        exact ⟨less_no.2 (by omega), fun h => by omega⟩
      · have h3 := hall j (by omega) hj2
        rw [less_no] at h3
        refine ⟨less_no.2 (by omega), fun _ => less_iff.2 (by omega)⟩
    · rename_i h
      refine ⟨i, by omega, ht, rfl, fun j hj hj2 => ?_⟩
      by_cases e : j = n + 1
      · subst e
        refine ⟨?_, fun h => by omega⟩
        rw [hj2, Bool.true_and, Bool.not_eq_true] at h
        exact h
      · exact hall j (by omega) hj2
theorem fit_tail {p : P} {xs ys : List Int} {m : Nat} (hV : ∀ k, V23 p k → True) (h : numTo p xs m < numTo p ys m) : ∀ d, V23 p (m + d) → Fit p xs (m + d) → numTo p xs (m + d) < numTo p ys (m + d)
  | 0, _, _ => h
  | d + 1, hv, hx => by
    have ih := fit_tail hV h d (fun i hi => hv i (by omega)) (fun i hi => hx i (by omega))
    have h1 := hx (m + d) (by omega)
    have h2 : (numTo p xs (m + d) + 1) * vN p (m + d) ≤ numTo p ys (m + d) * vN p (m + d) := Nat.mul_le_mul ih (Nat.le_refl _)
    rw [Nat.add_mul, Nat.one_mul] at h2
    have h3 : (valAt xs (m + d)).toNat < vN p (m + d) := by unfold vN; omega
    rw [← Nat.add_assoc, numTo, numTo]
    omega
theorem cmp_num {p : P} {xs ys : List Int} {n : Nat} (hV : V23 p n) (hx : Fit p xs n) (hy : Fit p ys n) (hlx : xs.length = n) (hly : ys.length = n) : ∀ d m, m + d = n → (∀ i, i < m → valAt xs i = valAt ys i) →
    cmp (xs.drop m) (ys.drop m) < 0 → numTo p xs n < numTo p ys n
  | 0, m, hm, _, h => by
    rw [List.drop_of_length_le (by omega), List.drop_of_length_le (by omega)] at h
    simp [cmp] at h
  | d + 1, m, hm, he, h => by
    have h1 : m < xs.length := by omega
    have h2 : m < ys.length := by omega
    rw [List.drop_eq_getElem_cons h1, List.drop_eq_getElem_cons h2, cmp] at h
    have a1 : valAt xs m = xs[m] := valAt_eq h1
    have a2 : valAt ys m = ys[m] := valAt_eq h2
    by_cases hlt : xs[m] < ys[m]
    · have f1 := hx m (by omega)
      have f2 := hy m (by omega)
      have : numTo p xs (m + 1) < numTo p ys (m + 1) := by
        rw [numTo, numTo, numTo_congr he]
        omega
      have e : m + 1 + d = n := by omega
      have := fit_tail (fun _ _ => trivial) this d (by rw [e]; exact hV) (by rw [e]; exact hx)
      rwa [e] at this
    · rw [if_neg hlt] at h
      by_cases hgt : ys[m] < xs[m]
      · rw [if_pos hgt] at h
        omega
      · rw [if_neg hgt] at h
        exact cmp_num hV hx hy hlx hly d (m + 1) (by omega) (fun i hi => by
          by_cases e : i = m
          · subst e; rw [a1, a2]; omega
          · exact he i (by omega)) h
/-- the j-th values stand ahead of the i-th only where j is below i -/
theorem seqv_cmp {p : P} (hR : Right p) {i j : Nat} (hi : i < allN p) (hj : j < allN p) (h : cmp (seqv p j) (seqv p i) < 0) : j < i := by
  obtain ⟨a1, a2⟩ := seqv_facts hR i hi
  obtain ⟨b1, b2⟩ := seqv_facts hR j hj
  have := cmp_num (v23_of hR) b1 a1 (seqv_len p j) (seqv_len p i) p.rules.length 0 (by omega) (fun i hi => by omega) h
  omega
/-- what FnBest asks of the j-th values -/
theorem best_all {p : P} (hR : Right p) (x : Int) : ∃ i, i < allN p ∧ tiesOk p (seqv p i) = true ∧ bestTo p x (allN p) = ⟨seqv p i, overC p x (seqv p i), sumOf p (seqv p i), true⟩ ∧
    ∀ j, j < allN p → (tiesOk p (seqv p j) && (Cost.less (overC p x (seqv p j)) (sumOf p (seqv p j)) (overC p x (seqv p i)) (sumOf p (seqv p i)) ||
      ((overC p x (seqv p j) == overC p x (seqv p i)) && (sumOf p (seqv p j) == sumOf p (seqv p i))) && decide (cmp (seqv p j) (seqv p i) < 0))) = false := by
  have hp := allN_pos hR
  obtain ⟨n, hn⟩ : ∃ n, allN p = n + 1 := ⟨allN p - 1, by omega⟩
  obtain ⟨i, hi, ht, hb, hall⟩ := bestTo_least hR x n
  rw [← hn] at hi hb hall
  refine ⟨i, hi, ht, hb, fun j hj => ?_⟩
  cases htj : tiesOk p (seqv p j)
  · rfl
  · obtain ⟨h1, h2⟩ := hall j hj htj
    rw [h1, Bool.true_and, Bool.false_or]
    rw [Bool.eq_false_iff]
    intro h
    simp only [Bool.and_eq_true, beq_iff_eq, decide_eq_true_eq] at h
    have h3 := h2 (seqv_cmp hR hi hj h.2)
    rw [less_iff] at h3
    omega
end Go.Proofs.Ytlakellmdcdaaaa.Pc
