/-
  All values counted through in their order, and the first of the cheapest: the plain part of BestOf.
  Conditions: a right piece.
-/
import Derived.Test.YtlakellmdcdaaaaPc13
import Derived.Test.YtlakellmdcdaaaaPc7
import Derived.Test.YtlakellmdcdaaaaPc3
import Derived.Test.YtlakellmdcdaaaaCost
namespace Go.Proofs.Ytlakellmdcdaaaa.Pc
open Go.RowKit Go.Proofs.Ytlakellmdcdaaaa.Row Go.Proofs.Ytlakellmdcdaaaa.Mem Go.Proofs.Ytlakellmdcdaaaa.Mix Go.Proofs.Ytlakellmdcdaaaa.Recs Go.Proofs.Ytlakellmdcdaaaa.Owns Go.Proofs.Ytlakellmdcdaaaa.Blocks Go.Proofs.Ytlakellmdcdaaaa.Piece Go.Proofs.Ytlakellmdcdaaaa.All Go.Proofs.Ytlakellmdcdaaaa.Ints Go.Proofs.Ytlakellmdcdaaaa.Strs
def vN (p : P) (k : Nat) : Nat := (ruleAt p k).v.toNat
def prodTo (p : P) : Nat → Nat
  | 0 => 1
  | k + 1 => prodTo p k * vN p k
def numTo (p : P) (xs : List Int) : Nat → Nat
  | 0 => 0
  | k + 1 => numTo p xs k * vN p k + (valAt xs k).toNat
/-- the first k values are in bounds -/
def Fit (p : P) (xs : List Int) (k : Nat) : Prop := ∀ i, i < k → 0 ≤ valAt xs i ∧ valAt xs i < (ruleAt p i).v
def V23 (p : P) (n : Nat) : Prop := ∀ i, i < n → 2 ≤ (ruleAt p i).v ∧ (ruleAt p i).v ≤ 3
theorem v23_of {p : P} (hR : Right p) : V23 p p.rules.length := by
  intro i hi
  have h := hR.rules i hi
  simp only [ruleFit, Bool.and_eq_true, inR_iff] at h
  exact h.1
theorem numTo_congr {p : P} {xs ys : List Int} : ∀ {k : Nat}, (∀ i, i < k → valAt xs i = valAt ys i) → numTo p xs k = numTo p ys k
  | 0, _ => rfl
  | k + 1, h => by rw [numTo, numTo, numTo_congr (fun i hi => h i (by omega)), h k (by omega)]
theorem prodTo_pos {p : P} : ∀ {k : Nat}, V23 p k → 0 < prodTo p k
  | 0, _ => by simp [prodTo]
  | k + 1, h => by
    have h1 := prodTo_pos (k := k) (fun i hi => h i (by omega))
    have h2 := h k (by omega)
    exact Nat.mul_pos h1 (by unfold vN; omega)
theorem numTo_lt {p : P} {xs : List Int} : ∀ {k : Nat}, V23 p k → Fit p xs k → numTo p xs k < prodTo p k
  | 0, _, _ => by simp [numTo, prodTo]
  | k + 1, h, hf => by
    have h1 := numTo_lt (k := k) (fun i hi => h i (by omega)) (fun i hi => hf i (by omega))
    have h2 := hf k (by omega)
    have h3 : (numTo p xs k + 1) * vN p k ≤ prodTo p k * vN p k := Nat.mul_le_mul h1 (Nat.le_refl _)
    rw [Nat.add_mul, Nat.one_mul] at h3
    have h4 : (valAt xs k).toNat < vN p k := by unfold vN; omega
    rw [numTo, prodTo]
    omega
theorem valAt_set {xs : List Int} {k : Nat} (hk : k < xs.length) (u : Int) (i : Nat) : valAt (xs.set k u) i = if i = k then u else valAt xs i := by
  unfold valAt
  by_cases h : i = k
  · subst h; simp [List.getD, hk]
  · rw [if_neg h]
    simp only [List.getD]
    rw [List.getElem?_set_ne (by omega)]
theorem next_num {p : P} : ∀ {k : Nat} (xs : List Int), V23 p k → k ≤ xs.length → Fit p xs k →
    (∀ i, k ≤ i → valAt (nextTo p k xs).1 i = valAt xs i) ∧ Fit p (nextTo p k xs).1 k ∧
    ((nextTo p k xs).2 = true → numTo p (nextTo p k xs).1 k = numTo p xs k + 1) ∧ ((nextTo p k xs).2 = false → numTo p xs k + 1 = prodTo p k)
  | 0, xs, _, _, hf => ⟨fun _ _ => rfl, hf, fun h => (by cases h), fun _ => rfl⟩
  | k + 1, xs, h, hl, hf => by
    have h2 := h k (by omega)
    have h3 := hf k (by omega)
    have hk : k < xs.length := by omega
    have hw : wrap64 (valAt xs k + 1) = valAt xs k + 1 := wrap_small (by omega) (by omega)
    unfold nextTo
    rw [hw]
    by_cases hlt : valAt xs k + 1 < (ruleAt p k).v
    · rw [if_pos hlt]
      refine ⟨fun i hi => by rw [valAt_set hk, if_neg (by omega)], fun i hi => ?_, fun _ => ?_, fun h => (by cases h)⟩
      · rw [valAt_set hk]
        split
        · rename_i e; subst e; exact ⟨by omega, hlt⟩
        · exact hf i hi
      · rw [numTo, numTo, valAt_set hk, if_pos rfl, numTo_congr (ys := xs) (fun i hi => by rw [valAt_set hk, if_neg (by omega)])]
        omega
    · rw [if_neg hlt]
      obtain ⟨i1, i2, i3, i4⟩ := next_num (p := p) (k := k) (xs.set k 0) (fun i hi => h i (by omega)) (by simp; omega) (fun i hi => by rw [valAt_set hk, if_neg (by omega)]; exact hf i (by omega))
      have hn : numTo p (xs.set k 0) k = numTo p xs k := numTo_congr (fun i hi => by rw [valAt_set hk, if_neg (by omega)])
      have hz : valAt (nextTo p k (xs.set k 0)).1 k = 0 := by rw [i1 k (by omega), valAt_set hk, if_pos rfl]
      have hv : (valAt xs k).toNat + 1 = vN p k := by unfold vN; omega
      refine ⟨fun i hi => by rw [i1 i (by omega), valAt_set hk, if_neg (by omega)], fun i hi => ?_, fun hb => ?_, fun hb => ?_⟩
      · by_cases e : i = k
        · subst e; rw [hz]; exact ⟨by omega, by omega⟩
        · exact i2 i (by omega)
      · rw [numTo, numTo, hz, i3 hb, hn, Nat.add_mul, Nat.one_mul]
        omega
      · have := i4 hb
        rw [hn] at this
        rw [numTo, prodTo, ← this, Nat.add_mul, Nat.one_mul]
        omega
theorem next_flag {p : P} {k : Nat} {xs : List Int} (h : V23 p k) (hl : k ≤ xs.length) (hf : Fit p xs k) : (nextTo p k xs).2 = decide (numTo p xs k + 1 < prodTo p k) := by
  obtain ⟨i1, i2, i3, i4⟩ := next_num xs h hl hf
  cases hb : (nextTo p k xs).2
  · have := i4 hb
    rw [eq_comm, decide_eq_false_iff_not]; omega
  · have h1 := i3 hb
    have := numTo_lt h i2
    rw [eq_comm, decide_eq_true_eq]; omega
/-- the values in their order -/
def seqv (p : P) : Nat → List Int
  | 0 => List.replicate p.rules.length 0
  | i + 1 => (nextTo p p.rules.length (seqv p i)).1
theorem seqv_len (p : P) : ∀ i, (seqv p i).length = p.rules.length
  | 0 => by simp [seqv]
  | i + 1 => by rw [seqv, nextTo_len, seqv_len p i]
def allN (p : P) : Nat := prodTo p p.rules.length
theorem numTo_zero {p : P} {m : Nat} : ∀ k, numTo p (List.replicate m 0) k = 0
  | 0 => rfl
  | k + 1 => by
    rw [numTo, numTo_zero k]
    simp [valAt, List.getD, List.getElem?_replicate]
    split <;> simp
theorem valAt_zero (m i : Nat) : valAt (List.replicate m 0) i = 0 := by
  simp [valAt, List.getD, List.getElem?_replicate]
  split <;> simp
theorem seqv_facts {p : P} (hR : Right p) : ∀ i, i < allN p → Fit p (seqv p i) p.rules.length ∧ numTo p (seqv p i) p.rules.length = i
  | 0, _ => ⟨fun i hi => by rw [seqv, valAt_zero]; have := v23_of hR i hi; omega, numTo_zero _⟩
  | i + 1, hi => by
    obtain ⟨h1, h2⟩ := seqv_facts hR i (by omega)
    have hV := v23_of hR
    have hl : p.rules.length ≤ (seqv p i).length := by rw [seqv_len]; exact Nat.le_refl _
    obtain ⟨-, i2, i3, -⟩ := next_num (seqv p i) hV hl h1
    have hb := next_flag hV hl h1
    rw [h2] at hb
    have : (nextTo p p.rules.length (seqv p i)).2 = true := by rw [hb, decide_eq_true_eq]; exact hi
    refine ⟨i2, ?_⟩
    rw [seqv, i3 this, h2]
theorem seqv_flag {p : P} (hR : Right p) {i : Nat} (hi : i < allN p) : (nextTo p p.rules.length (seqv p i)).2 = decide (i + 1 < allN p) := by
  obtain ⟨h1, h2⟩ := seqv_facts hR i hi
  rw [next_flag (v23_of hR) (by rw [seqv_len]; exact Nat.le_refl _) h1, h2]
  rfl
theorem ok_of_fit {p : P} {xs : List Int} (hR : Right p) (hl : xs.length = p.rules.length) (hf : Fit p xs p.rules.length) : valuesOk p xs = true := by
  refine valuesOk_yes hl (allTo_iff.2 fun i hi => ?_)
  have h1 := hf i (by omega)
  have h2 := v23_of hR i (by omega)
  have h3 : dec (ruleAt p i).v = (ruleAt p i).v - 1 := wrap_small (by omega) (by omega)
  unfold fits
  rw [inR_iff, h3]
  omega
theorem fit_of_ok {p : P} {xs : List Int} (hR : Right p) (h : valuesOk p xs = true) : Fit p xs p.rules.length := by
  intro i hi
  have hl := valuesOk_same h
  unfold valuesOk at h
  rw [Bool.and_eq_true, allTo_iff] at h
  have h1 := h.2 i (by omega)
  have h2 := v23_of hR i (by omega)
  have h3 : dec (ruleAt p i).v = (ruleAt p i).v - 1 := wrap_small (by omega) (by omega)
  unfold fits at h1
  rw [inR_iff, h3] at h1
  omega
theorem seqv_ok {p : P} (hR : Right p) {i : Nat} (hi : i < allN p) : valuesOk p (seqv p i) = true := ok_of_fit hR (seqv_len p i) (seqv_facts hR i hi).1
theorem allN_pos {p : P} (hR : Right p) : 0 < allN p := prodTo_pos (v23_of hR)
theorem zero_ties {p : P} (hR : Right p) : tiesOk p (seqv p 0) = true := by
  refine allTo_iff.2 fun i hi => ?_
  have h := hR.ties i hi
  simp only [tieFit, Bool.and_eq_true] at h
  unfold tieOk
  simp only [Bool.and_eq_true]
  refine ⟨h.1, h.2.1, ?_⟩
  rw [seqv, valAt_zero]
  rfl
/-- what i values' search has found: the values, what they cost, whether there are any -/
def overC (p : P) (x : Int) (xs : List Int) : Int := overOf (widthOf x) (renderTo p xs)
structure Found where
  v : List Int
  o : Int
  s : Int
  f : Bool
/-- the i-th values are taken -/
def takes (p : P) (x : Int) (b : Found) (i : Nat) : Bool := tiesOk p (seqv p i) && (!b.f || Cost.less (overC p x (seqv p i)) (sumOf p (seqv p i)) b.o b.s)
def bestTo (p : P) (x : Int) : Nat → Found
  | 0 => ⟨[], 0, 0, false⟩
  | i + 1 => if takes p x (bestTo p x i) i = true then ⟨seqv p i, overC p x (seqv p i), sumOf p (seqv p i), true⟩ else bestTo p x i
theorem bestTo_found {p : P} (hR : Right p) (x : Int) : ∀ i, (bestTo p x (i + 1)).f = true
  | 0 => by
    have : takes p x (bestTo p x 0) 0 = true := by unfold takes; rw [zero_ties hR]; rfl
    rw [bestTo, if_pos this]
  | i + 1 => by
    rw [bestTo]
    split
    · rfl
    · exact bestTo_found hR x i
theorem bestTo_len {p : P} (x : Int) : ∀ i, (bestTo p x i).v.length ≤ p.rules.length
  | 0 => by simp [bestTo]
  | i + 1 => by
    rw [bestTo]
    split
    · exact Nat.le_of_eq (seqv_len p i)
    · exact bestTo_len x i
end Go.Proofs.Ytlakellmdcdaaaa.Pc
