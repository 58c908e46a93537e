/-
  The contracts of slices.Compare at []int, of impl.Compare and of spec.Compare: by the first place in which they are unlike, a shorter one that is a beginning ahead.
  Conditions: both slices read as lists of numbers.
-/
import Derived.Test.YtlakellmdcdaaaaChecked
import Derived.Test.YtlakellmdcdaaaaRow
import Derived.Test.YtlakellmdcdaaaaMix
import Derived.WalkKit
import Derived.ProofKit
import Derived.WalkLawsBesides
import Derived.WalkSpells
import Derived.Lib.Hide
import Derived.Deep.QuietTactic
import Derived.BigQuiet
namespace Go.Proofs.Ytlakellmdcdaaaa.Compare
open Go.RowKit Go.Proofs.Ytlakellmdcdaaaa.Row Go.Proofs.Ytlakellmdcdaaaa.Mix
def cmp : List Int → List Int → Int
  | [], [] => 0
  | [], _ :: _ => -1
  | _ :: _, [] => 1
  | a :: s, b :: t => if a < b then -1 else if b < a then 1 else cmp s t
theorem cmp_lt {xs ys : List Int} {k : Nat} (hx : k < xs.length) (hy : k < ys.length) (h : xs[k] < ys[k]) : cmp (xs.drop k) (ys.drop k) = -1 := by
  rw [List.drop_eq_getElem_cons hx, List.drop_eq_getElem_cons hy, cmp, if_pos h]
theorem cmp_gt {xs ys : List Int} {k : Nat} (hx : k < xs.length) (hy : k < ys.length) (h : ys[k] < xs[k]) : cmp (xs.drop k) (ys.drop k) = 1 := by
  rw [List.drop_eq_getElem_cons hx, List.drop_eq_getElem_cons hy, cmp, if_neg (by omega), if_pos h]
theorem cmp_eq {xs ys : List Int} {k : Nat} (hx : k < xs.length) (hy : k < ys.length) (h : xs[k] = ys[k]) : cmp (xs.drop k) (ys.drop k) = cmp (xs.drop (k + 1)) (ys.drop (k + 1)) := by
  rw [List.drop_eq_getElem_cons hx, List.drop_eq_getElem_cons hy, cmp, if_neg (by omega), if_neg (by omega)]
theorem cmp_end {xs ys : List Int} {k : Nat} (h : ¬ (k < xs.length ∧ k < ys.length)) (h1 : k ≤ xs.length) (h2 : k ≤ ys.length) : cmp (xs.drop k) (ys.drop k) = if xs.length < ys.length then -1 else if ys.length < xs.length then 1 else 0 := by
  by_cases hx : k < xs.length
  · have : k = ys.length := by omega
    subst this
    rw [List.drop_length, List.drop_eq_getElem_cons hx, if_neg (by omega), if_pos (by omega)]; rfl
  · have : k = xs.length := by omega
    subst this
    rw [List.drop_length]
    by_cases hy : xs.length < ys.length
    · rw [List.drop_eq_getElem_cons hy, if_pos hy]; rfl
    · rw [List.drop_of_length_le (by omega), if_neg hy, if_neg (by omega)]; rfl
theorem cmp_three (xs ys : List Int) : cmp xs ys = -1 ∨ cmp xs ys = 0 ∨ cmp xs ys = 1 := by
  induction xs generalizing ys with
  | nil => cases ys <;> simp [cmp]
  | cons a s ih => cases ys with
    | nil => simp [cmp]
    | cons b t => simp only [cmp]; split <;> (try split) <;> simp_all
set_option maxHeartbeats 800000 in
theorem spec_Compare {v1 v2 : Value} {xs ys : List Int} {w : World} (h1 : Row w v1 1 xs.length (xs.map (Value.int .i64))) (h2 : Row w v2 1 ys.length (ys.map (Value.int .i64))) :
    Calls Try.prog 51 #[v1, v2] w fun e w' => e = .returned (.int .i64 (cmp xs ys)) ∧ Below w.heap.size w w' := by
  obtain ⟨A, c, rfl, -, hn, hnc, hcm, ha⟩ := h1
  obtain ⟨A2, c2, rfl, -, hn2, hnc2, hcm2, ha2⟩ := h2
  go_enter Try.func51, Try.ntmps51
  go_wp2
  go_loopw [5] (fun i wr => ∃ k : Nat, k ≤ xs.length ∧ k ≤ ys.length ∧ i = .int .i64 k ∧ (∃ n, wr = w.drewN n) ∧ Hid (cmp xs ys = cmp (xs.drop k) (ys.drop k))) (fun i _ => xs.length - (intOf i).toNat)
  case atStart => exact ⟨0, by omega, by omega, rfl, ⟨0, rfl⟩, Lib.hid (by simp)⟩
  case round =>
    obtain ⟨k, hk, hk2, rfl, ⟨nd, rfl⟩, hr⟩ := hrel
    by_cases hlt : k < xs.length
    · obtain ⟨b, off, rfl, hb, hc⟩ := ha (by omega)
      have c1 := hc k _ (at_one hlt .i64)
      clear hc
      by_cases hlt2 : k < ys.length
      · obtain ⟨b2, off2, rfl, hb2, hc2⟩ := ha2 (by omega)
        have c2 := hc2 k _ (at_one hlt2 .i64)
        clear hc2
        have i0 : (0 : Int) ≤ (k : Int) := by omega
        have i1 : (k : Int) < (xs.length : Int) := by omega
        have i2 : (k : Int) < (ys.length : Int) := by omega
        rcases Int.lt_trichotomy xs[k] ys[k] with h | h | h
        · have hv := Lib.hid (cmp_lt hlt hlt2 h)
          go_wp2
          go_quiet (fail)
          go_wp2
          go_ret
          exact ⟨by rw [hr.out, hv.out]; rfl, by first | exact to_drewN _ _ _ | (simp only [World.drewN_drewN]; exact to_drewN _ _ _)⟩
        · have hv := Lib.hid (cmp_eq hlt hlt2 h)
          have d1 : decide (xs[k] < ys[k]) = false := by simp; omega
          have d2 : decide (ys[k] < xs[k]) = false := by simp; omega
          replace h := Lib.hid h
          go_wp2
          go_quiet (fail)
          go_wp2
          go_quiet (fail)
          go_wp2
          go_roundw
          case rel => exact ⟨k + 1, by omega, by omega, by go_num, ⟨_, rfl⟩, Lib.hid (by rw [hr.out, hv.out])⟩
          case measure => simp [intOf]; omega
        · have hv := Lib.hid (cmp_gt hlt hlt2 h)
          have d1 : decide (xs[k] < ys[k]) = false := by simp; omega
          go_wp2
          go_quiet (fail)
          go_wp2
          go_quiet (fail)
          go_wp2
          go_ret
          exact ⟨by rw [hr.out, hv.out]; rfl, by first | exact to_drewN _ _ _ | (simp only [World.drewN_drewN]; exact to_drewN _ _ _)⟩
      · have hend := Lib.hid (cmp_end (xs := xs) (ys := ys) (k := k) (by omega) hk hk2)
        have d1 : decide (k < ys.length) = false := by simp; omega
        go_wp2
        go_ret
        exact ⟨by rw [hr.out, hend.out, if_neg (by omega), if_pos (by omega)]; rfl, by first | exact to_drewN _ _ _ | (simp only [World.drewN_drewN]; exact to_drewN _ _ _)⟩
    · have d1 : decide (k < xs.length) = false := by simp; omega
      have hend := Lib.hid (cmp_end (xs := xs) (ys := ys) (k := k) (by omega) hk hk2)
      by_cases hl : xs.length < ys.length
      · go_wp2
        go_ret
        exact ⟨by rw [hr.out, hend.out, if_pos hl]; rfl, by first | exact to_drewN _ _ _ | (simp only [World.drewN_drewN]; exact to_drewN _ _ _)⟩
      · go_wp2
        go_ret
        exact ⟨by rw [hr.out, hend.out, if_neg hl, if_neg (by omega)]; rfl, by first | exact to_drewN _ _ _ | (simp only [World.drewN_drewN]; exact to_drewN _ _ _)⟩
end Go.Proofs.Ytlakellmdcdaaaa.Compare
