/-
  The contracts of the byte tests of both lexers, and of impl.runOf, impl.isPlain, impl.quoted.
  Conditions: texts of 2^20 bytes at most.
-/
import Derived.Test.YtklhfjeonhjobaaDoorScan
import Derived.Test.YtklhfjeonhjobaaDoorShelf
namespace Go.Proofs.YtklhfjeonhjobaaDoor.Scan
open Go.RowKit
theorem beq_nat (b : UInt8) (c : Nat) : ((b.toNat : Int) == (c : Int)) = (b.toNat == c) := by
  by_cases h : b.toNat = c
  · rw [h]; simp
  · rw [beq_eq_false_iff_ne.2 h, beq_eq_false_iff_ne.2 (by omega)]
theorem dle (n m : Nat) : decide (n ≤ m) = decide ((n : Int) ≤ (m : Int)) := by rw [decide_eq_decide]; omega
theorem fst_eq (b : UInt8) : isFst b = ((decide ((97 : Int) ≤ (b.toNat : Int)) && decide ((b.toNat : Int) ≤ 122)) || ((decide ((65 : Int) ≤ (b.toNat : Int)) && decide ((b.toNat : Int) ≤ 90)) || ((b.toNat : Int) == 95))) := by
  have h := beq_nat b 95
  unfold isFst
  rw [← h, dle 97, dle _ 122, dle 65, dle _ 90]
  rfl
theorem fig_eq (b : UInt8) : isFig b = (decide ((48 : Int) ≤ (b.toNat : Int)) && decide ((b.toNat : Int) ≤ 57)) := by
  unfold isFig
  rw [dle 48, dle _ 57]
  rfl
theorem pl_eq (b : UInt8) : isPl b = (decide ((32 : Int) ≤ (b.toNat : Int)) && decide ((b.toNat : Int) ≤ 126)) := by
  unfold isPl
  rw [dle 32, dle _ 126]
  rfl
set_option maxHeartbeats 1600000 in
theorem first_i (b : UInt8) (w : World) : Calls Tryd.prog 106 #[.int .u8 b.toNat] w fun e w' => e = .returned (.bool (isFst b)) ∧ w = w' := by
  rw [fst_eq]
  cases h0 : decide ((97 : Int) ≤ (b.toNat : Int)) <;> cases h1 : decide ((b.toNat : Int) ≤ 122) <;> cases h2 : decide ((65 : Int) ≤ (b.toNat : Int)) <;> cases h3 : decide ((b.toNat : Int) ≤ 90) <;> cases h4 : ((b.toNat : Int) == 95)
  all_goals
    go_enter Tryd.func106, Tryd.ntmps106
    go_wp2
    go_ret
    exact ⟨rfl, rfl⟩
set_option maxHeartbeats 1600000 in
theorem first_s (b : UInt8) (w : World) : Calls Tryd.prog 102 #[.int .u8 b.toNat] w fun e w' => e = .returned (.bool (isFst b)) ∧ w = w' := by
  rw [fst_eq]
  cases h0 : decide ((97 : Int) ≤ (b.toNat : Int)) <;> cases h1 : decide ((b.toNat : Int) ≤ 122) <;> cases h2 : decide ((65 : Int) ≤ (b.toNat : Int)) <;> cases h3 : decide ((b.toNat : Int) ≤ 90) <;> cases h4 : ((b.toNat : Int) == 95)
  all_goals
    go_enter Tryd.func102, Tryd.ntmps102
    go_wp2
    go_ret
    exact ⟨rfl, rfl⟩
set_option maxHeartbeats 1600000 in
theorem fig_i (b : UInt8) (w : World) : Calls Tryd.prog 109 #[.int .u8 b.toNat] w fun e w' => e = .returned (.bool (isFig b)) ∧ w = w' := by
  rw [fig_eq]
  cases h0 : decide ((48 : Int) ≤ (b.toNat : Int)) <;> cases h1 : decide ((b.toNat : Int) ≤ 57)
  all_goals
    go_enter Tryd.func109, Tryd.ntmps109
    go_wp2
    go_ret
    exact ⟨rfl, rfl⟩
set_option maxHeartbeats 1600000 in
theorem fig_s (b : UInt8) (w : World) : Calls Tryd.prog 103 #[.int .u8 b.toNat] w fun e w' => e = .returned (.bool (isFig b)) ∧ w = w' := by
  rw [fig_eq]
  cases h0 : decide ((48 : Int) ≤ (b.toNat : Int)) <;> cases h1 : decide ((b.toNat : Int) ≤ 57)
  all_goals
    go_enter Tryd.func103, Tryd.ntmps103
    go_wp2
    go_ret
    exact ⟨rfl, rfl⟩
set_option maxHeartbeats 1600000 in
theorem pl_s (b : UInt8) (w : World) : Calls Tryd.prog 122 #[.int .u8 b.toNat] w fun e w' => e = .returned (.bool (isPl b)) ∧ w = w' := by
  rw [pl_eq]
  cases h0 : decide ((32 : Int) ≤ (b.toNat : Int)) <;> cases h1 : decide ((b.toNat : Int) ≤ 126)
  all_goals
    go_enter Tryd.func122, Tryd.ntmps122
    go_wp2
    go_ret
    exact ⟨rfl, rfl⟩
theorem inner_i (b : UInt8) (w : World) : Calls Tryd.prog 108 #[.int .u8 b.toNat] w fun e w' => e = .returned (.bool (isInn b)) ∧ w = w' := by
  have c1 := first_i b
  have c2 := fig_i b
  unfold isInn
  generalize isFst b = p at *
  generalize isFig b = q at *
  replace c1 := Lib.hid c1
  replace c2 := Lib.hid c2
  cases p
  · skip
    go_enter Tryd.func108, Tryd.ntmps108
    go_wp2_with (first | (go_at_call 106; refine (c1.out _).mono ?_; rintro e w1 ⟨rfl, rfl⟩) | (go_at_call 109; refine (c2.out _).mono ?_; rintro e w1 ⟨rfl, rfl⟩))
    go_ret
    exact ⟨by simp, rfl⟩
  · skip
    go_enter Tryd.func108, Tryd.ntmps108
    go_wp2_with (go_at_call 106; refine (c1.out _).mono ?_; rintro e w1 ⟨rfl, rfl⟩)
    go_ret
    exact ⟨by simp, rfl⟩
def notEnd (b : UInt8) : Bool := b != 10
theorem notEnd_eq (b : UInt8) : notEnd b = ((b.toNat : Int) != 10) := by
  have h := beq_nat b 10
  unfold notEnd bne
  rw [show ((b.toNat : Int) == 10) = (b.toNat == 10) from h]
  congr 1
  by_cases hb : b = 10
  · subst hb; rfl
  · rw [beq_eq_false_iff_ne.2 hb, beq_eq_false_iff_ne.2 (fun e => hb (UInt8.toNat_inj.1 (by rw [e]; rfl)))]
theorem notEnd_i (b : UInt8) (w : World) : Calls Tryd.prog 112 #[.int .u8 b.toNat] w fun e w' => e = .returned (.bool (notEnd b)) ∧ w = w' := by
  rw [notEnd_eq]
  cases h : ((b.toNat : Int) != 10)
  all_goals
    go_enter Tryd.func112, Tryd.ntmps112
    go_wp2
    go_ret
    exact ⟨rfl, rfl⟩
set_option maxHeartbeats 1600000 in
theorem runOf_inn (u : ByteArray) (hs : u.size ≤ 1048576) (w : World) : Calls Tryd.prog 107 #[.string u, .func (.func 108) #[] #[]] w fun e w' => e = .returned (.string (u.extract 0 (run isInn u 0))) ∧ w = w' := by
  go_enter Tryd.func107, Tryd.ntmps107
  go_wp2
  go_loop [5] (fun n => ∃ k : Nat, k ≤ u.size ∧ n = .int .i64 k ∧ Hid (∀ i, 0 ≤ i → i < k → ∀ h : i < u.size, isInn u[i] = true)) (fun n => u.size - (intOf n).toNat)
  case atStart => exact ⟨0, by omega, rfl, Lib.hid (fun i _ h => absurd h (Nat.not_lt_zero _))⟩
  case round =>
    obtain ⟨k, hk, rfl, hr⟩ := hrel
    by_cases hlt : k < u.size
    · have i0 : (0 : Int) ≤ (k : Int) := by omega
      have i1 : (k : Int) < (u.size : Int) := by omega
      cases hf : isInn u[k]
      · have hfin := Lib.hid (run_end (Nat.zero_le k) hk hr.out (fun _ => hf))
        have hc := Lib.hid (inner_i u[k])
        rw [hf] at hc
        replace hf := Lib.hid hf
        go_wp2_with (go_at_call 108; refine (hc.out _).mono ?_; rintro e w1 ⟨rfl, rfl⟩)
        go_ret
        exact ⟨by rw [hfin.out]; simp, rfl⟩
      · have hon := Lib.hid (show ∀ i, 0 ≤ i → i < k + 1 → ∀ h : i < u.size, isInn u[i] = true from fun i h0 h1 h2 => by
          by_cases e : i = k
          · subst e; exact hf
          · exact hr.out i h0 (by omega) h2)
        have hc := Lib.hid (inner_i u[k])
        rw [hf] at hc
        replace hf := Lib.hid hf
        go_wp2_with (go_at_call 108; refine (hc.out _).mono ?_; rintro e w1 ⟨rfl, rfl⟩)
        exact ⟨⟨k + 1, by omega, by go_num, hon⟩, by simp [intOf]; omega⟩
    · have hke : k = u.size := by omega
      subst hke
      have hfin := Lib.hid (run_end (f := isInn) (Nat.zero_le u.size) (Nat.le_refl _) hr.out (fun h => absurd h (Nat.lt_irrefl _)))
      go_wp2
      go_ret
      exact ⟨by rw [hfin.out]; simp, rfl⟩
set_option maxHeartbeats 1600000 in
theorem runOf_fig (u : ByteArray) (hs : u.size ≤ 1048576) (w : World) : Calls Tryd.prog 107 #[.string u, .func (.func 109) #[] #[]] w fun e w' => e = .returned (.string (u.extract 0 (run isFig u 0))) ∧ w = w' := by
  go_enter Tryd.func107, Tryd.ntmps107
  go_wp2
  go_loop [5] (fun n => ∃ k : Nat, k ≤ u.size ∧ n = .int .i64 k ∧ Hid (∀ i, 0 ≤ i → i < k → ∀ h : i < u.size, isFig u[i] = true)) (fun n => u.size - (intOf n).toNat)
  case atStart => exact ⟨0, by omega, rfl, Lib.hid (fun i _ h => absurd h (Nat.not_lt_zero _))⟩
  case round =>
    obtain ⟨k, hk, rfl, hr⟩ := hrel
    by_cases hlt : k < u.size
    · have i0 : (0 : Int) ≤ (k : Int) := by omega
      have i1 : (k : Int) < (u.size : Int) := by omega
      cases hf : isFig u[k]
      · have hfin := Lib.hid (run_end (Nat.zero_le k) hk hr.out (fun _ => hf))
        have hc := Lib.hid (fig_i u[k])
        rw [hf] at hc
        replace hf := Lib.hid hf
        go_wp2_with (go_at_call 109; refine (hc.out _).mono ?_; rintro e w1 ⟨rfl, rfl⟩)
        go_ret
        exact ⟨by rw [hfin.out]; simp, rfl⟩
      · have hon := Lib.hid (show ∀ i, 0 ≤ i → i < k + 1 → ∀ h : i < u.size, isFig u[i] = true from fun i h0 h1 h2 => by
          by_cases e : i = k
          · subst e; exact hf
          · exact hr.out i h0 (by omega) h2)
        have hc := Lib.hid (fig_i u[k])
        rw [hf] at hc
        replace hf := Lib.hid hf
        go_wp2_with (go_at_call 109; refine (hc.out _).mono ?_; rintro e w1 ⟨rfl, rfl⟩)
        exact ⟨⟨k + 1, by omega, by go_num, hon⟩, by simp [intOf]; omega⟩
    · have hke : k = u.size := by omega
      subst hke
      have hfin := Lib.hid (run_end (f := isFig) (Nat.zero_le u.size) (Nat.le_refl _) hr.out (fun h => absurd h (Nat.lt_irrefl _)))
      go_wp2
      go_ret
      exact ⟨by rw [hfin.out]; simp, rfl⟩
set_option maxHeartbeats 1600000 in
theorem runOf_end (u : ByteArray) (hs : u.size ≤ 1048576) (w : World) : Calls Tryd.prog 107 #[.string u, .func (.func 112) #[] #[]] w fun e w' => e = .returned (.string (u.extract 0 (run notEnd u 0))) ∧ w = w' := by
  go_enter Tryd.func107, Tryd.ntmps107
  go_wp2
  go_loop [5] (fun n => ∃ k : Nat, k ≤ u.size ∧ n = .int .i64 k ∧ Hid (∀ i, 0 ≤ i → i < k → ∀ h : i < u.size, notEnd u[i] = true)) (fun n => u.size - (intOf n).toNat)
  case atStart => exact ⟨0, by omega, rfl, Lib.hid (fun i _ h => absurd h (Nat.not_lt_zero _))⟩
  case round =>
    obtain ⟨k, hk, rfl, hr⟩ := hrel
    by_cases hlt : k < u.size
    · have i0 : (0 : Int) ≤ (k : Int) := by omega
      have i1 : (k : Int) < (u.size : Int) := by omega
      cases hf : notEnd u[k]
      · have hfin := Lib.hid (run_end (Nat.zero_le k) hk hr.out (fun _ => hf))
        have hc := Lib.hid (notEnd_i u[k])
        rw [hf] at hc
        replace hf := Lib.hid hf
        go_wp2_with (go_at_call 112; refine (hc.out _).mono ?_; rintro e w1 ⟨rfl, rfl⟩)
        go_ret
        exact ⟨by rw [hfin.out]; simp, rfl⟩
      · have hon := Lib.hid (show ∀ i, 0 ≤ i → i < k + 1 → ∀ h : i < u.size, notEnd u[i] = true from fun i h0 h1 h2 => by
          by_cases e : i = k
          · subst e; exact hf
          · exact hr.out i h0 (by omega) h2)
        have hc := Lib.hid (notEnd_i u[k])
        rw [hf] at hc
        replace hf := Lib.hid hf
        go_wp2_with (go_at_call 112; refine (hc.out _).mono ?_; rintro e w1 ⟨rfl, rfl⟩)
        exact ⟨⟨k + 1, by omega, by go_num, hon⟩, by simp [intOf]; omega⟩
    · have hke : k = u.size := by omega
      subst hke
      have hfin := Lib.hid (run_end (f := notEnd) (Nat.zero_le u.size) (Nat.le_refl _) hr.out (fun h => absurd h (Nat.lt_irrefl _)))
      go_wp2
      go_ret
      exact ⟨by rw [hfin.out]; simp, rfl⟩
theorem plain_no {u : ByteArray} {k : Nat} (h : k < u.size) (hb : isPl u[k] = false) : plain u = false := by
  unfold plain
  rw [List.all_eq_false]
  exact ⟨u[k], List.getElem_mem (l := u.data.toList) (by rw [len_list]; exact h), by rw [hb]; decide⟩
theorem plain_yes {u : ByteArray} (h : ∀ i, (hi : i < u.size) → isPl u[i] = true) : plain u = true := by
  unfold plain
  rw [List.all_eq_true]
  intro x hx
  obtain ⟨i, hi, rfl⟩ := List.mem_iff_getElem.1 hx
  exact h i (by rw [len_list] at hi; exact hi)
set_option maxHeartbeats 1600000 in
theorem plain_i (u : ByteArray) (hs : u.size ≤ 1048576) (w : World) : Calls Tryd.prog 113 #[.string u] w fun e w' => e = .returned (.bool (plain u)) ∧ w = w' := by
  go_enter Tryd.func113, Tryd.ntmps113
  go_wp2
  go_loop [3] (fun n => ∃ k : Nat, k ≤ u.size ∧ n = .int .i64 k ∧ Hid (∀ i, i < k → ∀ h : i < u.size, isPl u[i] = true)) (fun n => u.size - (intOf n).toNat)
  case atStart => exact ⟨0, by omega, rfl, Lib.hid (fun i h => absurd h (Nat.not_lt_zero _))⟩
  case round =>
    obtain ⟨k, hk, rfl, hr⟩ := hrel
    by_cases hlt : k < u.size
    · have i0 : (0 : Int) ≤ (k : Int) := by omega
      have i1 : (k : Int) < (u.size : Int) := by omega
      by_cases hlo : u[k].toNat < 32
      · have e1 : decide ((u[k].toNat : Int) < 32) = true := by simp; omega
        have hv := Lib.hid (plain_no hlt (by unfold isPl; rw [decide_eq_false (by omega)]; rfl))
        go_wp2
        go_ret
        exact ⟨by rw [hv.out]; rfl, rfl⟩
      · have e1 : decide ((u[k].toNat : Int) < 32) = false := by simp; omega
        by_cases hhi : 126 < u[k].toNat
        · have e2 : decide ((126 : Int) < (u[k].toNat : Int)) = true := by simp; omega
          have hv := Lib.hid (plain_no hlt (by unfold isPl; rw [decide_eq_false (show ¬ u[k].toNat ≤ 126 by omega)]; simp))
          go_wp2
          go_ret
          exact ⟨by rw [hv.out]; rfl, rfl⟩
        · have e2 : decide ((126 : Int) < (u[k].toNat : Int)) = false := by simp; omega
          have hf : isPl u[k] = true := by unfold isPl; rw [decide_eq_true (by omega), decide_eq_true (by omega)]; rfl
          have hon := Lib.hid (show ∀ i, i < k + 1 → ∀ h : i < u.size, isPl u[i] = true from fun i h1 h2 => by
            by_cases e : i = k
            · subst e; exact hf
            · exact hr.out i (by omega) h2)
          go_wp2
          exact ⟨⟨k + 1, by omega, by go_num, hon⟩, by simp [intOf]; omega⟩
    · have hv := Lib.hid (plain_yes (fun i hi => hr.out i (by omega) hi))
      go_wp2
      go_ret
      exact ⟨by rw [hv.out]; rfl, rfl⟩
end Go.Proofs.YtklhfjeonhjobaaDoor.Scan
