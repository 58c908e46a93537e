/-
  The contracts of impl.Trimmed and spec.Trimmed: the text without the blanks at its end.
  Conditions: a text that can be read.
-/
import Derived.Test.YtklhfjeonhjobaaDoorChecked
import Derived.Test.YtklhfjeonhjobaaDoorShelf
import Derived.WalkKit
import Derived.ProofKit
import Derived.WalkLawsBesides
import Derived.WalkSpells
import Derived.Lib.Hide
import Derived.Lib.TrimByte
import Derived.Deep.QuietTactic
import Derived.BigQuiet
namespace Go.Proofs.YtklhfjeonhjobaaDoor.Trim
open Go.RowKit
def trimmed (s : ByteArray) : ByteArray := ⟨(Lib.trimRightB s.data.toList 32).toArray⟩
theorem step (l : List UInt8) (n : Nat) (h : n < l.length) (hc : l[n] = 32) : Lib.trimRightB (l.take (n + 1)) 32 = Lib.trimRightB (l.take n) 32 := by
  unfold Lib.trimRightB
  rw [List.take_succ_eq_append_getElem h, List.reverse_append, hc]
  simp
theorem stop (l : List UInt8) (n : Nat) (h : n < l.length) (hc : l[n] ≠ 32) : Lib.trimRightB (l.take (n + 1)) 32 = l.take (n + 1) := by
  unfold Lib.trimRightB
  rw [List.take_succ_eq_append_getElem h, List.reverse_append, List.reverse_singleton, List.singleton_append, List.dropWhile_cons_of_neg (by simpa using hc)]
  simp
theorem done {s : ByteArray} {n : Nat} (hn : n ≤ s.size) (h : Lib.trimRightB s.data.toList 32 = s.data.toList.take n) : s.extract 0 n = trimmed s := by
  unfold trimmed
  rw [h]
  cases s with
  | mk d =>
    show ByteArray.extract ⟨d⟩ 0 n = _
    have : (ByteArray.extract ⟨d⟩ 0 n).data = d.extract 0 n := by rw [ByteArray.data_extract]
    cases hh : ByteArray.extract ⟨d⟩ 0 n with
    | mk e =>
      rw [hh] at this
      simp only at this
      subst this
      congr 1
      apply Array.toList_inj.1
      simp [Array.toList_extract, List.extract_eq_take_drop]
theorem impl_Trimmed (s : ByteArray) (hs : s.size ≤ 9223372036854775807) (w : World) : Calls Tryd.prog 37 #[.string s] w fun e w' => e = .returned (.string (trimmed s)) ∧ w = w' := by
  go_enter Tryd.func37, Tryd.ntmps37
  go_wp2_with fail
  refine (Tryd.strings_TrimRight_one s 32 (by decide) _ hs).mono ?_
  rintro e w1 ⟨rfl, rfl⟩
  go_wp2
  go_ret
  exact ⟨rfl, rfl⟩
set_option maxHeartbeats 800000 in
theorem spec_Trimmed (s : ByteArray) (hs : s.size ≤ 9223372036854775807) (w : World) : Calls Tryd.prog 38 #[.string s] w fun e w' => e = .returned (.string (trimmed s)) ∧ w = w' := by
  have hl : s.data.toList.length = s.size := by simp
  go_enter Tryd.func38, Tryd.ntmps38
  go_wp2
  go_loop [3] (fun n => ∃ k : Nat, k ≤ s.size ∧ n = .int .i64 k ∧ Hid (Lib.trimRightB s.data.toList 32 = Lib.trimRightB (s.data.toList.take k) 32)) (fun n => (intOf n).toNat)
  case atStart => exact ⟨s.size, Nat.le_refl _, rfl, Lib.hid (by rw [List.take_of_length_le (by omega)])⟩
  case round =>
    obtain ⟨k, hk, rfl, hr⟩ := hrel
    rcases k with _ | j
    · have hfin := Lib.hid (show ByteArray.empty = trimmed s by unfold trimmed; rw [hr.out]; rfl)
      go_wp2
      go_ret
      exact ⟨by rw [← hfin.out]; rfl, rfl⟩
    · have hj : j < s.size := by omega
      have d1 : decide ((0 : Int) < (j : Int) + 1) = true := decide_eq_true (by omega)
      have hd : s.data.toList[j] = s[j] := rfl
      by_cases h : s[j].toNat = 32
      · have e1 : ((s[j].toNat : Int) == 32) = true := by simp; omega
        have hon := Lib.hid (hr.out.trans (step s.data.toList j (by omega) (by rw [hd]; exact UInt8.toNat_inj.1 h)))
        clear h hr hd hl
        go_wp2
        go_round
        case rel => exact ⟨j, by omega, by go_num, hon⟩
        case measure => simp [intOf]
      · have e1 : ((s[j].toNat : Int) == 32) = false := by simp; omega
        have hfin := Lib.hid (done (s := s) (n := j + 1) hk (hr.out.trans (stop s.data.toList j (by omega) (by rw [hd]; intro e; exact h (by rw [e]; rfl)))))
        clear h hr hd hl
        go_wp2
        go_ret
        exact ⟨by rw [← hfin.out]; rfl, rfl⟩
end Go.Proofs.YtklhfjeonhjobaaDoor.Trim
