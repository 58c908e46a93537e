/-
  The contracts of spec.l01In, spec.l01Var, impl.varText, VarText, ReadVar, ShortText and ReadShort of the program and of the reference.
  Conditions: texts that are no longer than a text can be read.
-/
import Derived.Test.YtjhjgeinpnghfaaChecked
import Derived.Test.YtjhjgeinpnghfaaVarText
import Derived.Test.YtjhjgeinpnghfaaCrc
import Derived.Test.YtjhjgeinpnghfaaMem
import Derived.Test.YtjhjgeinpnghfaaMix
import Derived.WalkKit
import Derived.ProofKit
import Derived.WalkLawsBesides
import Derived.WalkSpells
import Derived.Lib.Hide
namespace Go.Proofs.Ytjhjgeinpnghfaa.Var
open Go.RowKit Go.Proofs.Ytjhjgeinpnghfaa.Mem Go.Proofs.Ytjhjgeinpnghfaa.VarMath Go.Proofs.Ytjhjgeinpnghfaa.Mix
theorem E8 : Elem Try.prog 44 5 (.int .u8 0) 1 1 := ⟨Try.underlying44, by kernel_rfl, rfl, by omega⟩
theorem in_any (x l m : Int) (w : World) : Calls Try.prog 49 #[.int .i64 x, .int .i64 l, .int .i64 m] w fun e w' => e = .returned (.bool (decide (l ≤ x) && decide (x ≤ m))) ∧ w = w' := by
  go_enter Try.func49, Try.ntmps49
  go_wp2
  all_goals
    go_ret
    exact ⟨by first | (simp_all; done) | (simp_all; omega), rfl⟩
theorem in_yes (x l m : Int) (h : l ≤ x ∧ x ≤ m) (w : World) : Calls Try.prog 49 #[.int .i64 x, .int .i64 l, .int .i64 m] w fun e w' => e = .returned (.bool true) ∧ w = w' :=
  (in_any x l m w).mono fun e w' ⟨he, hw⟩ => ⟨by rw [he]; simp [h.1, h.2], hw⟩
theorem in_no (x l m : Int) (h : ¬ (l ≤ x ∧ x ≤ m)) (w : World) : Calls Try.prog 49 #[.int .i64 x, .int .i64 l, .int .i64 m] w fun e w' => e = .returned (.bool false) ∧ w = w' :=
  (in_any x l m w).mono fun e w' ⟨he, hw⟩ => ⟨by rw [he, ← Bool.decide_and]; simp only [h, decide_false], hw⟩
set_option maxHeartbeats 400000 in
theorem impl_var (n : Nat) (hn : n < 34359738368) (w : World) :
    Calls Try.prog 48 #[.int .i64 n] w fun e w' => e = .returned (.string (text n)) ∧ Below w.heap.size w w' := by
  go_enter Try.func48, Try.ntmps48
  go_wp2
  go_loopw [0, 3] (fun x o wr => ∃ m f k : Nat, ∃ xs : List Int, m < 128 ^ (f + 1) ∧ f + k = 4 ∧ x = .int .i64 m ∧ wr.ownsRow w.heap.size 5 1 o k (xs.map (Value.int .u8)) ∧ Below w.heap.size w wr ∧ Hid (text n = strOfNums (xs ++ varB f m))) (fun x _ _ => (intOf x).toNat)
  case atStart => exact ⟨n, 4, 0, [], by omega, by omega, rfl, World.ownsRow_nil _ _ _ _, Below.refl _ _, Lib.hid rfl⟩
  case round =>
    obtain ⟨m, f, k, xs, hm, hf, rfl, hown, hb, hv⟩ := hrel
    have hm2 : m < 34359738368 := by
      have : 128 ^ (f + 1) ≤ 128 ^ 5 := Nat.pow_le_pow_right (by omega) (by omega)
      omega
    by_cases hlt : 127 < m
    · obtain ⟨v', w1, hrun, hown1, hb1, -, -⟩ := append_new E8 hown hb [.int .u8 (128 + (m : Int) % 128)] 1 rfl (by simp [Value.oneCell']) (by simp only [maxLen]; omega) (by omega)
      obtain ⟨g, rfl, hg, hvm⟩ := varB_more hlt hm
      have hvm := Lib.hid hvm
      go_wp2_with (at_builtin; refine wpList_append_run rfl rfl hrun ?_)
      go_roundw
      case rel => exact ⟨m / 128, g, k + 1, xs ++ [128 + (m : Int) % 128], hg, by omega, by go_num, by simpa using hown1, hb1, Lib.hid (by rw [hv.out, hvm.out, List.append_assoc, Int.add_comm]; rfl)⟩
      case measure => simp [intOf]; omega
    · obtain ⟨v2, w2, hrun2, hown2, hb2, -, -⟩ := append_new E8 hown hb [.int .u8 (m : Int)] 1 rfl (by simp [Value.oneCell']) (by simp only [maxLen]; omega) (by omega)
      have hs := string_own (d := 9) (xs := xs ++ [(m : Int)]) Try.underlying44 Try.underlying5 Try.underlying9 (by simpa using hown2)
      have hvm := Lib.hid (varB_last (f := f) hlt)
      go_wp2_with (at_builtin; refine wpList_append_run rfl rfl hrun2 ?_)
      go_ret
      exact ⟨by rw [hv.out, hvm.out]; rfl, hb2⟩
set_option maxHeartbeats 400000 in
theorem spec_var (n : Nat) (hn : n < 34359738368) (w : World) :
    Calls Try.prog 47 #[.int .i64 n] w fun e w' => e = .returned (.string (text n)) ∧ Below w.heap.size w w' := by
  go_enter Try.func47, Try.ntmps47
  go_wp2
  go_loopw [0, 3] (fun x o wr => ∃ m f k : Nat, ∃ xs : List Int, m < 128 ^ (f + 1) ∧ f + k = 4 ∧ x = .int .i64 m ∧ wr.ownsRow w.heap.size 5 1 o k (xs.map (Value.int .u8)) ∧ Below w.heap.size w wr ∧ Hid (text n = strOfNums (xs ++ varB f m))) (fun x _ _ => (intOf x).toNat)
  case atStart => exact ⟨n, 4, 0, [], by omega, by omega, rfl, World.ownsRow_lit w #[] 0 (Nat.le_refl _) (by simp [maxLen]) rfl, (Below.refl _ _).alloc (Nat.le_refl _) _, Lib.hid rfl⟩
  case round =>
    obtain ⟨m, f, k, xs, hm, hf, rfl, hown, hb, hv⟩ := hrel
    have hm2 : m < 34359738368 := by
      have : 128 ^ (f + 1) ≤ 128 ^ 5 := Nat.pow_le_pow_right (by omega) (by omega)
      omega
    by_cases hlt : 127 < m
    · obtain ⟨v', w1, hrun, hown1, hb1, -, -⟩ := append_new E8 hown hb [.int .u8 ((m : Int) % 128 + 128)] 1 rfl (by simp [Value.oneCell']) (by simp only [maxLen]; omega) (by omega)
      obtain ⟨g, rfl, hg, hvm⟩ := varB_more hlt hm
      have hvm := Lib.hid hvm
      go_wp2_with (at_builtin; refine wpList_append_run rfl rfl hrun ?_)
      go_roundw
      case rel => exact ⟨m / 128, g, k + 1, xs ++ [(m : Int) % 128 + 128], hg, by omega, by go_num, by simpa using hown1, hb1, Lib.hid (by rw [hv.out, hvm.out, List.append_assoc]; rfl)⟩
      case measure => simp [intOf]; omega
    · obtain ⟨v2, w2, hrun2, hown2, hb2, -, -⟩ := append_new E8 hown hb [.int .u8 (m : Int)] 1 rfl (by simp [Value.oneCell']) (by simp only [maxLen]; omega) (by omega)
      have hs := string_own (d := 9) (xs := xs ++ [(m : Int)]) Try.underlying44 Try.underlying5 Try.underlying9 (by simpa using hown2)
      have hvm := Lib.hid (varB_last (f := f) hlt)
      go_wp2_with (at_builtin; refine wpList_append_run rfl rfl hrun2 ?_)
      go_ret
      exact ⟨by rw [hv.out, hvm.out]; rfl, hb2⟩
/-- VarText -/
def varText (n : Int) : ByteArray × Bool := if 0 ≤ n ∧ n ≤ 1000000000 then (text n.toNat, true) else (ByteArray.empty, false)
def strBool (x : ByteArray × Bool) : Value := .tuple #[.string x.1, .bool x.2]
theorem impl_VarText (n : Int) (w : World) :
    Calls Try.prog 20 #[.int .i64 n] w fun e w' => e = .returned (strBool (varText n)) ∧ Below w.heap.size w w' := by
  by_cases h0 : 0 ≤ n
  · obtain ⟨k, rfl⟩ := Int.eq_ofNat_of_zero_le h0
    by_cases h1 : (k : Int) ≤ 1000000000
    · have hv := Lib.hid (show varText (k : Int) = (text k, true) by unfold varText; rw [if_pos ⟨h0, h1⟩]; rfl)
      go_enter Try.func20, Try.ntmps20
      go_wp2_with (go_at_call 48; refine (impl_var _ (by omega) _).mono ?_; rintro e w1 ⟨rfl, hb⟩)
      go_ret2
      exact ⟨by rw [hv.out]; rfl, hb⟩
    · have hv := Lib.hid (show varText (k : Int) = (ByteArray.empty, false) by unfold varText; rw [if_neg (by omega)])
      go_enter Try.func20, Try.ntmps20
      go_wp2
      go_ret2
      exact ⟨by rw [hv.out]; rfl, Below.refl _ _⟩
  · have hv := Lib.hid (show varText n = (ByteArray.empty, false) by unfold varText; rw [if_neg (by omega)])
    go_enter Try.func20, Try.ntmps20
    go_wp2
    go_ret2
    exact ⟨by rw [hv.out]; rfl, Below.refl _ _⟩
theorem spec_VarText (n : Int) (w : World) :
    Calls Try.prog 19 #[.int .i64 n] w fun e w' => e = .returned (strBool (varText n)) ∧ Below w.heap.size w w' := by
  by_cases h0 : 0 ≤ n
  · obtain ⟨k, rfl⟩ := Int.eq_ofNat_of_zero_le h0
    by_cases h1 : (k : Int) ≤ 1000000000
    · have hv := Lib.hid (show varText (k : Int) = (text k, true) by unfold varText; rw [if_pos ⟨h0, h1⟩]; rfl)
      go_enter Try.func19, Try.ntmps19
      go_wp2_with (first
        | (go_at_call 49; refine (in_yes _ _ _ (by omega) _).mono ?_; rintro e w1 ⟨rfl, rfl⟩)
        | (go_at_call 47; refine (spec_var _ (by omega) _).mono ?_; rintro e w1 ⟨rfl, hb⟩))
      go_ret2
      exact ⟨by rw [hv.out]; rfl, hb⟩
    · have hv := Lib.hid (show varText (k : Int) = (ByteArray.empty, false) by unfold varText; rw [if_neg (by omega)])
      go_enter Try.func19, Try.ntmps19
      go_wp2_with (go_at_call 49; refine (in_no _ _ _ (by omega) _).mono ?_; rintro e w1 ⟨rfl, rfl⟩)
      go_ret2
      exact ⟨by rw [hv.out]; rfl, Below.refl _ _⟩
  · have hv := Lib.hid (show varText n = (ByteArray.empty, false) by unfold varText; rw [if_neg (by omega)])
    go_enter Try.func19, Try.ntmps19
    go_wp2_with (go_at_call 49; refine (in_no _ _ _ (by omega) _).mono ?_; rintro e w1 ⟨rfl, rfl⟩)
    go_ret2
    exact ⟨by rw [hv.out]; rfl, Below.refl _ _⟩
end Go.Proofs.Ytjhjgeinpnghfaa.Var
