/-
  The contracts of spec.l01In, spec.l01Var, impl.varText, VarText, ReadVar, ShortText and ReadShort of the program and of the reference.
  Conditions: texts that are no longer than a text can be read.
-/
import Derived.Test.YtklhfjeonhjobaaDoorChecked
import Derived.Test.YtklhfjeonhjobaaDoorVarText
import Derived.Test.YtklhfjeonhjobaaDoorCrc
import Derived.Test.YtklhfjeonhjobaaDoorMem
import Derived.Test.YtklhfjeonhjobaaDoorMix
import Derived.WalkKit
import Derived.ProofKit
import Derived.WalkLawsBesides
import Derived.WalkSpells
import Derived.Lib.Hide
namespace Go.Proofs.YtklhfjeonhjobaaDoor.Var
set_option maxRecDepth 100000
open Go.RowKit Go.Proofs.YtklhfjeonhjobaaDoor.Mem Go.Proofs.YtklhfjeonhjobaaDoor.VarMath Go.Proofs.YtklhfjeonhjobaaDoor.Mix
theorem E8 : Elem Tryd.prog 32 5 (.int .u8 0) 1 1 := ⟨Tryd.underlying32, by kernel_rfl, rfl, by omega⟩
set_option maxHeartbeats 400000 in
theorem impl_var (n : Nat) (hn : n < 34359738368) (w : World) :
    Calls Tryd.prog 64 #[.int .i64 n] w fun e w' => e = .returned (.string (text n)) ∧ Below w.heap.size w w' := by
  go_enter Tryd.func64, Tryd.ntmps64
  go_wp2
  go_loopw [0, 3] (fun x o wr => ∃ m f k : Nat, ∃ xs : List Int, m < 128 ^ (f + 1) ∧ f + k = 4 ∧ x = .int .i64 m ∧ wr.ownsRow w.heap.size 5 1 o k (xs.map (Value.int .u8)) ∧ Below w.heap.size w wr ∧ Hid (text n = strOfNums (xs ++ varB f m))) (fun x _ _ => (intOf x).toNat)
  case atStart => exact ⟨n, 4, 0, [], by omega, by omega, rfl, World.ownsRow_nil _ _ _ _, Below.refl _ _, Lib.hid rfl⟩
  case round =>
    obtain ⟨m, f, k, xs, hm, hf, rfl, hown, hb, hv⟩ := hrel
    have hm2 : m < 34359738368 := by
      have : 128 ^ (f + 1) ≤ 128 ^ 5 := Nat.pow_le_pow_right (by omega) (by omega)
      omega
    by_cases hlt : 127 < m
    · obtain ⟨v', w1, hrun, hown1, hb1, -, -⟩ := append_new E8 hown hb [.int .u8 (128 + (m : Int) % 128)] 1 rfl (by simp [Value.oneCell']) (by simp only [maxLen]; omega) (by omega)
      obtain ⟨g, rfl, hg, hvm⟩ := varB_more hlt hm
      have hvm := Lib.hid hvm
      go_wp2_with (at_builtin; refine wpList_append_run rfl rfl hrun ?_)
      go_roundw
      case rel => exact ⟨m / 128, g, k + 1, xs ++ [128 + (m : Int) % 128], hg, by omega, by go_num, by simpa using hown1, hb1, Lib.hid (by rw [hv.out, hvm.out, List.append_assoc, Int.add_comm]; rfl)⟩
      case measure => simp [intOf]; omega
    · obtain ⟨v2, w2, hrun2, hown2, hb2, -, -⟩ := append_new E8 hown hb [.int .u8 (m : Int)] 1 rfl (by simp [Value.oneCell']) (by simp only [maxLen]; omega) (by omega)
      have hs := string_own (d := 9) (xs := xs ++ [(m : Int)]) Tryd.underlying32 Tryd.underlying5 Tryd.underlying9 (by simpa using hown2)
      have hvm := Lib.hid (varB_last (f := f) hlt)
      go_wp2_with (at_builtin; refine wpList_append_run rfl rfl hrun2 ?_)
      go_ret
      exact ⟨by rw [hv.out, hvm.out]; rfl, hb2⟩
/-- VarText -/
def varText (n : Int) : ByteArray × Bool := if 0 ≤ n ∧ n ≤ 1000000000 then (text n.toNat, true) else (ByteArray.empty, false)
def strBool (x : ByteArray × Bool) : Value := .tuple #[.string x.1, .bool x.2]
theorem impl_VarText (n : Int) (w : World) :
    Calls Tryd.prog 21 #[.int .i64 n] w fun e w' => e = .returned (strBool (varText n)) ∧ Below w.heap.size w w' := by
  by_cases h0 : 0 ≤ n
  · obtain ⟨k, rfl⟩ := Int.eq_ofNat_of_zero_le h0
    by_cases h1 : (k : Int) ≤ 1000000000
    · have hv := Lib.hid (show varText (k : Int) = (text k, true) by unfold varText; rw [if_pos ⟨h0, h1⟩]; rfl)
      go_enter Tryd.func21, Tryd.ntmps21
      go_wp2_with (go_at_call 64; refine (impl_var _ (by omega) _).mono ?_; rintro e w1 ⟨rfl, hb⟩)
      go_ret2
      exact ⟨by rw [hv.out]; rfl, hb⟩
    · have hv := Lib.hid (show varText (k : Int) = (ByteArray.empty, false) by unfold varText; rw [if_neg (by omega)])
      go_enter Tryd.func21, Tryd.ntmps21
      go_wp2
      go_ret2
      exact ⟨by rw [hv.out]; rfl, Below.refl _ _⟩
  · have hv := Lib.hid (show varText n = (ByteArray.empty, false) by unfold varText; rw [if_neg (by omega)])
    go_enter Tryd.func21, Tryd.ntmps21
    go_wp2
    go_ret2
    exact ⟨by rw [hv.out]; rfl, Below.refl _ _⟩
end Go.Proofs.YtklhfjeonhjobaaDoor.Var
