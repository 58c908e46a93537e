/-
  The contracts of impl.SumMore and spec.SumMore: each returns Crc.crc of the sum and the bytes, and leaves the world alone.
  Conditions: the sum fits 32 bits; the text is no longer than a text that can be read.
-/
import Derived.Test.YtklhfjeonhjobaaChecked
import Derived.Test.YtklhfjeonhjobaaCrc
import Derived.WalkKit
import Derived.ProofKit
import Derived.WalkLawsBesides
import Derived.WalkSpells
import Derived.Lib.Hide
namespace Go.Proofs.Ytklhfjeonhjobaa.SumMore
open Go.RowKit Go.Proofs.Ytklhfjeonhjobaa.Crc
set_option linter.unusedVariables false
set_option maxHeartbeats 400000 in
theorem impl_any (n : Nat) (hn : n < 4294967296) (s : ByteArray) (w : World) (hs : s.size ≤ 140737488351232) :
    Calls Try.prog 11 #[.int .u32 n, .string s] w fun e w' => e = .returned (.int .u32 (crc n s.data.toList)) ∧ w = w' := by
  go_enter Try.func11, Try.ntmps11
  go_wp2
  go_loop [0, 5] (fun x i => ∃ k : Nat, k ≤ s.size ∧ i = .int .i64 k ∧ x = .int .u32 (crc n (s.data.toList.take k))) (fun _ i => s.size - (intOf i).toNat)
  case atStart => exact ⟨0, Nat.zero_le _, rfl, rfl⟩
  case round =>
    obtain ⟨k, hk, rfl, rfl⟩ := hrel
    have hb := crc_lt (s.data.toList.take k) hn
    have hfin : s.data.toList.take s.size = s.data.toList := List.take_of_length_le (by simp)
    by_cases hlt : k < s.size
    · have h1 := Lib.hid (crc_step n s k hlt)
      generalize crc n (s.data.toList.take k) = m at *
      have h2 := xor_byte_lt hb s[k]
      have h3 := s[k].toNat_lt
      have hx0 : bits BinOp.xor IntKind.u32 (m : Int) (s[k].toNat : Int) = ((m ^^^ s[k].toNat : Nat) : Int) := u32_xor_nat _ _ hb (by omega)
      generalize m ^^^ s[k].toNat = y at *
      go_wp2
      go_loop [0, 19] (fun x i => ∃ j : Nat, j ≤ 8 ∧ i = .int .i64 j ∧ x = .int .u32 (bitsN y j)) (fun _ i => 8 - (intOf i).toNat)
      case atStart => exact ⟨0, Nat.zero_le _, rfl, rfl⟩
      case round =>
        obtain ⟨j, hj, rfl, rfl⟩ := hrel
        have h4 := bitsN_lt h2 j
        have h5 := Lib.hid (show bitsN y (j + 1) = bitN (bitsN y j) from rfl)
        by_cases hj8 : j < 8
        · generalize bitsN y j = z at *
          have ha := and_one h4
          have hx2 := xor_poly h4
          by_cases ho : z % 2 = 1
          · have ho' : (((z : Int) % 2) == 1) = true := by simp; omega
            have h6 := bitN_odd ho
            go_wp2
            refine ⟨⟨j + 1, by omega, by go_num, ?_⟩, by simp [intOf]; omega⟩
            rw [h5.out, h6]
          · have ho' : (((z : Int) % 2) == 1) = false := by simp; omega
            have h6 := bitN_even ho
            go_wp2
            refine ⟨⟨j + 1, by omega, by go_num, ?_⟩, by simp [intOf]; omega⟩
            rw [h5.out, h6]; go_num
        · have hj9 : j = 8 := by omega
          subst hj9
          go_wp2
          refine ⟨⟨k + 1, by omega, by go_num, by rw [h1.out]⟩, by simp [intOf]; omega⟩
    · have hk' : k = s.size := by omega
      subst hk'
      go_wp2
      go_ret
      exact ⟨rfl, rfl⟩
end Go.Proofs.Ytklhfjeonhjobaa.SumMore
