/-
  strings.Repeat at this dump (the library's own contract, laid), and blanks.
  Conditions: a number from 0 to 2^40.
-/
import Derived.Test.YtlakellmdcdaaaaProg
import Derived.Test.YtlakellmdcdaaaaStrs
import Derived.Shelf.Strings.Repeat
import Derived.Shelf.Lay
import Derived.Ground.NamesProg
import Derived.Lib.Agree
namespace Go.Proofs.Ytlakellmdcdaaaa.Rep
open Go.Shelf Go.RowKit Go.Proofs.Ytlakellmdcdaaaa.Strs
shelf_lay Lays.n105 Nm 105 at Try as Try.laysRepeat
theorem extra : Builder.Extra Try.prog Try.laysRepeat_ren where
  sizeBuilder := by kernel_rfl
  liesBuilder := by kernel_rfl
  t5 := Try.laysRepeat.t5
  a5 := Try.laysRepeat.a5
  z5 := Try.laysRepeat.z5
  v5 := Try.laysRepeat.v5
  infoByte := by kernel_rfl
  cellsByte := by kernel_rfl
  sizeByte := by kernel_rfl
  neB5 := by decide
theorem fRepeat : Try.laysRepeat_ren.f 105 = 124 := by kernel_rfl
def spaces (n : Nat) : ByteArray := ⟨(List.replicate n (32 : UInt8)).toArray⟩
theorem spaces_size (n : Nat) : (spaces n).size = n := by
  show (List.replicate n (32 : UInt8)).toArray.size = n
  simp
theorem spaces_on (n : Nat) : spaces n ++ ByteArray.mk #[32] = spaces (n + 1) := by
  apply toList_inj
  simp [ByteArray.toList_eq, spaces, List.replicate_succ']
theorem impl_blanks (n : Int) (h0 : 0 ≤ n) (h1 : n ≤ 1099511627776) (w : World) : Calls Try.prog 112 #[.int .i64 n] w fun e w' => e = .returned (.string (spaces n.toNat)) ∧ Below w.heap.size w w' := by
  obtain ⟨c, rfl⟩ : ∃ c : Nat, n = (c : Int) := ⟨n.toNat, by omega⟩
  have h := Any.strings_Repeat Try.laysRepeat extra ⟨#[32]⟩ c w (by omega) (by show 1 * c ≤ _; omega)
  rw [fRepeat] at h
  have e : Lib.repeatL (ByteArray.mk #[32]).data.toList c = List.replicate c 32 := by
    have := Lib.repeatL_replicate 32 1 c
    simpa using this
  rw [e] at h
  replace h := Lib.hid h
  go_enter Try.func112, Try.ntmps112
  go_wp2_with fail
  refine h.out.mono ?_
  rintro e w1 ⟨rfl, b⟩
  go_wp2
  go_ret
  exact ⟨by rw [Int.toNat_natCast]; rfl, b⟩
theorem spec_blanks (n : Int) (h0 : 0 ≤ n) (h1 : n ≤ 1099511627776) (w : World) : Calls Try.prog 111 #[.int .i64 n] w fun e w' => e = .returned (.string (spaces n.toNat)) ∧ w = w' := by
  obtain ⟨c, rfl⟩ : ∃ c : Nat, n = (c : Int) := ⟨n.toNat, by omega⟩
  go_enter Try.func111, Try.ntmps111
  go_wp2
  go_loop [3, 4] (fun s i => ∃ k : Nat, k ≤ c ∧ i = .int .i64 k ∧ s = .string (spaces k)) (fun _ i => c - (intOf i).toNat)
  case atStart => exact ⟨0, by omega, rfl, rfl⟩
  case round =>
    obtain ⟨k, hk, rfl, rfl⟩ := hrel
    by_cases hlt : k < c
    · have hon := Lib.hid (spaces_on k)
      have hz := spaces_size k
      generalize spaces k = j at *
      go_wp2
      go_round
      case rel => exact ⟨k + 1, by omega, by go_num, by rw [← hon.out]⟩
      case measure => simp [intOf]; omega
    · obtain rfl : k = c := by omega
      go_wp2
      go_ret
      exact ⟨rfl, rfl⟩
end Go.Proofs.Ytlakellmdcdaaaa.Rep
