/-
  strings.Repeat at this dump (the numbers of seat r10, written by the kit's lay-plain), and blanks.
  Conditions: a number from 0 to 2^40.
-/
import Derived.Test.YtlakellmdcdaaaaProg
import Derived.Test.YtlakellmdcdaaaaStrs
import Derived.Shelf.Strings.Repeat
import Derived.Ground.NamesProg
import Derived.Lib.Agree
namespace Go.Proofs.Ytlakellmdcdaaaa.Rep
open Go.Shelf Go.RowKit Go.Proofs.Ytlakellmdcdaaaa.Strs
def Try.laysRepeat_ren : Go.Shelf.Ren := ⟨fun | 105 => 124 | 212 => 126 | 99 => 127 | 165 => 128 | 166 => 129 | 170 => 130 | 169 => 131 | 263 => 132 | 264 => 133 | 206 => 134 | 240 => 135 | 241 => 136 | 276 => 137 | 277 => 138 | n => n, fun | 9 => 9 | 3 => 3 | 4 => 4 | 20 => 20 | 0 => 0 | 46 => 140 | 109 => 141 | 5 => 5 | 72 => 146 | 76 => 150 | 51 => 154 | 146 => 155 | 53 => 157 | 148 => 158 | 70 => 144 | 37 => 63 | 75 => 149 | 127 => 160 | 164 => 161 | 80 => 153 | n => n, fun | n => n⟩
theorem Try.laysRepeat : Go.Proofs.Lays.n105 Try.prog Try.laysRepeat_ren := {
  mixed := by kernel_rfl
  f99 := Try.func127.trans (congrArg some (by kernel_rfl))
  f105 := Try.func124.trans (congrArg some (by kernel_rfl))
  f165 := Try.func128.trans (congrArg some (by kernel_rfl))
  f166 := Try.func129.trans (congrArg some (by kernel_rfl))
  f169 := Try.func131.trans (congrArg some (by kernel_rfl))
  f170 := Try.func130.trans (congrArg some (by kernel_rfl))
  f206 := Try.func134.trans (congrArg some (by kernel_rfl))
  f212 := Try.func126.trans (congrArg some (by kernel_rfl))
  f240 := Try.func135.trans (congrArg some (by kernel_rfl))
  f241 := Try.func136.trans (congrArg some (by kernel_rfl))
  f263 := Try.func132.trans (congrArg some (by kernel_rfl))
  f264 := Try.func133.trans (congrArg some (by kernel_rfl))
  f276 := Try.func137.trans (congrArg some (by kernel_rfl))
  f277 := Try.func138.trans (congrArg some (by kernel_rfl))
  t0 := Try.underlying0
  a0 := Try.isAgg0
  z0 := Try.sizeOf0
  v0 := Try.zeroValue0
  t3 := Try.underlying3
  a3 := Try.isAgg3
  z3 := Try.sizeOf3
  v3 := Try.zeroValue3
  t4 := Try.underlying4
  a4 := Try.isAgg4
  z4 := Try.sizeOf4
  v4 := Try.zeroValue4
  t5 := Try.underlying5
  a5 := Try.isAgg5
  z5 := Try.sizeOf5
  v5 := Try.zeroValue5
  t9 := Try.underlying9
  a9 := Try.isAgg9
  z9 := Try.sizeOf9
  v9 := Try.zeroValue9
  t20 := Try.underlying20
  a20 := Try.isAgg20
  z20 := Try.sizeOf20
  v20 := Try.zeroValue20
  t37 := Try.underlying63
  a37 := Try.isAgg63
  z37 := Try.sizeOf63
  v37 := Try.zeroValue63
  t46 := Try.underlying140
  a46 := Try.isAgg140
  z46 := Try.sizeOf140
  v46 := Try.zeroValue140
  t51 := Try.underlying154
  a51 := Try.isAgg154
  z51 := Try.sizeOf154
  v51 := Try.zeroValue154
  t53 := Try.underlying157
  a53 := Try.isAgg157
  z53 := Try.sizeOf157
  v53 := Try.zeroValue157
  t70 := Try.underlying144
  a70 := Try.isAgg144
  z70 := Try.sizeOf144
  v70 := Try.zeroValue144
  t72 := Try.underlying146
  a72 := Try.isAgg146
  z72 := Try.sizeOf146
  v72 := Try.zeroValue146
  t75 := Try.underlying149
  a75 := Try.isAgg149
  z75 := Try.sizeOf149
  v75 := Try.zeroValue149
  t76 := Try.underlying150
  a76 := Try.isAgg150
  z76 := Try.sizeOf150
  v76 := Try.zeroValue150
  t109 := Try.underlying141
  a109 := Try.isAgg141
  z109 := Try.sizeOf141
  v109 := Try.zeroValue141
  t127 := Try.underlying160
  a127 := Try.isAgg160
  z127 := Try.sizeOf160
  v127 := Try.zeroValue160
  t146 := Try.underlying155
  a146 := Try.isAgg155
  z146 := Try.sizeOf155
  v146 := Try.zeroValue155
  t148 := Try.underlying158
  a148 := Try.isAgg158
  z148 := Try.sizeOf158
  v148 := Try.zeroValue158
  t164 := Try.underlying161
  a164 := Try.isAgg161
  z164 := Try.sizeOf161
  v164 := Try.zeroValue161 }
theorem extra : Builder.Extra Try.prog Try.laysRepeat_ren := {
  sizeBuilder := by kernel_rfl
  liesBuilder := by kernel_rfl
  t5 := Try.laysRepeat.t5
  a5 := Try.laysRepeat.a5
  z5 := Try.laysRepeat.z5
  v5 := Try.laysRepeat.v5
  infoByte := by kernel_rfl
  cellsByte := by kernel_rfl
  sizeByte := by kernel_rfl
  neB5 := by decide }
theorem fRepeat : Try.laysRepeat_ren.f 105 = 124 := by kernel_rfl
def spaces (n : Nat) : ByteArray := ⟨(List.replicate n (32 : UInt8)).toArray⟩
theorem spaces_size (n : Nat) : (spaces n).size = n := by
  show (List.replicate n (32 : UInt8)).toArray.size = n
  simp
theorem spaces_on (n : Nat) : spaces n ++ ByteArray.mk #[32] = spaces (n + 1) := by
  apply toList_inj
  simp [ByteArray.toList_eq, spaces, List.replicate_succ']
theorem impl_blanks (n : Int) (h0 : 0 ≤ n) (h1 : n ≤ 1099511627776) (w : World) : Calls Try.prog 112 #[.int .i64 n] w fun e w' => e = .returned (.string (spaces n.toNat)) ∧ Below w.heap.size w w' := by
  obtain ⟨c, rfl⟩ : ∃ c : Nat, n = (c : Int) := ⟨n.toNat, by omega⟩
  have h := Any.strings_Repeat Try.laysRepeat extra ⟨#[32]⟩ c w (by omega) (by show 1 * c ≤ _; omega)
  rw [fRepeat] at h
  have e : Lib.repeatL (ByteArray.mk #[32]).data.toList c = List.replicate c 32 := by
    have := Lib.repeatL_replicate 32 1 c
    simpa using this
  rw [e] at h
  replace h := Lib.hid h
  go_enter Try.func112, Try.ntmps112
  go_wp2_with fail
  refine h.out.mono ?_
  rintro e w1 ⟨rfl, b⟩
  go_wp2
  go_ret
  exact ⟨by rw [Int.toNat_natCast]; rfl, b⟩
theorem spec_blanks (n : Int) (h0 : 0 ≤ n) (h1 : n ≤ 1099511627776) (w : World) : Calls Try.prog 111 #[.int .i64 n] w fun e w' => e = .returned (.string (spaces n.toNat)) ∧ w = w' := by
  obtain ⟨c, rfl⟩ : ∃ c : Nat, n = (c : Int) := ⟨n.toNat, by omega⟩
  go_enter Try.func111, Try.ntmps111
  go_wp2
  go_loop [3, 4] (fun s i => ∃ k : Nat, k ≤ c ∧ i = .int .i64 k ∧ s = .string (spaces k)) (fun _ i => c - (intOf i).toNat)
  case atStart => exact ⟨0, by omega, rfl, rfl⟩
  case round =>
    obtain ⟨k, hk, rfl, rfl⟩ := hrel
    by_cases hlt : k < c
    · have hon := Lib.hid (spaces_on k)
      have hz := spaces_size k
      generalize spaces k = j at *
      go_wp2
      go_round
      case rel => exact ⟨k + 1, by omega, by go_num, by rw [← hon.out]⟩
      case measure => simp [intOf]; omega
    · obtain rfl : k = c := by omega
      go_wp2
      go_ret
      exact ⟨rfl, rfl⟩
end Go.Proofs.Ytlakellmdcdaaaa.Rep
