/-
  The contracts of impl.PlaceOf and spec.PlaceOf: the line and the column of a place.
  Conditions: the text's size (below 4294967281).
-/
import Derived.Test.YtklhfjeonhjobaaDoorChecked
import Derived.Test.YtklhfjeonhjobaaDoorShelf
import Derived.WalkKit
import Derived.ProofKit
import Derived.WalkLawsBesides
import Derived.WalkSpells
import Derived.Lib.Hide
import Derived.Lib.LastIndexByte
import Derived.Lib.Bytealg
namespace Go.Proofs.YtklhfjeonhjobaaDoor.Place
open Go.RowKit
def outside (t : ByteArray) (a : Int) : Bool := decide (a < 0) || decide ((t.size : Int) < a)
def line (t : ByteArray) (a : Nat) : Int := 1 + ((t.data.toList.take a).count 10 : Nat)
def col (t : ByteArray) (a : Nat) : Int := a - Lib.lastIdx t 10 a
theorem extract_get {t : ByteArray} {n j : Nat} (hj : j < n) (hn : n ≤ t.size) : (t.extract 0 n).data[j]! = t.data[j]! := by
  have hs : t.data.size = t.size := rfl
  rw [getElem!_pos _ _ (by rw [ByteArray.data_extract]; simp; omega), getElem!_pos _ _ (by omega)]
  simp [ByteArray.data_extract]
theorem last_extract {t : ByteArray} {n : Nat} (hn : n ≤ t.size) : ∀ k, k ≤ n → Lib.lastIdx (t.extract 0 n) 10 k = Lib.lastIdx t 10 k
  | 0, _ => rfl
  | k + 1, h => by
    unfold Lib.lastIdx
    rw [extract_get (by omega) hn, last_extract hn k (by omega)]
theorem last_bounds (t : ByteArray) : ∀ k : Nat, -1 ≤ Lib.lastIdx t 10 k ∧ Lib.lastIdx t 10 k < k
  | 0 => by simp [Lib.lastIdx]
  | k + 1 => by
    have := last_bounds t k
    unfold Lib.lastIdx
    split <;> omega
theorem at_data {t : ByteArray} {k : Nat} (h : k < t.size) : t.data[k]! = t[k] := by
  rw [getElem!_pos t.data k h]; rfl
theorem take_snoc {t : ByteArray} {k : Nat} (h : k < t.size) : t.data.toList.take (k + 1) = t.data.toList.take k ++ [t[k]] := by
  rw [List.take_succ_eq_append_getElem (by simpa using h)]; rfl
theorem line_hit {t : ByteArray} {k : Nat} (h : k < t.size) (hc : t[k].toNat = 10) : line t (k + 1) = line t k + 1 ∧ col t (k + 1) = 1 := by
  have h10 : t[k] = 10 := UInt8.toNat_inj.1 hc
  constructor
  · unfold line
    rw [take_snoc h, List.count_append, h10]
    simp
    omega
  · unfold col
    rw [Lib.lastIdx_hit t 10 k (by rw [at_data h, h10]; rfl)]
    omega
theorem line_miss {t : ByteArray} {k : Nat} (h : k < t.size) (hc : t[k].toNat ≠ 10) : line t (k + 1) = line t k ∧ col t (k + 1) = col t k + 1 := by
  have h10 : t[k] ≠ 10 := fun e => hc (by rw [e]; rfl)
  constructor
  · unfold line
    rw [take_snoc h, List.count_append]
    simp [List.count_singleton, h10]
  · unfold col
    rw [Lib.lastIdx_miss t 10 k (by rw [at_data h]; omega)]
    omega
set_option maxHeartbeats 800000 in
theorem spec_in (t : ByteArray) (n : Nat) (hn : n ≤ t.size) (hs : t.size < 4294967281) (w : World) : Calls Tryd.prog 34 #[.string t, .int .i64 n] w fun e w' => e = .returned (.tuple #[.int .i64 (line t n), .int .i64 (col t n)]) ∧ w = w' := by
  have d1 : decide ((n : Int) < 0) = false := by simp
  have d2 : decide (t.size < n) = false := by simpa using hn
  go_enter Tryd.func34, Tryd.ntmps34
  go_wp2
  go_loop [6, 7, 8] (fun l c i => ∃ k : Nat, k ≤ n ∧ i = .int .i64 k ∧ l = .int .i64 (line t k) ∧ c = .int .i64 (col t k)) (fun _ _ i => n - (intOf i).toNat)
  case atStart => exact ⟨0, by omega, rfl, rfl, rfl⟩
  case round =>
    obtain ⟨k, hk, rfl, rfl, rfl⟩ := hrel
    by_cases hlt : k < n
    · have hb := last_bounds t k
      have hlb : 0 ≤ line t k ∧ line t k ≤ 1 + k := by
        unfold line
        have := List.count_le_length (a := (10 : UInt8)) (l := t.data.toList.take k)
        rw [List.length_take] at this
        omega
      have hcb : 0 ≤ col t k ∧ col t k ≤ 1 + k := by unfold col; omega
      have hkt : k < t.size := by omega
      by_cases h : t[k].toNat = 10
      · have e1 : ((t[k].toNat : Int) == 10) = true := by simp; omega
        obtain ⟨q1, q2⟩ := line_hit hkt h
        replace q1 := Lib.hid q1
        replace q2 := Lib.hid q2
        clear h hb
        generalize line t k = l at *
        generalize col t k = c at *
        go_wp2
        go_round
        case rel => exact ⟨k + 1, by omega, by go_num, by rw [q1.out], by rw [q2.out]⟩
        case measure => simp [intOf]; omega
      · have e1 : ((t[k].toNat : Int) == 10) = false := by simp; omega
        obtain ⟨q1, q2⟩ := line_miss hkt h
        replace q1 := Lib.hid q1
        replace q2 := Lib.hid q2
        clear h hb
        generalize line t k = l at *
        generalize col t k = c at *
        go_wp2
        go_round
        case rel => exact ⟨k + 1, by omega, by go_num, by rw [q1.out], by rw [q2.out]⟩
        case measure => simp [intOf]; omega
    · obtain rfl : k = n := by omega
      go_wp2
      go_ret2
      exact ⟨rfl, rfl⟩
set_option maxHeartbeats 400000 in
theorem spec_out (t : ByteArray) (a : Int) (ho : outside t a = true) (w : World) : Calls Tryd.prog 34 #[.string t, .int .i64 a] w fun e w' => e = .returned (.tuple #[.int .i64 0, .int .i64 0]) ∧ w = w' := by
  by_cases h : a < 0
  · have d1 : decide (a < 0) = true := by simpa using h
    go_enter Tryd.func34, Tryd.ntmps34
    go_wp2
    go_ret2
    exact ⟨rfl, rfl⟩
  · have d1 : decide (a < 0) = false := by simpa using h
    have d2 : decide ((t.size : Int) < a) = true := by simpa [outside, d1] using ho
    go_enter Tryd.func34, Tryd.ntmps34
    go_wp2
    go_ret2
    exact ⟨rfl, rfl⟩
set_option maxHeartbeats 400000 in
theorem impl_out (t : ByteArray) (a : Int) (ho : outside t a = true) (w : World) : Calls Tryd.prog 32 #[.string t, .int .i64 a] w fun e w' => e = .returned (.tuple #[.int .i64 0, .int .i64 0]) ∧ w = w' := by
  by_cases h : a < 0
  · have d1 : decide (a < 0) = true := by simpa using h
    go_enter Tryd.func32, Tryd.ntmps32
    go_wp2
    go_ret2
    exact ⟨rfl, rfl⟩
  · have d1 : decide (a < 0) = false := by simpa using h
    have d2 : decide ((t.size : Int) < a) = true := by simpa [outside, d1] using ho
    go_enter Tryd.func32, Tryd.ntmps32
    go_wp2
    go_ret2
    exact ⟨rfl, rfl⟩
set_option maxHeartbeats 800000 in
theorem impl_in (t : ByteArray) (n : Nat) (hn : n ≤ t.size) (hs : t.size < 4294967281) (w : World) : Calls Tryd.prog 32 #[.string t, .int .i64 n] w fun e w' => e = .returned (.tuple #[.int .i64 (line t n), .int .i64 (col t n)]) ∧ w = w' := by
  have d1 : decide ((n : Int) < 0) = false := by simp
  have d2 : decide (t.size < n) = false := by simpa using hn
  have hsz : (t.extract 0 n).size = n := by rw [ByteArray.size_extract]; omega
  have hl1 : line t n = (Lib.countByte (t.extract 0 n).data.toList 10 : Nat) + 1 := by
    unfold line Lib.countByte
    rw [ByteArray.data_extract, Array.toList_extract, List.extract_eq_take_drop]
    simp
    omega
  have hl2 : col t n = n - Lib.lastIndexByte (t.extract 0 n) 10 := by
    unfold col Lib.lastIndexByte
    rw [hsz, last_extract hn n (Nat.le_refl _)]
  rw [hl1, hl2]
  have hb : -1 ≤ Lib.lastIndexByte (t.extract 0 n) 10 ∧ Lib.lastIndexByte (t.extract 0 n) 10 < n := by
    unfold Lib.lastIndexByte
    rw [hsz]
    exact last_bounds _ n
  replace hl1 := Lib.hid hl1
  replace hl2 := Lib.hid hl2
  have hcnt : Lib.countByte (t.extract 0 n).data.toList 10 ≤ n := by
    have := List.count_le_length (a := (10 : UInt8)) (l := (t.extract 0 n).data.toList)
    rw [show (t.extract 0 n).data.toList.length = (t.extract 0 n).size from by simp, hsz] at this
    exact this
  go_enter Tryd.func32, Tryd.ntmps32
  go_wp2_with fail
  refine (Tryd.strings_Count_one _ 10 _).mono ?_
  rintro e w1 ⟨rfl, rfl⟩
  clear hl1 hl2
  generalize hcn : Lib.countByte (t.extract 0 n).data.toList 10 = cnt at *
  replace hcn := Lib.hid hcn
  go_wp2_with fail
  refine (Tryd.strings_LastIndexByte _ 10 (by omega) _).mono ?_
  rintro e w1 ⟨rfl, rfl⟩
  generalize hli : Lib.lastIndexByte (t.extract 0 n) 10 = li at *
  replace hli := Lib.hid hli
  go_wp2
  go_ret2
  exact ⟨by rw [hcn.out, hli.out]; rfl, rfl⟩
end Go.Proofs.YtklhfjeonhjobaaDoor.Place
