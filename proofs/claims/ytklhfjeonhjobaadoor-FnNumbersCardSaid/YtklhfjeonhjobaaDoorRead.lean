/-
  The contracts of impl.ReadDecimal and spec.ReadDecimal.
  Conditions: the library's table of powers of ten is as it was laid.
-/
import Derived.Test.YtklhfjeonhjobaaDoorDec
import Derived.Test.YtklhfjeonhjobaaDoorStrs
import Derived.Test.YtklhfjeonhjobaaDoorCrc
namespace Go.Proofs.YtklhfjeonhjobaaDoor.Dec
open Go.RowKit Go.Proofs.YtklhfjeonhjobaaDoor.Mem Go.Proofs.YtklhfjeonhjobaaDoor.Mix
open Go.Proofs.YtklhfjeonhjobaaDoor.Crc (take_snoc)
def isF (b : UInt8) : Bool := decide (48 ≤ b.toNat) && decide (b.toNat ≤ 57)
def val (l : List UInt8) : Nat := l.foldl (fun n b => 10 * n + (b.toNat - 48)) 0
theorem val_snoc (l : List UInt8) (b : UInt8) : val (l ++ [b]) = 10 * val l + (b.toNat - 48) := by simp [val, List.foldl_append]
theorem fold_lt : ∀ (l : List UInt8) (n : Nat), l.all isF = true → l.foldl (fun n b => 10 * n + (b.toNat - 48)) n < (n + 1) * 10 ^ l.length
  | [], n, _ => by simp
  | b :: l, n, h => by
    simp only [List.all_cons, Bool.and_eq_true, isF, decide_eq_true_eq] at h
    have ih := fold_lt l (10 * n + (b.toNat - 48)) h.2
    have h1 : (10 * n + (b.toNat - 48) + 1) * 10 ^ l.length ≤ (10 * (n + 1)) * 10 ^ l.length := Nat.mul_le_mul (by omega) (Nat.le_refl _)
    rw [List.foldl_cons, List.length_cons, Nat.pow_succ]
    have h2 : (n + 1) * (10 ^ l.length * 10) = (10 * (n + 1)) * 10 ^ l.length := by
      rw [Nat.mul_comm (10 ^ l.length) 10, ← Nat.mul_assoc, Nat.mul_comm (n + 1) 10]
    omega
theorem val_lt {l : List UInt8} (h : l.all isF = true) (hl : l.length ≤ 10) : val l < 10000000000 := by
  have h1 := fold_lt l 0 h
  have h2 : 10 ^ l.length ≤ 10 ^ 10 := Nat.pow_le_pow_right (by omega) hl
  unfold val
  omega
def readDec (t : ByteArray) : Int × Bool := if t.size ≤ 10 ∧ t.data.toList.all isF = true ∧ val t.data.toList ≤ 1000000000 ∧ dec (val t.data.toList) = t then ((val t.data.toList : Int), true) else (0, false)
theorem dec_empty (t : ByteArray) (h : t.size = 0) : readDec t = (0, false) := by
  unfold readDec
  rw [if_neg]
  rintro ⟨-, -, -, h4⟩
  have hl : t.data.toList = [] := List.eq_nil_of_length_eq_zero (by simpa using h)
  rw [hl] at h4
  have h5 := congrArg ByteArray.size h4
  rw [h] at h5
  have hv : (dec ((val [] : Nat) : Int)).size = 1 := by
    show (dec 0).size = 1
    unfold dec Lib.itoa
    rw [if_neg (by omega), show (0 : Int).toNat = 0 from rfl, Lib.decDigits_one (by omega)]
    rfl
  omega
theorem not_fig {t : ByteArray} {k : Nat} (h : k < t.size) (hb : isF t[k] = false) : readDec t = (0, false) := by
  unfold readDec
  rw [if_neg]
  rintro ⟨-, h2, -, -⟩
  rw [List.all_eq_true] at h2
  have := h2 t[k] (List.getElem_mem (l := t.data.toList) (by simpa using h))
  rw [hb] at this
  cases this
theorem list_len (t : ByteArray) : t.data.toList.length = t.size := by simp
theorem all_take {t : ByteArray} {k : Nat} (h : k < t.size) (ha : (t.data.toList.take k).all isF = true) (hb : isF t[k] = true) : (t.data.toList.take (k + 1)).all isF = true := by
  rw [take_snoc t k h, List.all_append, ha]
  simpa using hb
theorem val_take {t : ByteArray} {k : Nat} (h : k < t.size) : val (t.data.toList.take (k + 1)) = 10 * val (t.data.toList.take k) + (t[k].toNat - 48) := by
  rw [take_snoc t k h, val_snoc]
set_option maxRecDepth 100000 in
set_option maxHeartbeats 1600000 in
theorem impl_read (t : ByteArray) (hs : t.size ≤ 1048576) {w : World} (ht : Tab w) :
    Calls Tryd.prog 13 #[.string t] w fun e w' => e = .returned (.tuple #[.int .i64 (readDec t).1, .bool (readDec t).2]) ∧ Below w.heap.size w w' := by
  by_cases h0 : t.size = 0
  · have hv := Lib.hid (dec_empty t h0)
    have d0 : ((t.size : Int) == 0) = true := by rw [h0]; rfl
    go_enter Tryd.func13, Tryd.ntmps13
    go_wp2
    go_ret2
    exact ⟨by rw [hv.out]; rfl, Below.refl _ _⟩
  · have d0 : ((t.size : Int) == 0) = false := beq_eq_false_iff_ne.2 (by omega)
    by_cases h10 : 10 < t.size
    · have hv := Lib.hid (show readDec t = (0, false) by unfold readDec; rw [if_neg (by omega)])
      have d1 : decide ((10 : Int) < (t.size : Int)) = true := by simp; omega
      go_enter Tryd.func13, Tryd.ntmps13
      go_wp2
      go_ret2
      exact ⟨by rw [hv.out]; rfl, Below.refl _ _⟩
    · have d1 : decide ((10 : Int) < (t.size : Int)) = false := by simp; omega
      have hll := list_len t
      go_enter Tryd.func13, Tryd.ntmps13
      go_wp2
      go_loop [4, 5] (fun n i => ∃ k z : Nat, k ≤ t.size ∧ i = .int .i64 k ∧ n = .int .i64 z ∧ z < 10000000000 ∧ Hid (z = val (t.data.toList.take k)) ∧ Hid ((t.data.toList.take k).all isF = true)) (fun _ i => t.size - (intOf i).toNat)
      case atStart => exact ⟨0, 0, by omega, rfl, rfl, by omega, Lib.hid rfl, Lib.hid rfl⟩
      case round =>
        obtain ⟨k, z, hk, rfl, rfl, hz, hzv, hall⟩ := hrel
        by_cases hlt : k < t.size
        · have i0 : (0 : Int) ≤ (k : Int) := by omega
          have i1 : (k : Int) < (t.size : Int) := by omega
          by_cases hlo : t[k].toNat < 48
          · have e1 : decide ((t[k].toNat : Int) < 48) = true := by simp; omega
            have hv := Lib.hid (not_fig hlt (show isF t[k] = false by unfold isF; rw [decide_eq_false (by omega)]; rfl))
            go_wp2
            go_ret2
            exact ⟨by rw [hv.out]; rfl, Below.refl _ _⟩
          · have e1 : decide ((t[k].toNat : Int) < 48) = false := by simp; omega
            by_cases hhi : 57 < t[k].toNat
            · have e2 : decide ((57 : Int) < (t[k].toNat : Int)) = true := by simp; omega
              have hv := Lib.hid (not_fig hlt (show isF t[k] = false by unfold isF; rw [decide_eq_false (show ¬ t[k].toNat ≤ 57 by omega)]; simp))
              go_wp2
              go_ret2
              exact ⟨by rw [hv.out]; rfl, Below.refl _ _⟩
            · have e2 : decide ((57 : Int) < (t[k].toNat : Int)) = false := by simp; omega
              have hf : isF t[k] = true := by unfold isF; rw [decide_eq_true (by omega), decide_eq_true (by omega)]; rfl
              have ha := Lib.hid (all_take hlt hall.out hf)
              have hzn := Lib.hid (show 10 * z + (t[k].toNat - 48) = val (t.data.toList.take (k + 1)) by rw [val_take hlt, hzv.out])
              have hb := val_lt ha.out (by rw [List.length_take]; omega)
              rw [← hzn.out] at hb
              have hbz : z ≤ 999999999 := by omega
              have hcast : ((10 * z + (t[k].toNat - 48) : Nat) : Int) = (z : Int) * 10 + ((t[k].toNat : Int) - 48) := by omega
              have hcast := Lib.hid hcast
              go_wp2
              exact ⟨⟨k + 1, 10 * z + (t[k].toNat - 48), by omega, by go_num, by rw [hcast.out], hb, hzn, ha⟩, by simp [intOf]; omega⟩
        · have hks : k = t.size := by omega
          subst hks
          rw [List.take_of_length_le (by omega)] at hzv hall
          by_cases hm : 1000000000 < z
          · have e3 : decide ((1000000000 : Int) < (z : Int)) = true := by simp; omega
            have hv := Lib.hid (show readDec t = (0, false) by unfold readDec; rw [if_neg (by rw [← hzv.out]; omega)])
            go_wp2
            go_ret2
            exact ⟨by rw [hv.out]; rfl, Below.refl _ _⟩
          · have e3 : decide ((1000000000 : Int) < (z : Int)) = false := by simp; omega
            have hc := Lib.hid (impl_dec (z : Int) (by omega) (by omega) ht)
            by_cases he : dec (z : Int) = t
            · have hv := Lib.hid (show readDec t = ((z : Int), true) by unfold readDec; rw [← hzv.out, if_pos ⟨by omega, hall.out, by omega, he⟩])
              have e4 : ((dec (z : Int)).toList == t.toList) = true := by rw [he]; simp
              replace he := Lib.hid he
              generalize dec (z : Int) = s at *
              go_wp2_with fail
              refine hc.out.mono ?_
              rintro e w1 ⟨rfl, b1⟩
              go_wp2
              go_ret2
              exact ⟨by rw [hv.out]; rfl, b1⟩
            · have hv := Lib.hid (show readDec t = (0, false) by unfold readDec; rw [← hzv.out, if_neg (fun h => he h.2.2.2)])
              have e4 : ((dec (z : Int)).toList == t.toList) = false := by rw [Strs.eq_bytes, decide_eq_false he]
              replace he := Lib.hid he
              generalize dec (z : Int) = s at *
              go_wp2_with fail
              refine hc.out.mono ?_
              rintro e w1 ⟨rfl, b1⟩
              go_wp2
              go_ret2
              exact ⟨by rw [hv.out]; rfl, b1⟩
set_option maxRecDepth 100000 in
set_option maxHeartbeats 1600000 in
theorem spec_read (t : ByteArray) (hs : t.size ≤ 1048576) (w : World) :
    Calls Tryd.prog 12 #[.string t] w fun e w' => e = .returned (.tuple #[.int .i64 (readDec t).1, .bool (readDec t).2]) ∧ Below w.heap.size w w' := by
  by_cases h10 : 10 < t.size
  · have hv := Lib.hid (show readDec t = (0, false) by unfold readDec; rw [if_neg (by omega)])
    have d1 : decide ((10 : Int) < (t.size : Int)) = true := by simp; omega
    go_enter Tryd.func12, Tryd.ntmps12
    go_wp2
    go_ret2
    exact ⟨by rw [hv.out]; rfl, Below.refl _ _⟩
  · have d1 : decide ((10 : Int) < (t.size : Int)) = false := by simp; omega
    have hll := list_len t
    go_enter Tryd.func12, Tryd.ntmps12
    go_wp2
    go_loop [4, 5] (fun n i => ∃ k z : Nat, k ≤ t.size ∧ i = .int .i64 k ∧ n = .int .i64 z ∧ z < 10000000000 ∧ Hid (z = val (t.data.toList.take k)) ∧ Hid ((t.data.toList.take k).all isF = true)) (fun _ i => t.size - (intOf i).toNat)
    case atStart => exact ⟨0, 0, by omega, rfl, rfl, by omega, Lib.hid rfl, Lib.hid rfl⟩
    case round =>
      obtain ⟨k, z, hk, rfl, rfl, hz, hzv, hall⟩ := hrel
      by_cases hlt : k < t.size
      · have i0 : (0 : Int) ≤ (k : Int) := by omega
        have i1 : (k : Int) < (t.size : Int) := by omega
        by_cases hlo : t[k].toNat < 48
        · have e1 : decide ((t[k].toNat : Int) < 48) = true := by simp; omega
          have hv := Lib.hid (not_fig hlt (show isF t[k] = false by unfold isF; rw [decide_eq_false (by omega)]; rfl))
          go_wp2
          go_ret2
          exact ⟨by rw [hv.out]; rfl, Below.refl _ _⟩
        · have e1 : decide ((t[k].toNat : Int) < 48) = false := by simp; omega
          by_cases hhi : 57 < t[k].toNat
          · have e2 : decide ((57 : Int) < (t[k].toNat : Int)) = true := by simp; omega
            have hv := Lib.hid (not_fig hlt (show isF t[k] = false by unfold isF; rw [decide_eq_false (show ¬ t[k].toNat ≤ 57 by omega)]; simp))
            go_wp2
            go_ret2
            exact ⟨by rw [hv.out]; rfl, Below.refl _ _⟩
          · have e2 : decide ((57 : Int) < (t[k].toNat : Int)) = false := by simp; omega
            have hf : isF t[k] = true := by unfold isF; rw [decide_eq_true (by omega), decide_eq_true (by omega)]; rfl
            have ha := Lib.hid (all_take hlt hall.out hf)
            have hzn := Lib.hid (show 10 * z + (t[k].toNat - 48) = val (t.data.toList.take (k + 1)) by rw [val_take hlt, hzv.out])
            have hb := val_lt ha.out (by rw [List.length_take]; omega)
            rw [← hzn.out] at hb
            have hbz : z ≤ 999999999 := by omega
            have hcast : ((10 * z + (t[k].toNat - 48) : Nat) : Int) = 10 * (z : Int) + (t[k].toNat : Int) - 48 := by omega
            have hcast := Lib.hid hcast
            go_wp2
            exact ⟨⟨k + 1, 10 * z + (t[k].toNat - 48), by omega, by go_num, by rw [hcast.out], hb, hzn, ha⟩, by simp [intOf]; omega⟩
      · have hks : k = t.size := by omega
        subst hks
        rw [List.take_of_length_le (by omega)] at hzv hall
        by_cases hm : 1000000000 < z
        · have e3 : decide ((1000000000 : Int) < (z : Int)) = true := by simp; omega
          have hv := Lib.hid (show readDec t = (0, false) by unfold readDec; rw [if_neg (by rw [← hzv.out]; omega)])
          go_wp2
          go_ret2
          exact ⟨by rw [hv.out]; rfl, Below.refl _ _⟩
        · have e3 : decide ((1000000000 : Int) < (z : Int)) = false := by simp; omega
          have hc := Lib.hid (spec_dec (z : Int) (by omega) (by omega) w)
          by_cases he : dec (z : Int) = t
          · have hv := Lib.hid (show readDec t = ((z : Int), true) by unfold readDec; rw [← hzv.out, if_pos ⟨by omega, hall.out, by omega, he⟩])
            have e4 : ((dec (z : Int)).toList == t.toList) = true := by rw [he]; simp
            replace he := Lib.hid he
            generalize dec (z : Int) = s at *
            go_wp2_with fail
            refine hc.out.mono ?_
            rintro e w1 ⟨rfl, b1⟩
            go_wp2
            go_ret2
            exact ⟨by rw [hv.out]; rfl, b1⟩
          · have hv := Lib.hid (show readDec t = (0, false) by unfold readDec; rw [← hzv.out, if_neg (fun h => he h.2.2.2)])
            have e4 : ((dec (z : Int)).toList == t.toList) = false := by rw [Strs.eq_bytes, decide_eq_false he]
            replace he := Lib.hid he
            generalize dec (z : Int) = s at *
            go_wp2_with fail
            refine hc.out.mono ?_
            rintro e w1 ⟨rfl, b1⟩
            go_wp2
            go_ret2
            exact ⟨by rw [hv.out]; rfl, b1⟩
end Go.Proofs.YtklhfjeonhjobaaDoor.Dec
