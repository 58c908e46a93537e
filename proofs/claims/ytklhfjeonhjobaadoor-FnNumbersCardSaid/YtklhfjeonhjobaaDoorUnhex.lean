/-
  The contracts of Unhex of the program and of the reference, and of spec.l01Value.
  Conditions: a text that can be read.
-/
import Derived.Test.YtklhfjeonhjobaaDoorHex
import Derived.Test.YtklhfjeonhjobaaDoorShelf
import Derived.Lib.Hide
namespace Go.Proofs.YtklhfjeonhjobaaDoor.Hex
set_option maxRecDepth 100000
open Go.RowKit Go.Proofs.YtklhfjeonhjobaaDoor.Mem Go.Proofs.YtklhfjeonhjobaaDoor.Mix
/-- a figure's value, -1 without -/
def val (x : Nat) : Int := if 48 ≤ x ∧ x ≤ 57 then (x : Int) - 48 else if 97 ≤ x ∧ x ≤ 102 then (x : Int) - 87 else -1
theorem val_bd (x : Nat) : -1 ≤ val x ∧ val x ≤ 15 := by unfold val; split <;> (try split) <;> omega
def unhexI : List UInt8 → Option (List Int)
  | [] => some []
  | [_] => none
  | a :: b :: l => if val a.toNat < 0 ∨ val b.toNat < 0 then none else (unhexI l).map ((16 * val a.toNat + val b.toNat) :: ·)
theorem unhexI_bad {a b : UInt8} {l : List UInt8} (h : val a.toNat < 0 ∨ val b.toNat < 0) : unhexI (a :: b :: l) = none := by rw [unhexI, if_pos h]
theorem unhexI_good {a b : UInt8} {l : List UInt8} (h : ¬ (val a.toNat < 0 ∨ val b.toNat < 0)) : unhexI (a :: b :: l) = (unhexI l).map ((16 * val a.toNat + val b.toNat) :: ·) := by rw [unhexI, if_neg h]
def unhex (s : ByteArray) : ByteArray × Bool :=
  if s.size % 2 = 0 ∧ s.size ≤ 40000 then (match unhexI s.data.toList with | some xs => (strOfNums xs, true) | none => (ByteArray.empty, false)) else (ByteArray.empty, false)
theorem two_on {s : ByteArray} {k : Nat} (h : k + 1 < s.size) : s.data.toList.drop k = s[k] :: s[k + 1] :: s.data.toList.drop (k + 2) := by
  have hl : s.data.toList.length = s.size := by simp
  rw [List.drop_eq_getElem_cons (by omega), List.drop_eq_getElem_cons (by omega)]
  rfl
/-- what a round knows: the pairs read so far, and the rest -/
def Part (s : ByteArray) (k : Nat) (xs : List Int) : Prop := xs.length = k ∧ unhexI s.data.toList = (unhexI (s.data.toList.drop (2 * k))).map (xs ++ ·)
theorem part_zero (s : ByteArray) : Part s 0 [] := ⟨rfl, by simp⟩
theorem part_on {s : ByteArray} {k : Nat} {xs : List Int} (h : Part s k xs) (hlt : 2 * k + 1 < s.size) (hg : ¬ (val s[2 * k].toNat < 0 ∨ val s[2 * k + 1].toNat < 0)) :
    Part s (k + 1) (xs ++ [16 * val s[2 * k].toNat + val s[2 * k + 1].toNat]) := by
  refine ⟨by simp [h.1], ?_⟩
  rw [h.2, two_on hlt, unhexI_good hg, Option.map_map, show 2 * (k + 1) = 2 * k + 2 from by omega]
  congr 1
  funext l
  simp
theorem part_bad {s : ByteArray} {k : Nat} {xs : List Int} (h : Part s k xs) (hlt : 2 * k + 1 < s.size) (hg : val s[2 * k].toNat < 0 ∨ val s[2 * k + 1].toNat < 0) (hs : s.size % 2 = 0 ∧ s.size ≤ 40000) : unhex s = (ByteArray.empty, false) := by
  unfold unhex
  rw [if_pos hs, h.2, two_on hlt, unhexI_bad hg]
  rfl
theorem part_end {s : ByteArray} {k : Nat} {xs : List Int} (h : Part s k xs) (hk : s.size ≤ 2 * k) (hs : s.size % 2 = 0 ∧ s.size ≤ 40000) : unhex s = (strOfNums xs, true) := by
  unfold unhex
  have hl : s.data.toList.length = s.size := by simp
  rw [if_pos hs, h.2, List.drop_of_length_le (by omega)]
  simp [unhexI]
theorem unhex_out {s : ByteArray} (hs : ¬ (s.size % 2 = 0 ∧ s.size ≤ 40000)) : unhex s = (ByteArray.empty, false) := by
  unfold unhex
  rw [if_neg hs]
/-- a high and a low half -/
theorem or_val {x y : Int} (h0 : 0 ≤ x) (h1 : x ≤ 15) (h2 : 0 ≤ y) (h3 : y ≤ 15) : bits BinOp.or IntKind.i64 (x * 16) y = 16 * x + y := by
  obtain ⟨a, rfl⟩ := Int.eq_ofNat_of_zero_le h0
  obtain ⟨b, rfl⟩ := Int.eq_ofNat_of_zero_le h2
  have hj : a * 16 ||| b = a * 16 + b := nat_join 4 (a * 16) b (by omega) (by omega)
  have ofI : ∀ n : Nat, n < 9223372036854775808 → (BitVec.ofInt 64 (n : Int)).toNat = n := fun n hn => by
    rw [BitVec.ofInt_natCast, BitVec.toNat_ofNat]; exact Nat.mod_eq_of_lt (by omega)
  show IntKind.i64.wrap ((BitVec.ofInt 64 ((a : Int) * 16) ||| BitVec.ofInt 64 (b : Int)).toNat : Int) = _
  rw [show (a : Int) * 16 = ((a * 16 : Nat) : Int) from by omega, BitVec.toNat_or, ofI _ (by omega), ofI _ (by omega), hj, IntKind.wrap_i64]
  omega
theorem index_val : ∀ c : UInt8, Lib.indexByte (ByteArray.mk #[48, 49, 50, 51, 52, 53, 54, 55, 56, 57, 97, 98, 99, 100, 101, 102]).data.toList c = val c.toNat := by
  have h : ∀ c : Fin 256, Lib.indexByte [48, 49, 50, 51, 52, 53, 54, 55, 56, 57, 97, 98, 99, 100, 101, 102] (UInt8.ofNat c.1) = val c.1 := by decide +kernel
  intro c
  have := h ⟨c.toNat, c.toNat_lt⟩
  simpa using this
theorem index_any (c : UInt8) (w : World) : Calls Tryd.prog 69 #[.string ⟨#[48, 49, 50, 51, 52, 53, 54, 55, 56, 57, 97, 98, 99, 100, 101, 102]⟩, .int .u8 (c.toNat : Int)] w fun e w' => e = .returned (.int .i64 (val c.toNat)) ∧ w = w' :=
  (Tryd.strings_IndexByte _ _ w).mono fun e w' ⟨he, hw⟩ => ⟨by rw [he, index_val]; simp, hw.symm⟩
set_option maxHeartbeats 800000 in
theorem impl_Unhex (s : ByteArray) (hs : s.size ≤ 140737488351232) (w : World) :
    Calls Tryd.prog 27 #[.string s] w fun e w' => e = .returned (strBool (unhex s)) ∧ Below w.heap.size w w' := by
  by_cases h : s.size % 2 = 0 ∧ s.size ≤ 40000
  · obtain ⟨n, hn⟩ : ∃ n, s.size = 2 * n := ⟨s.size / 2, by omega⟩
    have e0 : (((s.size : Int) % 2) == 0) = true := by simp; omega
    have e0' : (((s.size : Int) % 2) != 0) = false := by simp; omega
    have d1 : decide ((40000 : Int) < (s.size : Int)) = false := by simp; omega
    have e1 : (s.size : Int) / 2 = (n : Int) := by omega
    have hmk : ∀ W, (Instr.makeSlice 32 (.int .i64 0) (.int .i64 (n : Int))).run Tryd.prog W = .ok (.slice (some ⟨W.heap.size, 0, none⟩) 0 n) (W.alloc (.cells (madeCells #[.int .u8 0] (n * 1)) 5)) := fun W =>
      make_run E8 0 n (by omega) (by omega) (by simp only [maxLen]; omega) W
    replace hn := Lib.hid hn
    have h40 := h.2
    replace h := Lib.hid h
    go_enter Tryd.func27, Tryd.ntmps27
    go_wp2
    go_loopw [4, 5] (fun o j wr => ∃ k : Nat, ∃ xs : List Int, k ≤ n ∧ j = .int .i64 (2 * (k : Int)) ∧ Part s k xs ∧ wr.ownsRow w.heap.size 5 1 o k (xs.map (Value.int .u8)) ∧ Below w.heap.size w wr) (fun _ j _ => s.size - (intOf j).toNat)
    case atStart => exact ⟨0, [], by omega, rfl, part_zero s, World.ownsRow_made w _ n (Nat.le_refl _) (by have := hn.out; simp only [maxLen]; omega) (by simp [madeCells]), (Below.refl _ _).alloc (Nat.le_refl _) _⟩
    case round =>
      obtain ⟨k, xs, hk, rfl, hp, hown, hb⟩ := hrel
      replace hp := Lib.hid hp
      by_cases hlt : k < n
      · have q1 : 2 * k + 1 < s.size := by have := hn.out; omega
        have q2 : 2 * k < s.size := by omega
        obtain ⟨b1, b2⟩ := val_bd s[2 * k].toNat
        obtain ⟨b3, b4⟩ := val_bd s[2 * k + 1].toNat
        by_cases g1 : val s[2 * k].toNat < 0
        · have hv := Lib.hid (part_bad hp.out q1 (.inl g1) h.out)
          go_wp2_with (go_at_call 69; refine (index_any _ _).mono ?_; rintro e w1 ⟨rfl, rfl⟩)
          go_ret2
          exact ⟨by rw [hv.out]; rfl, hb⟩
        · by_cases g2 : val s[2 * k + 1].toNat < 0
          · have hv := Lib.hid (part_bad hp.out q1 (.inr g2) h.out)
            go_wp2_with (go_at_call 69; refine (index_any _ _).mono ?_; rintro e w1 ⟨rfl, rfl⟩)
            go_ret2
            exact ⟨by rw [hv.out]; rfl, hb⟩
          · have hon := Lib.hid (part_on hp.out q1 (by omega))
            have hor : bits BinOp.or IntKind.i64 (val s[2 * k].toNat * 16) (val s[2 * k + 1].toNat) = 16 * val s[2 * k].toNat + val s[2 * k + 1].toNat := or_val (by omega) b2 (by omega) b4
            obtain ⟨v', w1, hrun, hown1, hb1, -, -⟩ := append_new E8 hown hb [.int .u8 (16 * val s[2 * k].toNat + val s[2 * k + 1].toNat)] 1 rfl (by simp [Value.oneCell']) (by simp only [maxLen]; omega) (by omega)
            go_wp2_with (first | (go_at_call 69; refine (index_any _ _).mono ?_; rintro e w1 ⟨rfl, rfl⟩) | (at_builtin; refine wpList_append_run rfl rfl hrun ?_))
            go_roundw
            case rel => exact ⟨k + 1, _, by omega, by go_num, hon.out, by simpa using hown1, hb1⟩
            case measure => simp [intOf]; omega
      · obtain rfl : k = n := by omega
        have hv := Lib.hid (part_end hp.out (by have := hn.out; omega) h.out)
        have hsz : s.size ≤ 2 * k := by have := hn.out; omega
        have hst := string_own (d := 9) Tryd.underlying32 Tryd.underlying5 Tryd.underlying9 hown
        go_wp2
        go_ret2
        exact ⟨by rw [hv.out]; rfl, hb⟩
  · have hv := Lib.hid (unhex_out h)
    by_cases h2 : s.size % 2 = 0
    · have e0 : (((s.size : Int) % 2) == 0) = true := by simp; omega
      have e0' : (((s.size : Int) % 2) != 0) = false := by simp; omega
      have d1 : decide ((40000 : Int) < (s.size : Int)) = true := by simp; omega
      go_enter Tryd.func27, Tryd.ntmps27
      go_wp2
      go_ret2
      exact ⟨by rw [hv.out]; rfl, Below.refl _ _⟩
    · have e0 : (((s.size : Int) % 2) == 0) = false := by simp; omega
      have e0' : (((s.size : Int) % 2) != 0) = true := by simp; omega
      by_cases h3 : (40000 : Int) < (s.size : Int)
      · have d1 : decide ((40000 : Int) < (s.size : Int)) = true := by simpa using h3
        go_enter Tryd.func27, Tryd.ntmps27
        go_wp2
        go_ret2
        exact ⟨by rw [hv.out]; rfl, Below.refl _ _⟩
      · have d1 : decide ((40000 : Int) < (s.size : Int)) = false := by simpa using h3
        go_enter Tryd.func27, Tryd.ntmps27
        go_wp2
        go_ret2
        exact ⟨by rw [hv.out]; rfl, Below.refl _ _⟩
end Go.Proofs.YtklhfjeonhjobaaDoor.Hex
