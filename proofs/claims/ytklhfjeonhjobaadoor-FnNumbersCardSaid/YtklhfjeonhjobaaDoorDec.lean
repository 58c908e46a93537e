/-
  The contracts of impl.Decimal and spec.Decimal: the number's figures.
  Conditions: the library's table of powers of ten is as it was laid.
-/
import Derived.Test.YtklhfjeonhjobaaDoorChecked
import Derived.Test.YtklhfjeonhjobaaDoorShelf
import Derived.Test.YtklhfjeonhjobaaDoorMem
import Derived.Test.YtklhfjeonhjobaaDoorMix
import Derived.LaidSub
import Derived.Lib.AppendIntMem
import Derived.Lib.ItoaLen
import Derived.WalkKit
import Derived.ProofKit
import Derived.WalkLawsBesides
import Derived.WalkSpells
import Derived.Lib.Hide
namespace Go.Proofs.YtklhfjeonhjobaaDoor.Dec
open Go.RowKit Go.Proofs.YtklhfjeonhjobaaDoor.Mem Go.Proofs.YtklhfjeonhjobaaDoor.Mix
def Tab (w : World) : Prop := Lib.TabIs Tryd.prog w "internal/strconv.uint64pow10" .u64 Lib.pow10Tab
theorem Tab.below {w w' : World} (h : Tab w) (hb : Below w.heap.size w w') : Tab w' := Lib.tabBelow_of_tabIs h w' hb
theorem tab_of {W : World} {l : List (String × DataW Unit)} (hl : (l.filter fun x => x.1 == "internal/strconv.uint64pow10") = [("internal/strconv.uint64pow10", Lib.tabData .u64 Lib.pow10Tab)]) (h : laidMetH Tryd.prog l W) : Tab W := by
  have h1 := h.filter (fun x => x.1 == "internal/strconv.uint64pow10")
  rw [hl, MakeChecks.laidMetH_plain _ _ _ (by kernel_rfl)] at h1
  exact Lib.tabIs_of_head (g := (Tryd.prog.globalNamed "internal/strconv.uint64pow10").getD 0) (t := 129) (e := 121) (n := 20) (by kernel_rfl) (by kernel_rfl) Tryd.underlying129 Tryd.underlying121 (by kernel_rfl) (by kernel_rfl) h1
def dec (n : Int) : ByteArray := ⟨(Lib.itoa n).toArray⟩
theorem dec_size (n : Int) (h0 : -9223372036854775808 ≤ n) (h1 : n ≤ 9223372036854775807) : (dec n).size ≤ 21 := by
  have := Lib.itoa_length_le n h0 h1
  unfold dec
  simpa [ByteArray.size] using this
theorem impl_dec (n : Int) (h0 : -9223372036854775808 ≤ n) (h1 : n ≤ 9223372036854775807) {w : World} (ht : Tab w) :
    Calls Tryd.prog 11 #[.int .i64 n] w fun e w' => e = .returned (.string (dec n)) ∧ Below w.heap.size w w' := by
  go_enter Tryd.func11, Tryd.ntmps11
  go_wp2_with fail
  refine (Tryd.strconv_Itoa n h0 h1 w ht).mono ?_
  rintro e w1 ⟨rfl, k, os, rfl⟩
  go_wp2
  go_ret
  exact ⟨rfl, Lib.below_grow _ _ (Nat.le_refl _) _ _⟩
theorem fig_any (x : Nat) (h : x < 10) (w : World) : Calls Tryd.prog 58 #[.int .i64 x] w fun e w' => e = .returned (.int .u8 (48 + (x : Int))) ∧ w = w' := by
  go_enter Tryd.func58, Tryd.ntmps58
  go_wp2
  go_ret
  exact ⟨by simp, rfl⟩
/-- the figures of u, none of 0 -/
def dd (u : Nat) : List UInt8 := if u = 0 then [] else Lib.decDigits u
theorem dd_step {u : Nat} (h : u ≠ 0) : dd u = dd (u / 10) ++ [UInt8.ofNat (48 + u % 10)] := by
  unfold dd
  rw [if_neg h, Lib.decDigits]
  by_cases h1 : u < 10
  · rw [dif_pos h1, if_pos (by omega), show u % 10 = u by omega]; rfl
  · rw [dif_neg h1, if_neg (by omega)]
def figText (d : Nat) : ByteArray := strOfNums [48 + (d : Int)]
theorem figText_size (d : Nat) : (figText d).size = 1 := by unfold figText; rw [strOfNums_size]; rfl
theorem string_fig {W : World} (d : Nat) :
    (convert 32 9 (.slice (some ⟨W.heap.size, 0, none⟩) 1 1)).run Tryd.prog (W.alloc (.cells #[.int .u8 (48 + (d : Int))] 5)) =
      .ok (.string (figText d)) (W.alloc (.cells #[.int .u8 (48 + (d : Int))] 5)) :=
  string_own (d := 9) (xs := [48 + (d : Int)]) Tryd.underlying32 Tryd.underlying5 Tryd.underlying9
    (World.ownsRow_lit W #[.int .u8 (48 + (d : Int))] 1 (Nat.le_refl W.heap.size) (by simp [maxLen]) (by simp))
theorem fig_cat (d : Nat) (t : ByteArray) : (figText d ++ t).data.toList = UInt8.ofNat (48 + d) :: t.data.toList := by
  rw [ByteArray.data_append, Array.toList_append]
  have : (figText d).data.toList = [UInt8.ofNat (48 + d)] := by
    unfold figText
    rw [strOfNums_data]
    show [UInt8.ofNat (48 + (d : Int)).toNat] = _
    rw [show (48 + (d : Int)).toNat = 48 + d by omega]
  rw [this]
  rfl
theorem dd_next {u0 u : Nat} {t : ByteArray} (h : dd u ++ t.data.toList = dd u0) (h0 : u ≠ 0) : dd (u / 10) ++ (figText (u % 10) ++ t).data.toList = dd u0 := by
  rw [fig_cat, ← h, dd_step h0, List.append_assoc]
  rfl
theorem dd_len {u : Nat} (h : u < 18446744073709551616) : (dd u).length ≤ 20 := by
  unfold dd
  split
  · simp
  · rw [Lib.decDigits_length]; exact Lib.nDigits_le20 u h
set_option maxRecDepth 100000 in
set_option maxHeartbeats 1600000 in
theorem spec_dec (n : Int) (h0 : -9223372036854775808 ≤ n) (h1 : n ≤ 9223372036854775807) (w : World) :
    Calls Tryd.prog 10 #[.int .i64 n] w fun e w' => e = .returned (.string (dec n)) ∧ Below w.heap.size w w' := by
  by_cases hz : n = 0
  · subst hz
    have hv : dec 0 = ⟨#[48]⟩ := by
      unfold dec Lib.itoa
      rw [if_neg (by omega), show (0 : Int).toNat = 0 from rfl, Lib.decDigits_one (by omega)]
      rfl
    go_enter Tryd.func10, Tryd.ntmps10
    go_wp2
    go_ret
    exact ⟨by rw [hv]; rfl, Below.refl _ _⟩
  · by_cases hneg : n < 0
    · obtain ⟨u0, hu0⟩ : ∃ u0 : Nat, n = -(u0 : Int) := ⟨n.natAbs, by omega⟩
      subst hu0
      have hd0 := dd_len (u := u0) (by omega)
      have hfin : ∀ t : ByteArray, t.data.toList = dd u0 → (⟨#[45]⟩ : ByteArray) ++ t = dec (-(u0 : Int)) := by
        intro t ht
        apply ByteArray.ext
        apply Array.toList_inj.1
        rw [ByteArray.data_append, Array.toList_append, ht]
        unfold dec Lib.itoa
        rw [if_pos hneg, show (-(u0 : Int)).natAbs = u0 by omega]
        unfold dd
        rw [if_neg (by omega)]
        simp
      have e0 : (-(u0 : Int) == 0) = false := by simp; omega
      have e1 : decide (-(u0 : Int) < 0) = true := by simp; omega
      replace hfin := Lib.hid hfin
      go_enter Tryd.func10, Tryd.ntmps10
      go_wp2
      go_loopw [0, 4, 5] (fun m t d wr => ∃ (u : Nat) (x : ByteArray), u ≤ u0 ∧ m = .int .i64 (-(u : Int)) ∧ t = .string x ∧ Hid (dd u ++ x.data.toList = dd u0) ∧ Below w.heap.size w wr) (fun m _ _ _ => (intOf m).natAbs)
      case atStart => exact ⟨u0, ByteArray.empty, by omega, rfl, rfl, Lib.hid (by simp), Below.refl _ _⟩
      case round =>
        obtain ⟨u, x, hu, rfl, rfl, hdd, hbw⟩ := hrel
        have hs := hbw.size
        have hxl : x.size ≤ 20 := by
          have := congrArg List.length hdd.out
          rw [List.length_append] at this
          have h2 : x.data.toList.length = x.size := by simp
          omega
        by_cases hu0 : u = 0
        · subst hu0
          have hx : (⟨#[45]⟩ : ByteArray) ++ x = dec (-(u0 : Int)) := hfin.out x (by have := hdd.out; simpa [dd] using this)
          have hsz : (⟨#[45]⟩ : ByteArray).size = 1 := rfl
          go_wp2
          go_ret
          exact ⟨by rw [← hx]; rfl, hbw⟩
        · have hon := Lib.hid (dd_next hdd.out hu0)
          have e3 : (-(u : Int) != 0) = true := by simp; omega
          have hr : u % 10 < 10 := by omega
          have hm : (-(u : Int)).tmod 10 = -((u % 10 : Nat) : Int) := by rw [Int.neg_tmod, Int.tmod_eq_emod_of_nonneg (by omega)]; omega
          have hq : (-(u : Int)).tdiv 10 = -((u / 10 : Nat) : Int) := by rw [Int.neg_tdiv, Int.tdiv_eq_ediv_of_nonneg (by omega)]; omega
          have hlt : u / 10 < u := by omega
          have hle : u / 10 ≤ u0 := by omega
          have hsf := string_fig (W := wr) (u % 10)
          have hfz := figText_size (u % 10)
          generalize u % 10 = r at *
          generalize u / 10 = q at *
          by_cases hr0 : r = 0
          · subst hr0
            rw [show (48 : Int) + ((0 : Nat) : Int) = 48 from rfl] at hsf
            go_wp2_with (go_at_call 58; refine (fig_any 0 (by omega) _).mono ?_; rintro e w1 ⟨rfl, rfl⟩)
            exact ⟨⟨q, figText 0 ++ x, hle, rfl, rfl, hon, hbw.alloc hs _⟩, by simp [intOf]; omega⟩
          · have e2 : decide (-(r : Int) < 0) = true := by simp; omega
            go_wp2_with (go_at_call 58; refine (fig_any r hr _).mono ?_; rintro e w1 ⟨rfl, rfl⟩)
            exact ⟨⟨q, figText r ++ x, hle, rfl, rfl, hon, hbw.alloc hs _⟩, by simp [intOf]; omega⟩
    · obtain ⟨u0, rfl⟩ := Int.eq_ofNat_of_zero_le (show 0 ≤ n by omega)
      have hfin : ∀ t : ByteArray, t.data.toList = dd u0 → t = dec (u0 : Int) := by
        intro t ht
        unfold dec Lib.itoa
        rw [if_neg hneg, Int.toNat_natCast]
        unfold dd at ht
        rw [if_neg (by omega)] at ht
        rw [← ht]
      have hd0 := dd_len (u := u0) (by omega)
      have e0 : ((u0 : Int) == 0) = false := by simp; omega
      have e1 : decide ((u0 : Int) < 0) = false := by simp
      replace hfin := Lib.hid hfin
      go_enter Tryd.func10, Tryd.ntmps10
      go_wp2
      go_loopw [0, 4, 5] (fun m t d wr => ∃ (u : Nat) (x : ByteArray), u ≤ u0 ∧ m = .int .i64 u ∧ t = .string x ∧ Hid (dd u ++ x.data.toList = dd u0) ∧ Below w.heap.size w wr) (fun m _ _ _ => (intOf m).toNat)
      case atStart => exact ⟨u0, ByteArray.empty, by omega, rfl, rfl, Lib.hid (by simp), Below.refl _ _⟩
      case round =>
        obtain ⟨u, x, hu, rfl, rfl, hdd, hbw⟩ := hrel
        have hs := hbw.size
        by_cases hu0 : u = 0
        · subst hu0
          have hx : x = dec (u0 : Int) := hfin.out x (by have := hdd.out; simpa [dd] using this)
          go_wp2
          go_ret
          exact ⟨by rw [hx]; rfl, hbw⟩
        · have hon := Lib.hid (dd_next hdd.out hu0)
          have hxl : x.size ≤ 20 := by
            have := congrArg List.length hdd.out
            rw [List.length_append] at this
            have h2 : x.data.toList.length = x.size := by simp
            omega
          have e3 : ((u : Int) != 0) = true := by simp; omega
          have hr : u % 10 < 10 := by omega
          have hm : (u : Int) % 10 = ((u % 10 : Nat) : Int) := by omega
          have hq : (u : Int) / 10 = ((u / 10 : Nat) : Int) := by omega
          have hlt : u / 10 < u := by omega
          have hle : u / 10 ≤ u0 := by omega
          have hsf := string_fig (W := wr) (u % 10)
          have hfz := figText_size (u % 10)
          generalize u % 10 = r at *
          generalize u / 10 = q at *
          have e2 : decide ((r : Int) < 0) = false := by simp
          go_wp2_with (go_at_call 58; refine (fig_any r hr _).mono ?_; rintro e w1 ⟨rfl, rfl⟩)
          exact ⟨⟨q, figText r ++ x, hle, rfl, rfl, hon, hbw.alloc hs _⟩, by simpa [intOf] using hlt⟩
end Go.Proofs.YtklhfjeonhjobaaDoor.Dec
