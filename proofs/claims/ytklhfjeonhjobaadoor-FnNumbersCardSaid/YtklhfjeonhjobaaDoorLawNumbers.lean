/-
  FnNumbers: numbers and texts come back from their texts: the tied card.
  Conditions: none beyond the statement's own.
-/
import Derived.Test.YtklhfjeonhjobaaDoorRows
import Derived.Test.YtklhfjeonhjobaaDoorCards
import Derived.Test.YtklhfjeonhjobaaDoorTie
import Derived.Test.YtklhfjeonhjobaaDoorNumBack
import Derived.Test.YtklhfjeonhjobaaDoorPick2
import Derived.Test.YtklhfjeonhjobaaDoorArgs
import Derived.Test.YtklhfjeonhjobaaDoorPost
import Derived.WalkKit
import Derived.ProofKit
import Derived.OpenShut
import Derived.LaidMore
import Derived.Lay
import Derived.Stop.Joined
import Derived.SevenTiedAt
namespace Go.Proofs.YtklhfjeonhjobaaDoor.lawNumbers
open Go.ChangeShapes Go.WideShapes Go.ChangeAt Go.RowKit Go.Proofs.YtklhfjeonhjobaaDoor.Mix Go.Proofs.YtklhfjeonhjobaaDoor.Row Go.Proofs.YtklhfjeonhjobaaDoor.Mem Go.Proofs.YtklhfjeonhjobaaDoor.Draw Go.Proofs.YtklhfjeonhjobaaDoor.Dec Go.Proofs.YtklhfjeonhjobaaDoor.NumBack
set_option linter.unusedVariables false
theorem cellsB : Tryd.prog.cellsOf 5 = 1 := by kernel_rfl
/-- what the number's texts come back as -/
theorem num_any (m : Nat) (hm : m ≤ 1000000000) : ∃ s d : ByteArray, s.size ≤ 5 ∧ (∀ W, Calls Tryd.prog 21 #[.int .i64 m] W fun e w' => e = .returned (.tuple #[.string s, .bool true]) ∧ Below W.heap.size W w') ∧
    (∀ W, Calls Tryd.prog 22 #[.string (⟨#[120]⟩ ++ s ++ ⟨#[121]⟩), .int .i64 1] W fun e w' => e = .returned (.tuple #[.int .i64 m, .int .i64 ((s.size : Int) + 1), .bool true]) ∧ Below W.heap.size W w') ∧
    (∀ W, Tab W → Calls Tryd.prog 11 #[.int .i64 m] W fun e w' => e = .returned (.string d) ∧ Below W.heap.size W w') ∧
    (∀ W, Tab W → Calls Tryd.prog 13 #[.string d] W fun e w' => e = .returned (.tuple #[.int .i64 m, .bool true]) ∧ Below W.heap.size W w') := by
  have hz := Var.text_size m
  have h1 := fun W => Var.impl_VarText (m : Int) W
  have hv : Var.varText (m : Int) = (Var.text m, true) := by unfold Var.varText; rw [if_pos ⟨by omega, by omega⟩]; rfl
  rw [hv] at h1
  have h2 := fun W => Var.impl_ReadVar (⟨#[120]⟩ ++ Var.text m ++ ⟨#[121]⟩) (by simp only [ByteArray.size_append]; show 1 + _ + 1 ≤ _; omega) 1 W
  have hr := readVar_back ⟨#[120]⟩ ⟨#[121]⟩ m hm
  rw [show (((⟨#[120]⟩ : ByteArray).size : Nat) : Int) = 1 from rfl] at hr
  rw [hr] at h2
  have hd := dec_size (m : Int) (by omega) (by omega)
  have h4 := fun W hW => impl_read (dec (m : Int)) (by omega) (w := W) hW
  rw [dec_back m hm] at h4
  refine ⟨Var.text m, dec m, hz, h1, fun W => (h2 W).mono fun e w' h => ⟨?_, h.2⟩, fun W hW => impl_dec (m : Int) (by omega) (by omega) hW, h4⟩
  rw [h.1]
  unfold Var.rvVal
  have e : (((⟨#[120]⟩ : ByteArray).size + (Var.text m).size : Nat) : Int) = ((Var.text m).size : Int) + 1 := by
    have : (⟨#[120]⟩ : ByteArray).size = 1 := rfl
    omega
  simp only [e]
/-- what the text's texts come back as -/
theorem txt_any (t : ByteArray) (ht : t.size ≤ 300) : ∃ a h : ByteArray, a.size ≤ 305 ∧ h.size ≤ 600 ∧ (∀ W, Calls Tryd.prog 24 #[.string t] W fun e w' => e = .returned (.tuple #[.string a, .bool true]) ∧ Below W.heap.size W w') ∧
    (∀ W, Calls Tryd.prog 25 #[.string a, .int .i64 0] W fun e w' => e = .returned (.tuple #[.string t, .int .i64 (a.size : Int), .bool true]) ∧ Below W.heap.size W w') ∧
    (∀ W, Calls Tryd.prog 26 #[.string t] W fun e w' => e = .returned (.tuple #[.string h, .bool true]) ∧ Below W.heap.size W w') ∧
    (∀ W, Calls Tryd.prog 27 #[.string h] W fun e w' => e = .returned (.tuple #[.string t, .bool true]) ∧ Below W.heap.size W w') := by
  have hz := Var.text_size t.size
  have hl : t.data.toList.length = t.size := by simp
  have h1 := fun W => Var.impl_ShortText t (by omega) W
  rw [show Var.shortText t = (Var.text t.size ++ t, true) by unfold Var.shortText; rw [if_pos (by omega)]] at h1
  have hs : (Var.text t.size ++ t).size = (Var.text t.size).size + t.size := ByteArray.size_append
  have h2 := fun W => Var.impl_ReadShort (Var.text t.size ++ t) (by omega) 0 W
  rw [readShort_back t (by omega), ← hs] at h2
  have h3 := fun W => Hex.impl_Hex t (by omega) W
  rw [show Hex.hex t = (strOfNums (Hex.hexI t.data.toList), true) by unfold Hex.hex; rw [if_pos (by omega)]] at h3
  have hh : (strOfNums (Hex.hexI t.data.toList)).size = 2 * t.size := by rw [strOfNums_size, Hex.hexI_len, hl]
  have h4 := fun W => Hex.impl_Unhex (strOfNums (Hex.hexI t.data.toList)) (by omega) W
  rw [unhex_back t (by omega)] at h4
  exact ⟨Var.text t.size ++ t, strOfNums (Hex.hexI t.data.toList), by omega, by omega, h1, h2, h3, h4⟩
set_option maxRecDepth 100000 in
set_option maxHeartbeats 3200000 in
theorem walkN {v : Value} {bs : List Int} {w : World} (h : Drawn w v bs) (ht : Tab w) :
    Calls Tryd.prog 6 #[v] w fun e w' => e = .returned (.bool true) ∧ Below w.heap.size w w' := by
  obtain ⟨A0, c0, rfl, -⟩ := id h.1
  by_cases hb : bs.length ≤ 1048576
  · have d0 : decide ((1048576 : Int) < (bs.length : Int)) = false := by simp; omega
    replace h := Lib.hid h
    replace ht := Lib.hid ht
    go_enter Tryd.func6, Tryd.ntmps6
    go_wp2_with fail
    refine (big_any h.out).mono ?_
    rintro e w0 ⟨rfl, rfl⟩
    go_wp2_with fail
    refine (drawVarText_any h.out hb).mono ?_
    rintro e w1 ⟨n, n1, n2, rfl, b1⟩
    replace h := Lib.hid (h.out.below b1)
    replace ht := Lib.hid (ht.out.below b1)
    have hB := Lib.hid b1
    clear b1
    by_cases hn0 : 0 ≤ n
    · obtain ⟨m, rfl⟩ := Int.eq_ofNat_of_zero_le hn0
      have e0 : decide ((m : Int) < 0) = false := by simp
      by_cases hn1 : m ≤ 1000000000
      · have e1 : decide ((1000000000 : Int) < (m : Int)) = false := by simp; omega
        obtain ⟨s, d, hs, q1, q2, q3, q4⟩ := num_any m (by omega)
        replace q1 := Lib.hid q1
        replace q2 := Lib.hid q2
        replace q3 := Lib.hid q3
        replace q4 := Lib.hid q4
        go_wp2_with fail
        refine (q1.out _).mono ?_
        rintro e w2 ⟨rfl, bb⟩
        replace h := Lib.hid (h.out.below bb)
        replace ht := Lib.hid (ht.out.below bb)
        replace hB := Lib.hid (hB.out.trans (bb.mono hB.out.size))
        clear bb
        go_wp2_with fail
        refine (q2.out _).mono ?_
        rintro e w3 ⟨rfl, bb⟩
        replace h := Lib.hid (h.out.below bb)
        replace ht := Lib.hid (ht.out.below bb)
        replace hB := Lib.hid (hB.out.trans (bb.mono hB.out.size))
        clear bb
        go_wp2_with fail
        refine (q3.out _ ht.out).mono ?_
        rintro e w4 ⟨rfl, bb⟩
        replace h := Lib.hid (h.out.below bb)
        replace ht := Lib.hid (ht.out.below bb)
        replace hB := Lib.hid (hB.out.trans (bb.mono hB.out.size))
        clear bb
        go_wp2_with fail
        refine (q4.out _ ht.out).mono ?_
        rintro e w4b ⟨rfl, bb⟩
        replace h := Lib.hid (h.out.below bb)
        replace ht := Lib.hid (ht.out.below bb)
        replace hB := Lib.hid (hB.out.trans (bb.mono hB.out.size))
        clear bb
        clear q1 q2 q3 q4
        go_wp2_with fail
        refine (drawHex_any h.out hb).mono ?_
        rintro e w5 ⟨t, htt, rfl, bb⟩
        replace h := Lib.hid (h.out.below bb)
        replace ht := Lib.hid (ht.out.below bb)
        replace hB := Lib.hid (hB.out.trans (bb.mono hB.out.size))
        clear bb
        by_cases hts : t.size ≤ 300
        · have f0 : decide ((300 : Int) < (t.size : Int)) = false := by simp; omega
          obtain ⟨a, x, ha, hx, p1, p2, p3, p4⟩ := txt_any t hts
          replace p1 := Lib.hid p1
          replace p2 := Lib.hid p2
          replace p3 := Lib.hid p3
          replace p4 := Lib.hid p4
          go_wp2_with fail
          refine (p1.out _).mono ?_
          rintro e w6 ⟨rfl, bb⟩
          replace h := Lib.hid (h.out.below bb)
          replace ht := Lib.hid (ht.out.below bb)
          replace hB := Lib.hid (hB.out.trans (bb.mono hB.out.size))
          clear bb
          go_wp2_with fail
          refine (p2.out _).mono ?_
          rintro e w7 ⟨rfl, bb⟩
          replace h := Lib.hid (h.out.below bb)
          replace ht := Lib.hid (ht.out.below bb)
          replace hB := Lib.hid (hB.out.trans (bb.mono hB.out.size))
          clear bb
          go_wp2_with fail
          refine (p3.out _).mono ?_
          rintro e w8 ⟨rfl, bb⟩
          replace h := Lib.hid (h.out.below bb)
          replace ht := Lib.hid (ht.out.below bb)
          replace hB := Lib.hid (hB.out.trans (bb.mono hB.out.size))
          clear bb
          go_wp2_with fail
          refine (p4.out _).mono ?_
          rintro e w9 ⟨rfl, bb⟩
          replace h := Lib.hid (h.out.below bb)
          replace ht := Lib.hid (ht.out.below bb)
          replace hB := Lib.hid (hB.out.trans (bb.mono hB.out.size))
          clear bb
          clear p1 p2 p3 p4 h ht
          go_wp2
          go_ret
          exact ⟨by simp, hB.out⟩
        · have f0 : decide ((300 : Int) < (t.size : Int)) = true := by simp; omega
          obtain ⟨a, x, ha, hx, p1, p2, p3, p4⟩ := txt_any ⟨#[97, 98, 99]⟩ (by decide)
          replace p1 := Lib.hid p1
          replace p2 := Lib.hid p2
          replace p3 := Lib.hid p3
          replace p4 := Lib.hid p4
          go_wp2_with fail
          refine (p1.out _).mono ?_
          rintro e w6 ⟨rfl, bb⟩
          replace h := Lib.hid (h.out.below bb)
          replace ht := Lib.hid (ht.out.below bb)
          replace hB := Lib.hid (hB.out.trans (bb.mono hB.out.size))
          clear bb
          go_wp2_with fail
          refine (p2.out _).mono ?_
          rintro e w7 ⟨rfl, bb⟩
          replace h := Lib.hid (h.out.below bb)
          replace ht := Lib.hid (ht.out.below bb)
          replace hB := Lib.hid (hB.out.trans (bb.mono hB.out.size))
          clear bb
          go_wp2_with fail
          refine (p3.out _).mono ?_
          rintro e w8 ⟨rfl, bb⟩
          replace h := Lib.hid (h.out.below bb)
          replace ht := Lib.hid (ht.out.below bb)
          replace hB := Lib.hid (hB.out.trans (bb.mono hB.out.size))
          clear bb
          go_wp2_with fail
          refine (p4.out _).mono ?_
          rintro e w9 ⟨rfl, bb⟩
          replace h := Lib.hid (h.out.below bb)
          replace ht := Lib.hid (ht.out.below bb)
          replace hB := Lib.hid (hB.out.trans (bb.mono hB.out.size))
          clear bb
          clear p1 p2 p3 p4 h ht
          go_wp2
          go_ret
          exact ⟨by simp, hB.out⟩
      · have e1 : decide ((1000000000 : Int) < (m : Int)) = true := by simp; omega
        obtain ⟨s, d, hs, q1, q2, q3, q4⟩ := num_any 12345 (by omega)
        replace q1 := Lib.hid q1
        replace q2 := Lib.hid q2
        replace q3 := Lib.hid q3
        replace q4 := Lib.hid q4
        go_wp2_with fail
        refine (q1.out _).mono ?_
        rintro e w2 ⟨rfl, bb⟩
        replace h := Lib.hid (h.out.below bb)
        replace ht := Lib.hid (ht.out.below bb)
        replace hB := Lib.hid (hB.out.trans (bb.mono hB.out.size))
        clear bb
        go_wp2_with fail
        refine (q2.out _).mono ?_
        rintro e w3 ⟨rfl, bb⟩
        replace h := Lib.hid (h.out.below bb)
        replace ht := Lib.hid (ht.out.below bb)
        replace hB := Lib.hid (hB.out.trans (bb.mono hB.out.size))
        clear bb
        go_wp2_with fail
        refine (q3.out _ ht.out).mono ?_
        rintro e w4 ⟨rfl, bb⟩
        replace h := Lib.hid (h.out.below bb)
        replace ht := Lib.hid (ht.out.below bb)
        replace hB := Lib.hid (hB.out.trans (bb.mono hB.out.size))
        clear bb
        go_wp2_with fail
        refine (q4.out _ ht.out).mono ?_
        rintro e w4b ⟨rfl, bb⟩
        replace h := Lib.hid (h.out.below bb)
        replace ht := Lib.hid (ht.out.below bb)
        replace hB := Lib.hid (hB.out.trans (bb.mono hB.out.size))
        clear bb
        clear q1 q2 q3 q4
        go_wp2_with fail
        refine (drawHex_any h.out hb).mono ?_
        rintro e w5 ⟨t, htt, rfl, bb⟩
        replace h := Lib.hid (h.out.below bb)
        replace ht := Lib.hid (ht.out.below bb)
        replace hB := Lib.hid (hB.out.trans (bb.mono hB.out.size))
        clear bb
        by_cases hts : t.size ≤ 300
        · have f0 : decide ((300 : Int) < (t.size : Int)) = false := by simp; omega
          obtain ⟨a, x, ha, hx, p1, p2, p3, p4⟩ := txt_any t hts
          replace p1 := Lib.hid p1
          replace p2 := Lib.hid p2
          replace p3 := Lib.hid p3
          replace p4 := Lib.hid p4
          go_wp2_with fail
          refine (p1.out _).mono ?_
          rintro e w6 ⟨rfl, bb⟩
          replace h := Lib.hid (h.out.below bb)
          replace ht := Lib.hid (ht.out.below bb)
          replace hB := Lib.hid (hB.out.trans (bb.mono hB.out.size))
          clear bb
          go_wp2_with fail
          refine (p2.out _).mono ?_
          rintro e w7 ⟨rfl, bb⟩
          replace h := Lib.hid (h.out.below bb)
          replace ht := Lib.hid (ht.out.below bb)
          replace hB := Lib.hid (hB.out.trans (bb.mono hB.out.size))
          clear bb
          go_wp2_with fail
          refine (p3.out _).mono ?_
          rintro e w8 ⟨rfl, bb⟩
          replace h := Lib.hid (h.out.below bb)
          replace ht := Lib.hid (ht.out.below bb)
          replace hB := Lib.hid (hB.out.trans (bb.mono hB.out.size))
          clear bb
          go_wp2_with fail
          refine (p4.out _).mono ?_
          rintro e w9 ⟨rfl, bb⟩
          replace h := Lib.hid (h.out.below bb)
          replace ht := Lib.hid (ht.out.below bb)
          replace hB := Lib.hid (hB.out.trans (bb.mono hB.out.size))
          clear bb
          clear p1 p2 p3 p4 h ht
          go_wp2
          go_ret
          exact ⟨by simp, hB.out⟩
        · have f0 : decide ((300 : Int) < (t.size : Int)) = true := by simp; omega
          obtain ⟨a, x, ha, hx, p1, p2, p3, p4⟩ := txt_any ⟨#[97, 98, 99]⟩ (by decide)
          replace p1 := Lib.hid p1
          replace p2 := Lib.hid p2
          replace p3 := Lib.hid p3
          replace p4 := Lib.hid p4
          go_wp2_with fail
          refine (p1.out _).mono ?_
          rintro e w6 ⟨rfl, bb⟩
          replace h := Lib.hid (h.out.below bb)
          replace ht := Lib.hid (ht.out.below bb)
          replace hB := Lib.hid (hB.out.trans (bb.mono hB.out.size))
          clear bb
          go_wp2_with fail
          refine (p2.out _).mono ?_
          rintro e w7 ⟨rfl, bb⟩
          replace h := Lib.hid (h.out.below bb)
          replace ht := Lib.hid (ht.out.below bb)
          replace hB := Lib.hid (hB.out.trans (bb.mono hB.out.size))
          clear bb
          go_wp2_with fail
          refine (p3.out _).mono ?_
          rintro e w8 ⟨rfl, bb⟩
          replace h := Lib.hid (h.out.below bb)
          replace ht := Lib.hid (ht.out.below bb)
          replace hB := Lib.hid (hB.out.trans (bb.mono hB.out.size))
          clear bb
          go_wp2_with fail
          refine (p4.out _).mono ?_
          rintro e w9 ⟨rfl, bb⟩
          replace h := Lib.hid (h.out.below bb)
          replace ht := Lib.hid (ht.out.below bb)
          replace hB := Lib.hid (hB.out.trans (bb.mono hB.out.size))
          clear bb
          clear p1 p2 p3 p4 h ht
          go_wp2
          go_ret
          exact ⟨by simp, hB.out⟩
    · have e0 : decide (n < 0) = true := by simp; omega
      obtain ⟨s, d, hs, q1, q2, q3, q4⟩ := num_any 12345 (by omega)
      replace q1 := Lib.hid q1
      replace q2 := Lib.hid q2
      replace q3 := Lib.hid q3
      replace q4 := Lib.hid q4
      go_wp2_with fail
      refine (q1.out _).mono ?_
      rintro e w2 ⟨rfl, bb⟩
      replace h := Lib.hid (h.out.below bb)
      replace ht := Lib.hid (ht.out.below bb)
      replace hB := Lib.hid (hB.out.trans (bb.mono hB.out.size))
      clear bb
      go_wp2_with fail
      refine (q2.out _).mono ?_
      rintro e w3 ⟨rfl, bb⟩
      replace h := Lib.hid (h.out.below bb)
      replace ht := Lib.hid (ht.out.below bb)
      replace hB := Lib.hid (hB.out.trans (bb.mono hB.out.size))
      clear bb
      go_wp2_with fail
      refine (q3.out _ ht.out).mono ?_
      rintro e w4 ⟨rfl, bb⟩
      replace h := Lib.hid (h.out.below bb)
      replace ht := Lib.hid (ht.out.below bb)
      replace hB := Lib.hid (hB.out.trans (bb.mono hB.out.size))
      clear bb
      go_wp2_with fail
      refine (q4.out _ ht.out).mono ?_
      rintro e w4b ⟨rfl, bb⟩
      replace h := Lib.hid (h.out.below bb)
      replace ht := Lib.hid (ht.out.below bb)
      replace hB := Lib.hid (hB.out.trans (bb.mono hB.out.size))
      clear bb
      clear q1 q2 q3 q4
      go_wp2_with fail
      refine (drawHex_any h.out hb).mono ?_
      rintro e w5 ⟨t, htt, rfl, bb⟩
      replace h := Lib.hid (h.out.below bb)
      replace ht := Lib.hid (ht.out.below bb)
      replace hB := Lib.hid (hB.out.trans (bb.mono hB.out.size))
      clear bb
      by_cases hts : t.size ≤ 300
      · have f0 : decide ((300 : Int) < (t.size : Int)) = false := by simp; omega
        obtain ⟨a, x, ha, hx, p1, p2, p3, p4⟩ := txt_any t hts
        replace p1 := Lib.hid p1
        replace p2 := Lib.hid p2
        replace p3 := Lib.hid p3
        replace p4 := Lib.hid p4
        go_wp2_with fail
        refine (p1.out _).mono ?_
        rintro e w6 ⟨rfl, bb⟩
        replace h := Lib.hid (h.out.below bb)
        replace ht := Lib.hid (ht.out.below bb)
        replace hB := Lib.hid (hB.out.trans (bb.mono hB.out.size))
        clear bb
        go_wp2_with fail
        refine (p2.out _).mono ?_
        rintro e w7 ⟨rfl, bb⟩
        replace h := Lib.hid (h.out.below bb)
        replace ht := Lib.hid (ht.out.below bb)
        replace hB := Lib.hid (hB.out.trans (bb.mono hB.out.size))
        clear bb
        go_wp2_with fail
        refine (p3.out _).mono ?_
        rintro e w8 ⟨rfl, bb⟩
        replace h := Lib.hid (h.out.below bb)
        replace ht := Lib.hid (ht.out.below bb)
        replace hB := Lib.hid (hB.out.trans (bb.mono hB.out.size))
        clear bb
        go_wp2_with fail
        refine (p4.out _).mono ?_
        rintro e w9 ⟨rfl, bb⟩
        replace h := Lib.hid (h.out.below bb)
        replace ht := Lib.hid (ht.out.below bb)
        replace hB := Lib.hid (hB.out.trans (bb.mono hB.out.size))
        clear bb
        clear p1 p2 p3 p4 h ht
        go_wp2
        go_ret
        exact ⟨by simp, hB.out⟩
      · have f0 : decide ((300 : Int) < (t.size : Int)) = true := by simp; omega
        obtain ⟨a, x, ha, hx, p1, p2, p3, p4⟩ := txt_any ⟨#[97, 98, 99]⟩ (by decide)
        replace p1 := Lib.hid p1
        replace p2 := Lib.hid p2
        replace p3 := Lib.hid p3
        replace p4 := Lib.hid p4
        go_wp2_with fail
        refine (p1.out _).mono ?_
        rintro e w6 ⟨rfl, bb⟩
        replace h := Lib.hid (h.out.below bb)
        replace ht := Lib.hid (ht.out.below bb)
        replace hB := Lib.hid (hB.out.trans (bb.mono hB.out.size))
        clear bb
        go_wp2_with fail
        refine (p2.out _).mono ?_
        rintro e w7 ⟨rfl, bb⟩
        replace h := Lib.hid (h.out.below bb)
        replace ht := Lib.hid (ht.out.below bb)
        replace hB := Lib.hid (hB.out.trans (bb.mono hB.out.size))
        clear bb
        go_wp2_with fail
        refine (p3.out _).mono ?_
        rintro e w8 ⟨rfl, bb⟩
        replace h := Lib.hid (h.out.below bb)
        replace ht := Lib.hid (ht.out.below bb)
        replace hB := Lib.hid (hB.out.trans (bb.mono hB.out.size))
        clear bb
        go_wp2_with fail
        refine (p4.out _).mono ?_
        rintro e w9 ⟨rfl, bb⟩
        replace h := Lib.hid (h.out.below bb)
        replace ht := Lib.hid (ht.out.below bb)
        replace hB := Lib.hid (hB.out.trans (bb.mono hB.out.size))
        clear bb
        clear p1 p2 p3 p4 h ht
        go_wp2
        go_ret
        exact ⟨by simp, hB.out⟩
  · have d0 : decide ((1048576 : Int) < (bs.length : Int)) = true := by simp; omega
    go_enter Tryd.func6, Tryd.ntmps6
    go_wp2_with fail
    refine (big_any h).mono ?_
    rintro e w0 ⟨rfl, rfl⟩
    go_wp2
    go_ret
    exact ⟨rfl, Below.refl _ _⟩
set_option maxRecDepth 100000 in
theorem walk (v0 : Value) {base : Nat} {w : World} (o0 : Value.okWide Tryd.prog w .any base 32 v0) {H : Type} {enc : TypeId × Value → H} {d0 : DataW H} {p0 : List MemPlace} (h0 : DataW.Trod enc Tryd.prog w 0 (fun _ => true) true 32 v0 d0 p0) (ht : Tab w) :
    Calls Tryd.prog 6 #[v0] w fun e w' => e = .returned (.bool true) ∧ Below w.heap.size w w' := by
  obtain ⟨xs, hx, hw⟩ := Args.row_ints Tryd.underlying32 Tryd.underlying5 cellsB o0 h0
  exact walkN ⟨hx, fun x hx => by have := hw x hx; simp [Lit.wf, IntKind.min, IntKind.max, IntKind.signed, IntKind.bits] at this; omega⟩ ht
theorem own : ownKnob Tryd.prog.godebug = none := by kernel_rfl
theorem laidOut : laidOutB Tryd.prog = true := by kernel_rfl
set_option maxRecDepth 100000 in
theorem lifted (os : Os) (started : os.Started) (H : Type) (enc : TypeId × Value → H) :
    ReturnsInHanded {} Tryd.checked os 6 .any (fun w args => (Rows.fnNumbersSpec.pre enc Tryd.prog Tryd.f6 [] false w args ∧ laidMetH Tryd.prog Rows.fnNumbersRow.laid w) ∧ sizedMet enc Tryd.prog Tryd.f6 (OpenSpec.ofChange Rows.fnNumbersSpec) false w args)
      (Rows.fnNumbersSpec.post enc Tryd.prog Tryd.f6 false true false false) := by
  refine returnsInHanded_of_change_and (C := Tryd.checked) (X := fun w _ => laidMetH Tryd.prog Rows.fnNumbersRow.laid w) (fun _ _ _ hh h => h.of_heap hh) own started (by kernel_rfl) Tryd.func6
    (ChangeSpec.witness_shaped (enc := enc) (C := Tryd.checked) (os := os) (X := fun w _ => laidMetH Tryd.prog Rows.fnNumbersRow.laid w) false (World.laidAll Tryd.prog os Rows.fnNumbersRow.laid) #[.slice none 0 0] 8 (World.laidAll_os _ _ _)
      (World.shaped_of_ZipB (by kernel_rfl) (by kernel_rfl)) (by kernel_rfl) (by kernel_rfl) (by kernel_rfl)
      (by rw [MakeChecks.laidMetH_plain _ _ _ (by kernel_rfl)]; exact laidMet_laidAll _ (by kernel_rfl) (by kernel_rfl))) ?_
  intro W base args ds gs before hval0 hW _ _ hlaid _
  have hval : ∀ (j : Nat) t v, Tryd.f6.params[j]? = some t → args[j]? = some v → Value.okWide Tryd.prog W .any base t v := hval0
  have hW' := hW
  obtain ⟨p, q, hA0, hV, rfl, hfz, hnd⟩ := hW
  have hA : DataW.TrodAll enc Tryd.prog W 0 (fun _ => true) true Tryd.f6.params.toList args.toList ds p := hA0
  rw [Tryd.params6] at hA hval
  obtain ⟨v0, vs0, d0, ds0, p0, q0, hargs, rfl, rfl, h0, r0⟩ := trodAll_cons hA
  obtain ⟨rfl, rfl, rfl⟩ := trodAll_nil r0
  obtain rfl : args = #[v0] := by cases args; simp_all
  obtain ⟨rfl, rfl⟩ := trodVars_none hV
  have k0 := h0
  have o0 := hval 0 32 v0 rfl rfl
  clear hA0 hval0
  simp only [List.append_nil] at hW'
  have hlt := fun x hx => DataW.Whole.lt hW' x hx
  refine (walk v0 o0 h0 (Dec.tab_of (by kernel_rfl) hlaid)).mono fun e W' ⟨he, hg⟩ => ?_
  subst he
  exact ⟨_, rfl, Post.post_of_below (pa := p0 ++ ([])) (pv := []) hW' (fun _ _ _ => (trodAll_cons_mk (shut_bool Tryd.underlying4 _) trodAll_mk0)) (fun sp hsp => (trodAll_cons_mk (Post.stays laidOut (by kernel_rfl) (of_decide_eq_true (by kernel_rfl)) k0 hg (fun x hx => by first | (cases hx; done) | simp [hx]) hlt hsp) trodAll_mk0)) (fun _ _ => rfl) (by simp)
    hg (ok_one (by kernel_rfl) rfl (okWide_bool_mk Tryd.underlying4 _))⟩

theorem over : Rows.fnNumbersRow.holds Tryd.pinned (OpenSpec.ofChange Rows.fnNumbersSpec) :=
  OpenClaim.holds_of_wide 6 Tryd.f6 rfl rfl rfl rfl rfl rfl rfl ⟨rfl, rfl, rfl, rfl, rfl⟩ rfl rfl rfl rfl rfl (by kernel_rfl) Tryd.func6 (by kernel_rfl)
    (of_decide_eq_true (by kernel_rfl)) (by unfold Func.isWrapper; first | (rw [if_pos (by decide +kernel)]; kernel_rfl) | (rw [if_neg (by decide +kernel)]; exact ⟨rfl, rfl⟩))
    (fun os started H enc _ => lifted os started H enc)

/-- THE STATEMENT: the tied card -/
theorem proved : Rows.FnNumbersCardSaid :=
  Claim7.holds_tied_plain_at .later [] Rows.fnNumbersCard.laidKinds true Rows.fnNumbersCard.stood.harness Rows.fnNumbersCard.stood.looks
    over (fun _ h => by cases h) (by kernel_rfl) (fun _ h => by cases h) fnNumbers_row_tie rfl ⟨rfl, rfl⟩ (by kernel_rfl) rfl
    (fun f fn hf hfn => by
      obtain rfl : f = 6 := Option.some.inj ((show Tryd.prog.funcNamed "loop.example/g00459/laws.FnNumbers" = some 6 by kernel_rfl).symm.trans hf) |>.symm
      obtain rfl : fn = Tryd.f6 := (Option.some.inj (Tryd.func6.symm.trans hfn)).symm
      exact ⟨by kernel_rfl, fun j t ht => by
        rw [Tryd.params6] at ht
        have hm : t ∈ [32] := by simpa using Array.mem_of_getElem? ht
        have hall : ([32].all fun u => !Tryd.prog.wantsStandIn u) = true := by kernel_rfl
        exact (show Tryd.prog.wantsStandIn t = false by simpa using List.all_eq_true.1 hall t hm)⟩)
    (by kernel_rfl)
end Go.Proofs.YtklhfjeonhjobaaDoor.lawNumbers
