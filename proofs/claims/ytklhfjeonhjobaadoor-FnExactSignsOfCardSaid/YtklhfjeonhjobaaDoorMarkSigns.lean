/-
  The contract of laws.markSignS: a slice of the call's own is written over with marks.
  Conditions: the marks' numbers from 1 to 2^40.
-/
import Derived.Test.YtklhfjeonhjobaaDoorSign
import Derived.Test.YtklhfjeonhjobaaDoorMarkText
import Derived.Test.YtklhfjeonhjobaaDoorOwns
namespace Go.Proofs.YtklhfjeonhjobaaDoor.MarkSigns
open Go.RowKit Go.Proofs.YtklhfjeonhjobaaDoor.Row Go.Proofs.YtklhfjeonhjobaaDoor.Mem Go.Proofs.YtklhfjeonhjobaaDoor.Mix Go.Proofs.YtklhfjeonhjobaaDoor.Recs Go.Proofs.YtklhfjeonhjobaaDoor.Owns Go.Proofs.YtklhfjeonhjobaaDoor.Sign
/-- the marks: the numbers from k on -/
def mk (k : Nat) : Sign := ⟨(k : Int), MarkText.mt (k + 1), (k : Int) + 1 + 1, (((k : Int) + 1 + 1 + 1) % 3 == 0)⟩
def mks (k n : Nat) : List Sign := (List.range n).map fun j => mk (k + j * 4)
theorem mks_succ (k n : Nat) : mks k (n + 1) = mks k n ++ [mk (k + n * 4)] := by simp [mks, List.range_succ]
theorem mks_len (k n : Nat) : (mks k n).length = n := by simp [mks]
set_option maxRecDepth 100000 in
set_option maxHeartbeats 1600000 in
theorem mark_any {v : Value} {n base k : Nat} {us : List Value} {w : World} (h : w.ownsRow base 61 4 v n us) (h1 : 1 ≤ k) (hk : k + n * 4 ≤ 1099511627776) :
    Calls Tryd.prog 43 #[v, .int .i64 k] w fun e w' => e = .returned (.int .i64 ((k + n * 4 : Nat) : Int)) ∧ w'.ownsRow base 61 4 v n (signs (mks k n)) ∧ w.grownBy w' v.ownBlock := by
  rcases owns_fill h with ⟨rfl, rfl, rfl⟩ | ⟨g, cap, rfl, hg, hnc, hcm, hf0⟩
  · have e0 : Hid (k + 0 * 4 = k) := Lib.hid (by omega)
    go_enter Tryd.func43, Tryd.ntmps43
    go_wp2
    go_loopw [1, 5] (fun q i wr => q = .int .i64 k ∧ i = .int .i64 0 ∧ wr = w) (fun i _ _ => 0)
    case atStart => exact ⟨rfl, rfl, rfl⟩
    case round =>
      obtain ⟨rfl, rfl, rfl⟩ := hrel
      go_wp2
      go_ret
      exact ⟨by rw [e0.out]; rfl, h, World.grownBy.refl _ _⟩
  · clear h
    go_enter Tryd.func43, Tryd.ntmps43
    go_wp2
    go_loopw [1, 5] (fun q i wr => ∃ j : Nat, j ≤ n ∧ i = .int .i64 j ∧ q = .int .i64 ((k + j * 4 : Nat) : Int) ∧ Fill wr g 61 4 cap j (signs (mks k j)) ∧ w.grownBy wr (some g)) (fun _ i _ => n - (intOf i).toNat)
    case atStart => exact ⟨0, by omega, rfl, by simp, hf0, World.grownBy.refl _ _⟩
    case round =>
      obtain ⟨j, hj, rfl, rfl, hf, hgw⟩ := hrel
      by_cases hlt : j < n
      · have hsn := Lib.hid (mks_succ k j)
        have hnum := Lib.hid (show ((k + (j + 1) * 4 : Nat) : Int) = ((k + j * 4 : Nat) : Int) + 1 + 1 + 1 + 1 by omega)
        have hbd : k + j * 4 + 4 ≤ 1099511627776 := by
          have : (j + 1) * 4 ≤ n * 4 := Nat.mul_le_mul (by omega) (Nat.le_refl _)
          omega
        have hb1 : 1 ≤ k + j * 4 := by omega
        have hall : j * 4 + 4 ≤ cap * 4 := by
          have : (j + 1) * 4 ≤ cap * 4 := Nat.mul_le_mul (by omega) (Nat.le_refl _)
          omega
        have hC := fillC_of hf
        clear hf
        generalize k + j * 4 = m at *
        generalize hall0 : cap * 4 = all at *
        replace hall0 := Lib.hid hall0
        obtain ⟨u0, e0⟩ := hC.cell (j := j * 4) (by omega)
        have f0 := hC.frozen (j * 4)
        replace hC := hC.put (by omega) (.int .i64 ((m : Int)))
        replace hgw := grown_set hgw (j * 4) (.int .i64 ((m : Int)))
        replace hC := Lib.hid hC
        replace hgw := Lib.hid hgw
        have hcall := MarkText.mark_any (m + 1) (by omega) (by omega)
        rw [show ((m + 1 : Nat) : Int) = (m : Int) + 1 by omega] at hcall
        replace hcall := Lib.hid hcall
        go_wp2_with fail
        refine (hcall.out _).mono ?_
        rintro e w3 ⟨rfl, hb3⟩
        replace hC := hC.out.below hb3
        replace hgw := grown_below hgw.out hb3
        clear hcall hb3 e0 f0
        obtain ⟨u1, e1⟩ := hC.cell (j := j * 4 + 1) (by omega)
        have f1 := hC.frozen (j * 4 + 1)
        obtain ⟨u2, e2⟩ := hC.cell (j := j * 4 + 2) (by omega)
        have f2 := hC.frozen (j * 4 + 2)
        obtain ⟨u3, e3⟩ := hC.cell (j := j * 4 + 3) (by omega)
        have f3 := hC.frozen (j * 4 + 3)
        replace hC := hC.put (by omega) (.string (MarkText.mt (m + 1)))
        replace hgw := grown_set hgw (j * 4 + 1) (.string (MarkText.mt (m + 1)))
        replace hC := hC.put (by omega) (.int .i64 ((m : Int) + 1 + 1))
        replace hgw := grown_set hgw (j * 4 + 2) (.int .i64 ((m : Int) + 1 + 1))
        replace hC := hC.put (by omega) (.bool (((m : Int) + 1 + 1 + 1) % 3 == 0))
        replace hgw := grown_set hgw (j * 4 + 3) (.bool (((m : Int) + 1 + 1 + 1) % 3 == 0))
        replace hC := Lib.hid hC
        replace hgw := Lib.hid hgw
        go_wp2
        refine ⟨⟨j + 1, by omega, by go_num, by rw [hnum.out], ?_, hgw.out⟩, by simp [intOf]; omega⟩
        unfold signs
        rw [hsn.out, List.flatMap_append, List.flatMap_singleton]
        have h := hC.out
        rw [← hall0.out] at h
        have h2 := fill_of h (k := j + 1) (by omega) (by omega)
        simpa [mk, Sign.cells] using h2
      · obtain rfl : j = n := by omega
        have hd := Lib.hid (owns_of_fill hf hg hnc hcm)
        go_wp2
        go_ret
        exact ⟨rfl, hd.out, hgw⟩
end Go.Proofs.YtklhfjeonhjobaaDoor.MarkSigns
