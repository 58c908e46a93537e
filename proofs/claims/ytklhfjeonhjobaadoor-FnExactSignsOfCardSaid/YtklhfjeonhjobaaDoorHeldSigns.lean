/-
  The contract of laws.heldSignS: marked signs hold their marks.
  Conditions: the marks' numbers from 1 to 2^40.
-/
import Derived.Test.YtklhfjeonhjobaaDoorMarkSigns
namespace Go.Proofs.YtklhfjeonhjobaaDoor.MarkSigns
open Go.RowKit Go.Proofs.YtklhfjeonhjobaaDoor.Row Go.Proofs.YtklhfjeonhjobaaDoor.Mem Go.Proofs.YtklhfjeonhjobaaDoor.Mix Go.Proofs.YtklhfjeonhjobaaDoor.Recs Go.Proofs.YtklhfjeonhjobaaDoor.Owns Go.Proofs.YtklhfjeonhjobaaDoor.Sign
theorem mks_get (k n j : Nat) (h : j < n) : (mks k n)[j]'(by rw [mks_len]; exact h) = mk (k + j * 4) := by simp [mks]
set_option maxRecDepth 100000 in
set_option maxHeartbeats 1600000 in
theorem held_any {v : Value} {n k : Nat} {w : World} (h : Row w v 4 n (signs (mks k n))) (h1 : 1 ≤ k) (hk : k + n * 4 ≤ 1099511627776) :
    Calls Tryd.prog 44 #[v, .int .i64 k] w fun e w' => e = .returned (.int .i64 ((k + n * 4 : Nat) : Int)) ∧ Below w.heap.size w w' := by
  obtain ⟨A, c, rfl, -, hn, hnc, hcm, ha⟩ := h
  go_enter Tryd.func44, Tryd.ntmps44
  go_wp2
  go_loopw [1, 5] (fun q i wr => ∃ j : Nat, j ≤ n ∧ i = .int .i64 j ∧ q = .int .i64 ((k + j * 4 : Nat) : Int) ∧ Below w.heap.size w wr) (fun _ i _ => n - (intOf i).toNat)
  case atStart => exact ⟨0, by omega, rfl, by simp, Below.refl _ _⟩
  case round =>
    obtain ⟨j, hj, rfl, rfl, hbw⟩ := hrel
    by_cases hlt : j < n
    · obtain ⟨b, off, rfl, hb, hc⟩ := ha (by omega)
      obtain ⟨c0, c1, c2, c3⟩ := cells4 (xs := mks k n) (fun q u hu => (cells_of hbw b _ hb).trans (hc q u hu)) (show j < (mks k n).length by rw [mks_len]; exact hlt)
      rw [mks_get k n j hlt] at c0 c1 c2 c3
      have hnum := Lib.hid (show ((k + (j + 1) * 4 : Nat) : Int) = ((k + j * 4 : Nat) : Int) + 1 + 1 + 1 + 1 by omega)
      have hm1 : 1 ≤ k + j * 4 := by omega
      have hm2 : k + j * 4 + 4 ≤ 1099511627776 := by
        have : (j + 1) * 4 ≤ n * 4 := Nat.mul_le_mul (by omega) (Nat.le_refl _)
        omega
      generalize k + j * 4 = m at *
      unfold mk at c0 c1 c2 c3
      dsimp only at c0 c1 c2 c3
      have hcall := MarkText.mark_any (m + 1) (by omega) (by omega)
      rw [show ((m + 1 : Nat) : Int) = (m : Int) + 1 by omega] at hcall
      replace hcall := Lib.hid hcall
      have i0 : (0 : Int) ≤ (j : Int) := by omega
      have i1 : (j : Int) < (n : Int) := by omega
      have z1 := Nat.lt_of_lt_of_le hb hbw.size
      have d0 : ((m : Int) != (m : Int)) = false := by simp
      have d1 : ((MarkText.mt (m + 1)).toList != (MarkText.mt (m + 1)).toList) = false := by simp
      have d2 : (((m : Int) + 1 + 1) != ((m : Int) + 1 + 1)) = false := by simp
      clear hc ha
      go_wp2
      refine wp_region_below [(0, true), (1, true), (2, true), (3, true), (4, true), (5, true), (6, false), (7, false)] (by kernel_rfl) (by kernel_rfl) (fun d _ _ _ _ h => by cases d <;> exact h) ?_
      repeat
       (refine mix_still rfl (by rfl) ?_
        apply Exists.intro
        refine ⟨fun w' hS => ?_, ?_⟩
        · (have hS' := cells_of hS; clear hS; go_simp; (try go_bits); first | with_reducible rfl | (refine (if_pos ?_).trans ?_; omega; with_reducible rfl))
        (go_simp; (try go_bits)))
      refine mix_loud rfl (fun K hK => ?_)
      (go_simp; (try go_bits))
      refine (hcall.out _).mono ?_
      rintro _ w1 ⟨rfl, hb1⟩
      replace hb1 := of_drew hb1
      refine hK _ _ (fun _ => hb1) ?_
      clear hK K
      (go_simp; (try go_bits))
      refine mix_loud rfl (fun K hK => ?_)
      (go_simp; (try go_bits))
      refine hK _ _ (no_need (by kernel_rfl)) ?_
      clear hK K
      try (go_simp; (try go_bits))
      refine mix_nil ?_
      have hbx := hbw.trans (hb1.mono hbw.size)
      have e2 := (hb1.cell (p := ⟨b, off + j * 4 + 2, none⟩) z1).trans c2
      have e3 := (hb1.cell (p := ⟨b, off + j * 4 + 3, none⟩) z1).trans c3
      clear c0 c1 c2 c3
      generalize hq : (((m : Int) + 1 + 1 + 1) % 3 == 0) = qb at *
      have d3 : (qb != qb) = false := by simp
      go_wp2
      go_roundw
      case rel => exact ⟨j + 1, by omega, by go_num, by rw [hnum.out], hbx⟩
      case measure => simp [intOf]; omega
    · obtain rfl : j = n := by omega
      go_wp2
      go_ret
      exact ⟨rfl, hbw⟩
end Go.Proofs.YtklhfjeonhjobaaDoor.MarkSigns
