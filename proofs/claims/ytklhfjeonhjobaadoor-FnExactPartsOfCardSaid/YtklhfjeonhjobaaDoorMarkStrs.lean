/-
  The contracts of laws.markStringS and heldStringS: a slice of the call's own is written over with marks; the marks are read.
  Conditions: the marks' numbers from 1 to 2^40.
-/
import Derived.Test.YtklhfjeonhjobaaDoorMarkText
import Derived.Test.YtklhfjeonhjobaaDoorStrs
import Derived.Test.YtklhfjeonhjobaaDoorOwns
namespace Go.Proofs.YtklhfjeonhjobaaDoor.MarkStrs
open Go.RowKit Go.Proofs.YtklhfjeonhjobaaDoor.Row Go.Proofs.YtklhfjeonhjobaaDoor.Mem Go.Proofs.YtklhfjeonhjobaaDoor.Mix Go.Proofs.YtklhfjeonhjobaaDoor.Strs Go.Proofs.YtklhfjeonhjobaaDoor.Owns Go.Proofs.YtklhfjeonhjobaaDoor.MarkText
def marks (k n : Nat) : List ByteArray := (List.range n).map fun j => mt (k + j)
theorem marks_succ (k n : Nat) : marks k (n + 1) = marks k n ++ [mt (k + n)] := by simp [marks, List.range_succ]
theorem marks_len (k n : Nat) : (marks k n).length = n := by simp [marks]
theorem marks_get (k n j : Nat) (h : j < n) : (strs (marks k n))[j]? = some (.string (mt (k + j))) := by simp [marks, h]
set_option maxRecDepth 100000 in
set_option maxHeartbeats 800000 in
theorem mark_any {v : Value} {n base k : Nat} {us : List Value} {w : World} (h : w.ownsRow base 9 1 v n us) (h1 : 1 ≤ k) (hk : k + n ≤ 1099511627776) :
    Calls Tryd.prog 17 #[v, .int .i64 k] w fun e w' => e = .returned (.int .i64 ((k + n : Nat) : Int)) ∧ w'.ownsRow base 9 1 v n (strs (marks k n)) ∧ w.grownBy w' v.ownBlock := by
  rcases owns_fill h with ⟨rfl, rfl, rfl⟩ | ⟨g, cap, rfl, hg, hnc, hcm, hf0⟩
  · have e0 : Hid (k + 0 = k) := Lib.hid (by omega)
    go_enter Tryd.func17, Tryd.ntmps17
    go_wp2
    go_loopw [1, 5] (fun q i wr => q = .int .i64 k ∧ i = .int .i64 0 ∧ wr = w) (fun i _ _ => 0)
    case atStart => exact ⟨rfl, rfl, rfl⟩
    case round =>
      obtain ⟨rfl, rfl, rfl⟩ := hrel
      go_wp2
      go_ret
      exact ⟨by rw [e0.out]; rfl, h, World.grownBy.refl _ _⟩
  · clear h
    go_enter Tryd.func17, Tryd.ntmps17
    go_wp2
    go_loopw [1, 5] (fun q i wr => ∃ j : Nat, j ≤ n ∧ i = .int .i64 j ∧ q = .int .i64 ((k + j : Nat) : Int) ∧ Fill wr g 9 1 cap j (strs (marks k j)) ∧ w.grownBy wr (some g)) (fun _ i _ => n - (intOf i).toNat)
    case atStart => exact ⟨0, by omega, rfl, by simp, hf0, World.grownBy.refl _ _⟩
    case round =>
      obtain ⟨j, hj, rfl, rfl, hf, hgw⟩ := hrel
      by_cases hlt : j < n
      · have hjc : j < cap := by omega
        have hsn := Lib.hid (marks_succ k j)
        have hnum := Lib.hid (show ((k + (j + 1) : Nat) : Int) = ((k + j : Nat) : Int) + 1 by omega)
        have hm1 : 1 ≤ k + j := by omega
        have hm2 : k + j ≤ 1099511627776 := by omega
        generalize k + j = m at *
        replace hf := Lib.hid hf
        replace hgw := Lib.hid hgw
        go_wp2_with fail
        refine (MarkText.mark_any m hm1 hm2 _).mono ?_
        rintro e w2 ⟨rfl, hb2⟩
        have hf2 := hf.out.below hb2
        have hgw2 := grown_below hgw.out hb2
        obtain ⟨u0, e0⟩ := hf2.cell (j := j) (by omega)
        have f0 := hf2.frozen j
        have hst := Lib.hid (hf2.put hjc [.string (mt m)] rfl)
        have hwb := Lib.hid (grown_setAll (g := g) [.string (mt m)] (j * 1) hgw2)
        clear hf hgw hf2 hgw2 hb2
        go_wp2
        refine ⟨⟨j + 1, by omega, by go_num, by rw [hnum.out], ?_, ?_⟩, by simp [intOf]; omega⟩
        · have h := hst.out
          rw [Nat.mul_one] at h
          rw [hsn.out]
          unfold strs at h ⊢
          rw [List.map_append]
          exact h
        · have h := hwb.out
          rw [Nat.mul_one] at h
          exact h
      · obtain rfl : j = n := by omega
        have hd := Lib.hid (owns_of_fill hf hg hnc hcm)
        go_wp2
        go_ret
        exact ⟨rfl, hd.out, hgw⟩
set_option maxRecDepth 100000 in
set_option maxHeartbeats 800000 in
theorem held_any {v : Value} {n k : Nat} {w : World} (h : Row w v 1 n (strs (marks k n))) (h1 : 1 ≤ k) (hk : k + n ≤ 1099511627776) :
    Calls Tryd.prog 18 #[v, .int .i64 k] w fun e w' => e = .returned (.int .i64 ((k + n : Nat) : Int)) ∧ Below w.heap.size w w' := by
  obtain ⟨A, c, rfl, -, hn, hnc, hcm, ha⟩ := h
  go_enter Tryd.func18, Tryd.ntmps18
  go_wp2
  go_loopw [1, 5] (fun q i wr => ∃ j : Nat, j ≤ n ∧ i = .int .i64 j ∧ q = .int .i64 ((k + j : Nat) : Int) ∧ Below w.heap.size w wr) (fun _ i _ => n - (intOf i).toNat)
  case atStart => exact ⟨0, by omega, rfl, by simp, Below.refl _ _⟩
  case round =>
    obtain ⟨j, hj, rfl, rfl, hbw⟩ := hrel
    by_cases hlt : j < n
    · obtain ⟨b, off, rfl, hb, hc⟩ := ha (by omega)
      have c0 := (cells_of hbw b (off + j) hb).trans (hc j _ (marks_get k n j hlt))
      have hnum := Lib.hid (show ((k + (j + 1) : Nat) : Int) = ((k + j : Nat) : Int) + 1 by omega)
      have hm1 : 1 ≤ k + j := by omega
      have hm2 : k + j ≤ 1099511627776 := by omega
      generalize k + j = m at *
      have i0 : (0 : Int) ≤ (j : Int) := by omega
      have i1 : (j : Int) < (n : Int) := by omega
      have z1 := Nat.lt_of_lt_of_le hb hbw.size
      have d1 : ((mt m).toList != (mt m).toList) = false := by simp
      clear hc ha
      go_wp2
      refine wp_region_below [(0, true), (1, true), (2, true), (3, true), (4, true), (5, false), (6, false)] (by kernel_rfl) (by kernel_rfl) (fun d _ _ _ _ h => by cases d <;> exact h) ?_
      repeat
       (refine mix_still rfl (by rfl) ?_
        apply Exists.intro
        refine ⟨fun w' hS => ?_, ?_⟩
        · (have hS' := cells_of hS; clear hS; go_simp; (try go_bits); first | with_reducible rfl | (refine (if_pos ?_).trans ?_; omega; with_reducible rfl))
        (go_simp; (try go_bits)))
      refine mix_loud rfl (fun K hK => ?_)
      (go_simp; (try go_bits))
      refine (MarkText.mark_any m hm1 hm2 _).mono ?_
      rintro _ w1 ⟨rfl, hb1⟩
      replace hb1 := of_drew hb1
      refine hK _ _ (fun _ => hb1) ?_
      clear hK K
      (go_simp; (try go_bits))
      refine mix_loud rfl (fun K hK => ?_)
      (go_simp; (try go_bits))
      refine hK _ _ (no_need (by kernel_rfl)) ?_
      clear hK K
      try (go_simp; (try go_bits))
      refine mix_nil ?_
      have hbx := hbw.trans (hb1.mono hbw.size)
      clear c0
      go_wp2
      go_roundw
      case rel => exact ⟨j + 1, by omega, by go_num, by rw [hnum.out], hbx⟩
      case measure => simp [intOf]; omega
    · obtain rfl : j = n := by omega
      go_wp2
      go_ret
      exact ⟨rfl, hbw⟩
end Go.Proofs.YtklhfjeonhjobaaDoor.MarkStrs
