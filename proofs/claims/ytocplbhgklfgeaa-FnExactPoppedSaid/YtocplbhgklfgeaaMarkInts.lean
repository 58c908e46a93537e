/-
  The contracts of laws.markIntS and heldIntS: a slice of the call's own is written over with marks; the marks are read.
  Conditions: the marks' numbers up to 2^40.
-/
import Derived.Test.YtocplbhgklfgeaaInts
import Derived.Test.YtocplbhgklfgeaaOwns
namespace Go.Proofs.Ytocplbhgklfgeaa.MarkInts
open Go.RowKit Go.Proofs.Ytocplbhgklfgeaa.Row Go.Proofs.Ytocplbhgklfgeaa.Mem Go.Proofs.Ytocplbhgklfgeaa.Mix Go.Proofs.Ytocplbhgklfgeaa.Ints Go.Proofs.Ytocplbhgklfgeaa.Owns
def marks (k n : Nat) : List Int := (List.range n).map fun j => ((k + j : Nat) : Int)
theorem marks_succ (k n : Nat) : marks k (n + 1) = marks k n ++ [((k + n : Nat) : Int)] := by simp [marks, List.range_succ]
theorem marks_len (k n : Nat) : (marks k n).length = n := by simp [marks]
theorem marks_get (k n j : Nat) (h : j < n) : (ints (marks k n))[j]? = some (.int .i64 ((k + j : Nat) : Int)) := by simp [marks, h]
set_option maxRecDepth 100000 in
set_option maxHeartbeats 800000 in
theorem mark_any {v : Value} {n base k : Nat} {us : List Value} {w : World} (h : w.ownsRow base 3 1 v n us) (hk : k + n ≤ 1099511627776) :
    Calls Try.prog 27 #[v, .int .i64 k] w fun e w' => e = .returned (.int .i64 ((k + n : Nat) : Int)) ∧ w'.ownsRow base 3 1 v n (ints (marks k n)) ∧ w.grownBy w' v.ownBlock := by
  rcases owns_fill h with ⟨rfl, rfl, rfl⟩ | ⟨g, cap, rfl, hg, hnc, hcm, hf0⟩
  · have e0 : Hid (k + 0 = k) := Lib.hid (by omega)
    go_enter Try.func27, Try.ntmps27
    go_wp2
    go_loopw [1, 5] (fun q i wr => q = .int .i64 k ∧ i = .int .i64 0 ∧ wr = w) (fun i _ _ => 0)
    case atStart => exact ⟨rfl, rfl, rfl⟩
    case round =>
      obtain ⟨rfl, rfl, rfl⟩ := hrel
      go_wp2
      go_ret
      exact ⟨by rw [e0.out]; rfl, h, World.grownBy.refl _ _⟩
  · clear h
    go_enter Try.func27, Try.ntmps27
    go_wp2
    go_loopw [1, 5] (fun q i wr => ∃ j : Nat, j ≤ n ∧ i = .int .i64 j ∧ q = .int .i64 ((k + j : Nat) : Int) ∧ Fill wr g 3 1 cap j (ints (marks k j)) ∧ w.grownBy wr (some g)) (fun _ i _ => n - (intOf i).toNat)
    case atStart => exact ⟨0, by omega, rfl, by simp, hf0, World.grownBy.refl _ _⟩
    case round =>
      obtain ⟨j, hj, rfl, rfl, hf, hgw⟩ := hrel
      by_cases hlt : j < n
      · have hjc : j < cap := by omega
        have hsn := Lib.hid (marks_succ k j)
        have hnum := Lib.hid (show ((k + (j + 1) : Nat) : Int) = ((k + j : Nat) : Int) + 1 by omega)
        have hm2 : k + j ≤ 1099511627776 := by omega
        generalize k + j = m at *
        obtain ⟨u0, e0⟩ := hf.cell (j := j) (by omega)
        have f0 := hf.frozen j
        have hst := Lib.hid (hf.put hjc [.int .i64 (m : Int)] rfl)
        have hwb := Lib.hid (grown_setAll (g := g) [.int .i64 (m : Int)] (j * 1) hgw)
        clear hf hgw
        go_wp2
        refine ⟨⟨j + 1, by omega, by go_num, by rw [hnum.out], ?_, ?_⟩, by simp [intOf]; omega⟩
        · have h := hst.out
          rw [Nat.mul_one] at h
          rw [hsn.out]
          unfold ints at h ⊢
          rw [List.map_append]
          exact h
        · have h := hwb.out
          rw [Nat.mul_one] at h
          exact h
      · obtain rfl : j = n := by omega
        have hd := Lib.hid (owns_of_fill hf hg hnc hcm)
        go_wp2
        go_ret
        exact ⟨rfl, hd.out, hgw⟩
set_option maxRecDepth 100000 in
set_option maxHeartbeats 800000 in
theorem held_any {v : Value} {n k : Nat} {w : World} (h : Row w v 1 n (ints (marks k n))) (hk : k + n ≤ 1099511627776) :
    Calls Try.prog 28 #[v, .int .i64 k] w fun e w' => e = .returned (.int .i64 ((k + n : Nat) : Int)) ∧ Below w.heap.size w w' := by
  obtain ⟨A, c, rfl, -, hn, hnc, hcm, ha⟩ := h
  go_enter Try.func28, Try.ntmps28
  go_wp2
  go_loopw [1, 5] (fun q i wr => ∃ j : Nat, j ≤ n ∧ i = .int .i64 j ∧ q = .int .i64 ((k + j : Nat) : Int) ∧ (∃ n, wr = w.drewN n)) (fun _ i _ => n - (intOf i).toNat)
  case atStart => exact ⟨0, by omega, rfl, by simp, ⟨0, rfl⟩⟩
  case round =>
    obtain ⟨j, hj, rfl, rfl, ⟨nd, rfl⟩⟩ := hrel
    by_cases hlt : j < n
    · obtain ⟨b, off, rfl, hb, hc⟩ := ha (by omega)
      have c0 := hc j _ (marks_get k n j hlt)
      have hnum := Lib.hid (show ((k + (j + 1) : Nat) : Int) = ((k + j : Nat) : Int) + 1 by omega)
      have hm2 : k + j ≤ 1099511627776 := by omega
      generalize k + j = m at *
      have i0 : (0 : Int) ≤ (j : Int) := by omega
      have i1 : (j : Int) < (n : Int) := by omega
      have d1 : ((m : Int) != (m : Int)) = false := by simp
      clear hc ha
      go_wp2
      first
        | (go_roundw
           case rel => exact ⟨j + 1, by omega, by go_num, by rw [hnum.out], ⟨_, rfl⟩⟩
           case measure => simp [intOf]; omega)
        | (go_quiet (fail)
           go_wp2
           go_roundw
           case rel => exact ⟨j + 1, by omega, by go_num, by rw [hnum.out], ⟨_, rfl⟩⟩
           case measure => simp [intOf]; omega)
    · obtain rfl : j = n := by omega
      go_wp2
      go_ret
      exact ⟨rfl, to_drewN _ _ _⟩
end Go.Proofs.Ytocplbhgklfgeaa.MarkInts
