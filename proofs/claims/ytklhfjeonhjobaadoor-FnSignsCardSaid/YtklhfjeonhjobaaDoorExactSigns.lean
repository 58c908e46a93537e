/-
  The contract of laws.sameExact: two equal lists of signs.
  Conditions: the slices read as the same list of signs.
-/
import Derived.Test.YtklhfjeonhjobaaDoorSign
namespace Go.Proofs.YtklhfjeonhjobaaDoor.Sign
open Go.RowKit Go.Proofs.YtklhfjeonhjobaaDoor.Row Go.Proofs.YtklhfjeonhjobaaDoor.Mem Go.Proofs.YtklhfjeonhjobaaDoor.Mix Go.Proofs.YtklhfjeonhjobaaDoor.Recs
set_option maxRecDepth 100000 in
set_option maxHeartbeats 1600000 in
theorem exact_any {v1 v2 : Value} {xs : List Sign} {w : World} (h1 : Row w v1 4 xs.length (signs xs)) (h2 : Row w v2 4 xs.length (signs xs)) :
    Calls Tryd.prog 52 #[v1, v2] w fun e w' => e = .returned (.bool true) ∧ Below w.heap.size w w' := by
  obtain ⟨A, c, rfl, -, hn, hnc, hcm, ha⟩ := h1
  obtain ⟨A2, c2, rfl, -, hn2, hnc2, hcm2, ha2⟩ := h2
  have d3 : ((xs.length : Int) != (xs.length : Int)) = false := by simp
  go_enter Tryd.func52, Tryd.ntmps52
  go_wp2
  go_loopw [5] (fun i wr => ∃ k : Nat, k ≤ xs.length ∧ i = .int .i64 k ∧ (∃ n, wr = w.drewN n)) (fun i _ => xs.length - (intOf i).toNat)
  case atStart => exact ⟨0, by omega, rfl, ⟨0, rfl⟩⟩
  case round =>
    obtain ⟨k, hk, rfl, ⟨nd, rfl⟩⟩ := hrel
    by_cases hlt : k < xs.length
    · obtain ⟨b, off, rfl, hb, hc⟩ := ha (by omega)
      obtain ⟨b2, off2, rfl, hb2, hc2⟩ := ha2 (by omega)
      obtain ⟨p0, p1, p2, p3⟩ := cells4 hc hlt
      obtain ⟨q0, q1, q2, q3⟩ := cells4 hc2 hlt
      generalize xs[k] = x at *
      clear hc hc2 ha ha2
      have i0 : (0 : Int) ≤ (k : Int) := by omega
      have i1 : (k : Int) < (xs.length : Int) := by omega
      go_wp2
      go_quiet (fail)
      go_wp2
      go_roundw
      case rel => exact ⟨k + 1, by omega, by go_num, ⟨_, rfl⟩⟩
      case measure => simp [intOf]; omega
    · have d4 : decide ((k : Int) < (xs.length : Int)) = false := by simp; omega
      go_wp2
      go_ret
      exact ⟨rfl, to_drewN _ _ _⟩
end Go.Proofs.YtklhfjeonhjobaaDoor.Sign
