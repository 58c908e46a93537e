/-
  The contracts of laws.toIntS, eqIntS, szIntS, markIntS and heldIntS.
  Conditions: the slices read as lists of numbers.
-/
import Derived.Test.YtlakellmdcdaaaaChecked
import Derived.Test.YtlakellmdcdaaaaRow
import Derived.Test.YtlakellmdcdaaaaMem
import Derived.Test.YtlakellmdcdaaaaMix
import Derived.WalkKit
import Derived.ProofKit
import Derived.WalkLawsBesides
import Derived.WalkSpells
import Derived.Lib.Hide
import Derived.Deep.QuietTactic
import Derived.BigQuiet
namespace Go.Proofs.Ytlakellmdcdaaaa.Ints
open Go.RowKit Go.Proofs.Ytlakellmdcdaaaa.Row Go.Proofs.Ytlakellmdcdaaaa.Mem Go.Proofs.Ytlakellmdcdaaaa.Mix
theorem EI : Elem Try.prog 39 3 (.int .i64 0) 1 8 := ⟨Try.underlying39, by kernel_rfl, rfl, by omega⟩
abbrev ints (xs : List Int) : List Value := xs.map (Value.int .i64)
set_option maxHeartbeats 800000 in
theorem to_any {v : Value} {xs : List Int} {w : World} (h1 : Row w v 1 xs.length (ints xs)) (hb8 : xs.length * 8 ≤ 140737488355328) :
    Calls Try.prog 21 #[v] w fun e w' => e = .returned (.slice (some ⟨w.heap.size, 0, none⟩) xs.length xs.length) ∧
      Own w' (.slice (some ⟨w.heap.size, 0, none⟩) xs.length xs.length) 3 1 w.heap.size xs.length (ints xs) ∧ Below w.heap.size w w' := by
  obtain ⟨A, c, rfl, -, hn, hnc, hcm, ha⟩ := h1
  have hmk : ∀ W, (Instr.makeSlice 39 (.int .i64 (xs.length : Int)) (.int .i64 (xs.length : Int))).run Try.prog W = .ok (.slice (some ⟨W.heap.size, 0, none⟩) xs.length xs.length) (W.alloc (.cells (madeCells #[.int .i64 0] (xs.length * 1)) 3)) := fun W =>
    make_run EI xs.length xs.length (by omega) (by omega) (by simp only [maxLen]; omega) W
  go_enter Try.func21, Try.ntmps21
  go_wp2
  go_loopw [4] (fun i wr => ∃ k : Nat, k ≤ xs.length ∧ i = .int .i64 k ∧ Fill wr w.heap.size 3 1 xs.length k (ints (xs.take k)) ∧ Below w.heap.size w wr) (fun i _ => xs.length - (intOf i).toNat)
  case atStart => exact ⟨0, by omega, rfl, Fill.made w _ (by simp [madeCells]), (Below.refl _ _).alloc (Nat.le_refl _) _⟩
  case round =>
    obtain ⟨k, hk, rfl, hf, hbw⟩ := hrel
    by_cases hlt : k < xs.length
    · obtain ⟨b, off, rfl, hb, hc⟩ := ha (by omega)
      have c1 := (cells_of hbw b (off + k) hb).trans (hc k _ (at_one hlt .i64))
      obtain ⟨u, c2⟩ := hf.cell (j := k) (by omega)
      have c3 := hf.frozen k
      have hst := Lib.hid (hf.put hlt [.int .i64 xs[k]] rfl)
      clear hc
      go_wp2
      refine ⟨⟨k + 1, by omega, by go_num, ?_, hbw.setCell (Nat.le_refl _) _⟩, by simp [intOf]; omega⟩
      have h := hst.out
      rw [Nat.mul_one] at h
      rw [List.take_succ_eq_append_getElem hlt]
      unfold ints at h ⊢
      rw [List.map_append]
      exact h
    · obtain rfl : k = xs.length := by omega
      have hd := hf.done (by omega)
      rw [List.take_length] at hd
      replace hd := Lib.hid hd
      go_wp2
      go_ret
      exact ⟨rfl, hd.out, hbw⟩
set_option maxHeartbeats 800000 in
theorem eq_any {v1 v2 : Value} {xs ys : List Int} {w : World} (h1 : Row w v1 1 xs.length (ints xs)) (h2 : Row w v2 1 ys.length (ints ys)) :
    Calls Try.prog 23 #[v1, v2] w fun e w' => e = .returned (.bool (xs == ys)) ∧ Below w.heap.size w w' := by
  obtain ⟨A, c, rfl, -, hn, hnc, hcm, ha⟩ := h1
  obtain ⟨A2, c2, rfl, -, hn2, hnc2, hcm2, ha2⟩ := h2
  by_cases hl : xs.length = ys.length
  · have d1 : (xs.length == ys.length) = true := by simpa using hl
    have d2 : (xs.length != ys.length) = false := by simpa using hl
    have d3 : ((xs.length : Int) != (ys.length : Int)) = false := by simp; omega
    have hle : xs.length ≤ ys.length := by omega
    have hge : ys.length ≤ xs.length := by omega
    replace hl := Lib.hid hl
    go_enter Try.func23, Try.ntmps23
    go_wp2
    go_loopw [5] (fun i wr => ∃ k : Nat, k ≤ xs.length ∧ i = .int .i64 k ∧ (∃ n, wr = w.drewN n) ∧ Hid (xs.take k = ys.take k)) (fun i _ => xs.length - (intOf i).toNat)
    case atStart => exact ⟨0, by omega, rfl, ⟨0, rfl⟩, Lib.hid (by simp)⟩
    case round =>
      obtain ⟨k, hk, rfl, ⟨nd, rfl⟩, hr⟩ := hrel
      by_cases hlt : k < xs.length
      · have hlt2 : k < ys.length := by omega
        obtain ⟨b, off, rfl, hb, hc⟩ := ha (by omega)
        obtain ⟨b2, off2, rfl, hb2, hc2⟩ := ha2 (by omega)
        have c1 := hc k _ (at_one hlt .i64)
        have c2 := hc2 k _ (at_one hlt2 .i64)
        clear hc hc2
        have i0 : (0 : Int) ≤ (k : Int) := by omega
        have i1 : (k : Int) < (xs.length : Int) := by omega
        have i2 : (k : Int) < (ys.length : Int) := by omega
        by_cases h : xs[k] = ys[k]
        · have e1 : (xs[k] == ys[k]) = true := by simpa using h
          have e2 : (xs[k] != ys[k]) = false := by simpa using h
          have hon := Lib.hid (show xs.take (k + 1) = ys.take (k + 1) by rw [List.take_succ_eq_append_getElem hlt, List.take_succ_eq_append_getElem hlt2, hr.out, h])
          replace h := Lib.hid h
          go_wp2
          go_quiet (fail)
          go_wp2
          go_roundw
          case rel => exact ⟨k + 1, by omega, by go_num, ⟨_, rfl⟩, hon⟩
          case measure => simp [intOf]; omega
        · have e1 : (xs[k] == ys[k]) = false := by simpa using h
          have e2 : (xs[k] != ys[k]) = true := by simpa using h
          have hne := Lib.hid (show (xs == ys) = false by rw [beq_eq_false_iff_ne]; intro he; subst he; exact h rfl)
          go_wp2
          go_quiet (fail)
          go_wp2
          go_ret
          exact ⟨by rw [hne.out]; rfl, by first | exact to_drewN _ _ _ | (simp only [World.drewN_drewN]; exact to_drewN _ _ _)⟩
      · have hyes := Lib.hid (show (xs == ys) = true by
          have := hr.out
          rw [List.take_of_length_le (by omega), List.take_of_length_le (by omega)] at this
          simpa using this)
        go_wp2
        go_ret
        exact ⟨by rw [hyes.out]; rfl, to_drewN _ _ _⟩
  · have d1 : (xs.length == ys.length) = false := by simpa using hl
    have d2 : (xs.length != ys.length) = true := by simpa using hl
    have d3 : ((xs.length : Int) != (ys.length : Int)) = true := by simp; omega
    have hne := Lib.hid (show (xs == ys) = false by rw [beq_eq_false_iff_ne]; intro he; subst he; exact hl rfl)
    replace hl := Lib.hid hl
    go_enter Try.func23, Try.ntmps23
    go_wp2
    go_ret
    exact ⟨by rw [hne.out]; rfl, Below.refl _ _⟩
end Go.Proofs.Ytlakellmdcdaaaa.Ints
