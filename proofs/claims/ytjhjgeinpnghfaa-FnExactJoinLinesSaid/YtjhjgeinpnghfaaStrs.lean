/-
  The contracts of laws.toStringS, eqStringS and szStringS.
  Conditions: the slices read as lists of texts.
-/
import Derived.Test.YtjhjgeinpnghfaaChecked
import Derived.Test.YtjhjgeinpnghfaaRow
import Derived.Test.YtjhjgeinpnghfaaMem
import Derived.Test.YtjhjgeinpnghfaaMix
import Derived.WalkKit
import Derived.ProofKit
import Derived.WalkLawsBesides
import Derived.WalkSpells
import Derived.Lib.Hide
import Derived.Deep.QuietTactic
import Derived.BigQuiet
namespace Go.Proofs.Ytjhjgeinpnghfaa.Strs
open Go.RowKit Go.Proofs.Ytjhjgeinpnghfaa.Row Go.Proofs.Ytjhjgeinpnghfaa.Mem Go.Proofs.Ytjhjgeinpnghfaa.Mix
theorem ES : Elem Try.prog 34 9 (.string ByteArray.empty) 1 16 := ⟨Try.underlying34, by kernel_rfl, rfl, by omega⟩
abbrev strs (xs : List ByteArray) : List Value := xs.map Value.string
theorem at_str {xs : List ByteArray} {k : Nat} (h : k < xs.length) : (strs xs)[k]? = some (.string xs[k]) := by simp [h]
theorem toList_inj {a b : ByteArray} (h : a.toList = b.toList) : a = b := by
  rw [ByteArray.toList_eq, ByteArray.toList_eq] at h
  cases a; cases b
  simp at h
  rw [h]
theorem toList_iff {a b : ByteArray} : a.toList = b.toList ↔ a = b := ⟨toList_inj, fun h => by rw [h]⟩
theorem eq_bytes (s t : ByteArray) : (s.toList == t.toList) = decide (s = t) := by
  by_cases h : s = t
  · subst h; simp
  · rw [decide_eq_false h, beq_eq_false_iff_ne]
    exact fun e => h (toList_inj e)
set_option maxHeartbeats 800000 in
theorem to_any {v : Value} {xs : List ByteArray} {w : World} (h1 : Row w v 1 xs.length (strs xs)) (hb8 : xs.length * 16 ≤ 140737488355328) :
    Calls Try.prog 35 #[v] w fun e w' => e = .returned (.slice (some ⟨w.heap.size, 0, none⟩) xs.length xs.length) ∧
      Own w' (.slice (some ⟨w.heap.size, 0, none⟩) xs.length xs.length) 9 1 w.heap.size xs.length (strs xs) ∧ Below w.heap.size w w' := by
  obtain ⟨A, c, rfl, -, hn, hnc, hcm, ha⟩ := h1
  have hmk : ∀ W, (Instr.makeSlice 34 (.int .i64 (xs.length : Int)) (.int .i64 (xs.length : Int))).run Try.prog W = .ok (.slice (some ⟨W.heap.size, 0, none⟩) xs.length xs.length) (W.alloc (.cells (madeCells #[.string ByteArray.empty] (xs.length * 1)) 9)) := fun W =>
    make_run ES xs.length xs.length (by omega) (by omega) (by simp only [maxLen]; omega) W
  go_enter Try.func35, Try.ntmps35
  go_wp2
  go_loopw [4] (fun i wr => ∃ k : Nat, k ≤ xs.length ∧ i = .int .i64 k ∧ Fill wr w.heap.size 9 1 xs.length k (strs (xs.take k)) ∧ Below w.heap.size w wr) (fun i _ => xs.length - (intOf i).toNat)
  case atStart => exact ⟨0, by omega, rfl, Fill.made w _ (by simp [madeCells]), (Below.refl _ _).alloc (Nat.le_refl _) _⟩
  case round =>
    obtain ⟨k, hk, rfl, hf, hbw⟩ := hrel
    by_cases hlt : k < xs.length
    · obtain ⟨b, off, rfl, hb, hc⟩ := ha (by omega)
      have c1 := (cells_of hbw b (off + k) hb).trans (hc k _ (at_str hlt))
      obtain ⟨u, c2⟩ := hf.cell (j := k) (by omega)
      have c3 := hf.frozen k
      have hst := Lib.hid (hf.put hlt [.string xs[k]] rfl)
      clear hc
      go_wp2
      refine ⟨⟨k + 1, by omega, by go_num, ?_, hbw.setCell (Nat.le_refl _) _⟩, by simp [intOf]; omega⟩
      have h := hst.out
      rw [Nat.mul_one] at h
      rw [List.take_succ_eq_append_getElem hlt]
      unfold strs at h ⊢
      rw [List.map_append]
      exact h
    · obtain rfl : k = xs.length := by omega
      have hd := hf.done (by omega)
      rw [List.take_length] at hd
      replace hd := Lib.hid hd
      go_wp2
      go_ret
      exact ⟨rfl, hd.out, hbw⟩
set_option maxHeartbeats 800000 in
theorem eq_any {v1 v2 : Value} {xs ys : List ByteArray} {w : World} (h1 : Row w v1 1 xs.length (strs xs)) (h2 : Row w v2 1 ys.length (strs ys)) :
    Calls Try.prog 37 #[v1, v2] w fun e w' => e = .returned (.bool (decide (xs = ys))) ∧ Below w.heap.size w w' := by
  obtain ⟨A, c, rfl, -, hn, hnc, hcm, ha⟩ := h1
  obtain ⟨A2, c2, rfl, -, hn2, hnc2, hcm2, ha2⟩ := h2
  by_cases hl : xs.length = ys.length
  · have d1 : (xs.length == ys.length) = true := by simpa using hl
    have d2 : (xs.length != ys.length) = false := by simpa using hl
    have d3 : ((xs.length : Int) != (ys.length : Int)) = false := by simp; omega
    have hle : xs.length ≤ ys.length := by omega
    have hge : ys.length ≤ xs.length := by omega
    replace hl := Lib.hid hl
    go_enter Try.func37, Try.ntmps37
    go_wp2
    go_loopw [5] (fun i wr => ∃ k : Nat, k ≤ xs.length ∧ i = .int .i64 k ∧ (∃ n, wr = w.drewN n) ∧ Hid (xs.take k = ys.take k)) (fun i _ => xs.length - (intOf i).toNat)
    case atStart => exact ⟨0, by omega, rfl, ⟨0, rfl⟩, Lib.hid (by simp)⟩
    case round =>
      obtain ⟨k, hk, rfl, ⟨nd, rfl⟩, hr⟩ := hrel
      by_cases hlt : k < xs.length
      · have hlt2 : k < ys.length := by omega
        obtain ⟨b, off, rfl, hb, hc⟩ := ha (by omega)
        obtain ⟨b2, off2, rfl, hb2, hc2⟩ := ha2 (by omega)
        have c1 := hc k _ (at_str hlt)
        have c2 := hc2 k _ (at_str hlt2)
        clear hc hc2
        have i0 : (0 : Int) ≤ (k : Int) := by omega
        have i1 : (k : Int) < (xs.length : Int) := by omega
        have i2 : (k : Int) < (ys.length : Int) := by omega
        by_cases h : xs[k].toList = ys[k].toList
        · have e1 : (xs[k].toList == ys[k].toList) = true := by simpa using h
          have hon := Lib.hid (show xs.take (k + 1) = ys.take (k + 1) by rw [List.take_succ_eq_append_getElem hlt, List.take_succ_eq_append_getElem hlt2, hr.out, toList_inj h])
          replace h := Lib.hid h
          go_wp2
          go_quiet (fail)
          go_wp2
          go_roundw
          case rel => exact ⟨k + 1, by omega, by go_num, ⟨_, rfl⟩, hon⟩
          case measure => simp [intOf]; omega
        · have e1 : (xs[k].toList == ys[k].toList) = false := by simpa using h
          have hne := Lib.hid (show decide (xs = ys) = false by apply decide_eq_false; intro he; subst he; exact h rfl)
          go_wp2
          go_quiet (fail)
          go_wp2
          go_ret
          exact ⟨by rw [hne.out]; rfl, by first | exact to_drewN _ _ _ | (simp only [World.drewN_drewN]; exact to_drewN _ _ _)⟩
      · have hyes := Lib.hid (show decide (xs = ys) = true by
          apply decide_eq_true
          have := hr.out
          rw [List.take_of_length_le (by omega), List.take_of_length_le (by omega)] at this
          exact this)
        go_wp2
        go_ret
        exact ⟨by rw [hyes.out]; rfl, to_drewN _ _ _⟩
  · have d1 : (xs.length == ys.length) = false := by simpa using hl
    have d2 : (xs.length != ys.length) = true := by simpa using hl
    have d3 : ((xs.length : Int) != (ys.length : Int)) = true := by simp; omega
    have hne := Lib.hid (show decide (xs = ys) = false by apply decide_eq_false; intro he; subst he; exact hl rfl)
    replace hl := Lib.hid hl
    go_enter Try.func37, Try.ntmps37
    go_wp2
    go_ret
    exact ⟨by rw [hne.out]; rfl, Below.refl _ _⟩
/-- how many bytes -/
def tot (xs : List ByteArray) : Nat := (xs.map ByteArray.size).sum
theorem tot_snoc (xs : List ByteArray) (s : ByteArray) : tot (xs ++ [s]) = tot xs + s.size := by simp [tot]
theorem tot_take (xs : List ByteArray) (k : Nat) : tot (xs.take k) ≤ tot xs := by
  induction xs generalizing k with
  | nil => simp [tot]
  | cons a xs ih => cases k with
    | zero => simp [tot]
    | succ k => have := ih k; simp only [tot, List.take_succ_cons, List.map_cons, List.sum_cons] at this ⊢; omega
def sz (xs : List ByteArray) (left : Int) : Int := if (xs.length : Int) + (tot xs : Int) ≤ left then left - (xs.length : Int) - (tot xs : Int) else -1
set_option maxHeartbeats 800000 in
theorem sz_any {v : Value} {xs : List ByteArray} {w : World} (h1 : Row w v 1 xs.length (strs xs)) (hs : ∀ x ∈ xs, x.size ≤ maxLen) (left : Int) (h0 : 0 ≤ left) (hm : left ≤ 1048576) :
    Calls Try.prog 33 #[v, .int .i64 left] w fun e w' => e = .returned (.int .i64 (sz xs left)) ∧ w = w' := by
  obtain ⟨A, c, rfl, -, hn, hnc, hcm, ha⟩ := h1
  by_cases hl : (xs.length : Int) ≤ left
  · have d1 : decide (left - (xs.length : Int) < 0) = false := by simp; omega
    go_enter Try.func33, Try.ntmps33
    go_wp2
    go_loop [1, 5] (fun l i => ∃ k : Nat, k ≤ xs.length ∧ i = .int .i64 k ∧ l = .int .i64 (left - (xs.length : Int) - (tot (xs.take k) : Int)) ∧ 0 ≤ left - (xs.length : Int) - (tot (xs.take k) : Int)) (fun _ i => xs.length - (intOf i).toNat)
    case atStart => exact ⟨0, by omega, rfl, by simp [tot], by simp [tot]; omega⟩
    case round =>
      obtain ⟨k, hk, rfl, rfl, hle⟩ := hrel
      by_cases hlt : k < xs.length
      · obtain ⟨b, off, rfl, hb, hc⟩ := ha (by omega)
        have c1 := hc k _ (at_str hlt)
        have hsz := hs xs[k] (List.getElem_mem hlt)
        simp only [maxLen] at hsz
        have hon := Lib.hid (show tot (xs.take (k + 1)) = tot (xs.take k) + xs[k].size by rw [List.take_succ_eq_append_getElem hlt, tot_snoc])
        have ht := tot_take xs (k + 1)
        rw [hon.out] at ht
        clear hc
        have hz : (0 : Int) ≤ (tot (xs.take k) : Int) := by omega
        generalize tot (xs.take k) = t at *
        by_cases hneg : left - (xs.length : Int) - (t : Int) - (xs[k].size : Int) < 0
        · have d2 : decide (left - (xs.length : Int) - (t : Int) - (xs[k].size : Int) < 0) = true := by simpa using hneg
          have hv := Lib.hid (show sz xs left = -1 by unfold sz; rw [if_neg (by omega)])
          clear ht
          go_wp2
          go_ret
          exact ⟨by rw [hv.out]; rfl, rfl⟩
        · have d2 : decide (left - (xs.length : Int) - (t : Int) - (xs[k].size : Int) < 0) = false := by simpa using hneg
          clear ht
          go_wp2
          go_round
          case rel => exact ⟨k + 1, by omega, by go_num, by rw [hon.out]; go_num, by rw [hon.out]; omega⟩
          case measure => simp [intOf]; omega
      · have hv := Lib.hid (show sz xs left = left - (xs.length : Int) - (tot (xs.take k) : Int) by
          rw [List.take_of_length_le (by omega)] at hle ⊢
          unfold sz; rw [if_pos (by omega)])
        go_wp2
        go_ret
        exact ⟨by rw [hv.out]; rfl, rfl⟩
  · have hv := Lib.hid (show sz xs left = -1 by unfold sz; rw [if_neg (by omega)])
    have d1 : decide (left - (xs.length : Int) < 0) = true := by simp; omega
    go_enter Try.func33, Try.ntmps33
    go_wp2
    go_ret
    exact ⟨by rw [hv.out]; rfl, rfl⟩
end Go.Proofs.Ytjhjgeinpnghfaa.Strs
