/-
  The contracts of impl.WidestOf and spec.WidestOf: the greatest size of a line.
  Conditions: a text of 2^20 bytes at most; the library's variable holds some number.
-/
import Derived.Test.YtklhfjeonhjobaaDoorLines
namespace Go.Proofs.YtklhfjeonhjobaaDoor.Lines
open Go.RowKit Go.Proofs.YtklhfjeonhjobaaDoor.Row Go.Proofs.YtklhfjeonhjobaaDoor.Mem Go.Proofs.YtklhfjeonhjobaaDoor.Mix Go.Proofs.YtklhfjeonhjobaaDoor.Strs Go.Proofs.YtklhfjeonhjobaaDoor.Owns Go.Proofs.YtklhfjeonhjobaaDoor.Cut
def widest (xs : List ByteArray) : Nat := xs.foldl (fun m x => max m x.size) 0
theorem widest_on {xs : List ByteArray} {k : Nat} (h : k < xs.length) : widest (xs.take (k + 1)) = max (widest (xs.take k)) xs[k].size := by
  unfold widest; rw [List.take_succ_eq_append_getElem h, List.foldl_append]; rfl
theorem fold_le (B : Nat) : ∀ (xs : List ByteArray) (m : Nat), m ≤ B → (∀ x ∈ xs, x.size ≤ B) → xs.foldl (fun m x => max m x.size) m ≤ B
  | [], _, h, _ => h
  | x :: xs, m, h, hx => fold_le B xs _ (Nat.max_le.2 ⟨h, hx x (by simp)⟩) (fun y hy => hx y (by simp [hy]))
theorem pieces_size (c : UInt8) (s : ByteArray) : ∀ x ∈ pieces c s, x.size ≤ s.size := by
  have key : ∀ (k : Nat) (t : ByteArray), t.size ≤ s.size → ∀ x ∈ Lib.splitB ⟨#[c]⟩ 0 k t, x.size ≤ s.size := by
    intro k
    induction k with
    | zero => intro t ht x hx; simp [Lib.splitB] at hx; subst hx; exact ht
    | succ k ih =>
      intro t ht x hx
      unfold Lib.splitB at hx
      split at hx
      · simp at hx; subst hx; exact ht
      · rcases List.mem_cons.1 hx with rfl | hx
        · simp; omega
        · exact ih _ (by simp; omega) x hx
  exact key _ s (Nat.le_refl _)
theorem lines_size (s : ByteArray) : ∀ x ∈ lines s, x.size ≤ s.size := by
  intro x hx
  unfold lines at hx
  split at hx
  · exact pieces_size 10 s x ((List.dropLast_sublist _).subset hx)
  · exact pieces_size 10 s x hx
theorem lines_len (s : ByteArray) : (lines s).length ≤ s.size + 1 := by
  have h := pieces_len 10 s
  have hc := count_bd s
  unfold lines
  split
  · rw [List.length_dropLast]; omega
  · omega
set_option maxRecDepth 100000 in
set_option maxHeartbeats 1600000 in
theorem impl_Widest (s : ByteArray) (hs : s.size ≤ 1048576) {w : World} (hm : ∃ m, w.cell? ⟨0, 0, none⟩ = some (.int .i64 m)) :
    Calls Tryd.prog 39 #[.string s] w fun e w' => e = .returned (.int .i64 (widest (lines s) : Int)) ∧ Below w.heap.size w w' := by
  have hz := lines_size s
  have hll := lines_len s
  have hc := Lib.hid (impl_Lines s hs hm)
  generalize lines s = xs at *
  replace hm := Lib.hid hm
  go_enter Tryd.func39, Tryd.ntmps39
  go_wp2_with fail
  refine hc.out.mono ?_
  rintro e w1 ⟨v1, rfl, ho, hb⟩
  obtain ⟨A, c, rfl, -, hn, hnc, hcm, ha⟩ := row_of_owns ho
  replace hb := Lib.hid hb
  clear ho hc hm
  go_wp2
  go_loopw [3, 9] (fun o i wr => ∃ k : Nat, k ≤ xs.length ∧ i = .int .i64 k ∧ o = .int .i64 (widest (xs.take k) : Int) ∧ wr = w1) (fun _ i _ => xs.length - (intOf i).toNat)
  case atStart => exact ⟨0, by omega, rfl, rfl, rfl⟩
  case round =>
    obtain ⟨k, hk, rfl, rfl, rfl⟩ := hrel
    by_cases hlt : k < xs.length
    · obtain ⟨b, off, rfl, hb', hcell⟩ := ha (by omega)
      have c1 := hcell k _ (at_str hlt)
      have hon := Lib.hid (widest_on hlt)
      have hxz := hz _ (List.getElem_mem hlt)
      have hwz : widest (xs.take k) ≤ s.size := fold_le s.size _ 0 (by omega) (fun x hx => hz x (List.mem_of_mem_take hx))
      clear hcell hz
      generalize widest (xs.take k) = m at *
      rcases Nat.lt_or_ge m xs[k].size with hlt2 | hge2
      · have hmx := Lib.hid (show max m xs[k].size = xs[k].size by omega)
        have f1 : (m : Int) < (xs[k].size : Int) := by omega
        have f2 : (m : Int) ≤ (xs[k].size : Int) := by omega
        have f3 : max (m : Int) (xs[k].size : Int) = (xs[k].size : Int) := by omega
        go_wp2
        go_roundw
        case rel => exact ⟨k + 1, by omega, by go_num, by rw [hon.out, hmx.out], trivial⟩
        case measure => simp [intOf]; omega
      · have hmx := Lib.hid (show max m xs[k].size = m by omega)
        have f1 : ¬ (m : Int) < (xs[k].size : Int) := by omega
        have f2 : (xs[k].size : Int) ≤ (m : Int) := by omega
        have f3 : max (m : Int) (xs[k].size : Int) = (m : Int) := by omega
        go_wp2
        go_roundw
        case rel => exact ⟨k + 1, by omega, by go_num, by rw [hon.out, hmx.out], trivial⟩
        case measure => simp [intOf]; omega
    · obtain rfl : k = xs.length := by omega
      have hfin := Lib.hid (List.take_length (l := xs))
      go_wp2
      go_ret
      exact ⟨by rw [hfin.out]; rfl, hb.out⟩
end Go.Proofs.YtklhfjeonhjobaaDoor.Lines
