/-
  The contracts of the reference's draws of numbers and of texts of bytes: l01Long, l01Number, DrawVarText, DrawHex.
  Conditions: the code that is drawn from reads as bytes.
-/
import Derived.Test.YtklhfjeonhjobaaDoorPick
namespace Go.Proofs.YtklhfjeonhjobaaDoor.Draw
open Go.RowKit Go.Proofs.YtklhfjeonhjobaaDoor.Row Go.Proofs.YtklhfjeonhjobaaDoor.Mem Go.Proofs.YtklhfjeonhjobaaDoor.Mix Go.Proofs.YtklhfjeonhjobaaDoor.Owns Go.Proofs.YtklhfjeonhjobaaDoor.Blocks
set_option maxRecDepth 100000 in
set_option maxHeartbeats 1600000 in
/-- bytes of one kind -/
theorem long_any (n : Nat) (hn : n ≤ 100000) (x : Int) (w : World) :
    Calls Tryd.prog 66 #[.int .i64 n, .int .u8 x] w fun e w' => ∃ s : ByteArray, s.size = n ∧ e = .returned (.string s) ∧ Below w.heap.size w w' := by
  have hmk : ∀ W, (Instr.makeSlice 32 (.int .i64 (n : Int)) (.int .i64 (n : Int))).run Tryd.prog W = .ok (.slice (some ⟨W.heap.size, 0, none⟩) n n) (W.alloc (.cells (madeCells #[.int .u8 0] (n * 1)) 5)) := fun W =>
    make_run EB n n (by omega) (by omega) (by simp only [maxLen]; omega) W
  go_enter Tryd.func66, Tryd.ntmps66
  go_wp2
  go_loopw [6] (fun i wr => ∃ k : Nat, k ≤ n ∧ i = .int .i64 k ∧ Fill wr w.heap.size 5 1 n k ((List.replicate k x).map (Value.int .u8)) ∧ Below w.heap.size w wr) (fun i _ => n - (intOf i).toNat)
  case atStart => exact ⟨0, by omega, rfl, Fill.made w _ (by simp [madeCells]), (Below.refl _ _).alloc (Nat.le_refl _) _⟩
  case round =>
    obtain ⟨k, hk, rfl, hf, hbw⟩ := hrel
    by_cases hlt : k < n
    · obtain ⟨u, c2⟩ := hf.cell (j := k) (by omega)
      have c3 := hf.frozen k
      have hst := Lib.hid (hf.put hlt [.int .u8 x] rfl)
      replace hf := Lib.hid hf
      go_wp2
      refine ⟨⟨k + 1, by omega, by go_num, ?_, hbw.setCell (Nat.le_refl _) _⟩, by simp [intOf]; omega⟩
      have h := hst.out
      rw [Nat.mul_one] at h
      rw [List.replicate_succ', List.map_append]
      exact h
    · obtain rfl : k = n := by omega
      have hown := owns_of_fill hf (Nat.le_refl _) (Nat.le_refl _) (by simp only [maxLen]; omega)
      have hrun := string_own Tryd.underlying32 Tryd.underlying5 Tryd.underlying9 hown
      replace hown := Lib.hid hown
      replace hf := Lib.hid hf
      go_wp2
      go_ret
      exact ⟨_, by rw [strOfNums_size]; simp, rfl, hbw⟩
def l5 : List Int := [-1, 0, 127, 128, 16383, 16384, 1000000000, 1000000001, 9223372036854775807, -9223372036854775808]
set_option maxRecDepth 100000 in
set_option maxHeartbeats 1600000 in
/-- a number -/
theorem number_any {w : World} {c : Value} {g : Nat} (hc : Cur w c g) :
    Calls Tryd.prog 62 #[c] w fun e w' => ∃ n : Int, -9223372036854775808 ≤ n ∧ n ≤ 9223372036854775807 ∧ e = .returned (.int .i64 n) ∧ Cur w' c g ∧ Keep g w w' := by
  have hmem : ∀ n ∈ l5, -9223372036854775808 ≤ n ∧ n ≤ 9223372036854775807 := by decide
  replace hmem := Lib.hid hmem
  go_enter Tryd.func62, Tryd.ntmps62
  go_wp2_with fail
  refine (below_any hc 4).mono ?_
  rintro e w1 ⟨x, x0, x1, -, rfl, c1, k1⟩
  have x2 := x1 (by omega)
  clear x1 hc
  have l1 := c1.lt
  by_cases h0 : x = 0
  · subst h0
    have c2 := c1.below ((Below.refl w1.heap.size w1).alloc (Nat.le_refl _) (.cells (l5.map (Value.int .i64)).toArray 3))
    have k2 := keep_below k1 ((Below.refl w1.heap.size w1).alloc (Nat.le_refl _) (.cells (l5.map (Value.int .i64)).toArray 3))
    have hp := pickInt_any c2 w1.heap.size l5 10 _ _ (str_alloc w1 _ _ _) (by omega) rfl (by omega) (by omega)
    simp only [l5, List.map_cons, List.map_nil] at hp c2 k2
    replace hp := Lib.hid hp
    replace k2 := Lib.hid k2
    clear c2 c1 k1
    go_wp2_with fail
    refine hp.out.mono ?_
    rintro e w2 ⟨n, hn, rfl, c3, k3⟩
    obtain ⟨n1, n2⟩ := hmem.out n hn
    clear hp hn hmem
    have k4 := keep_trans k2.out k3
    clear k2 k3
    go_wp2
    go_ret
    exact ⟨n, n1, n2, rfl, c3, k4⟩
  · have d0 : (x == 0) = false := beq_eq_false_iff_ne.2 h0
    clear hmem
    by_cases h1 : x = 1
    · subst h1
      go_wp2_with fail
      refine (below_any c1 1000000000).mono ?_
      rintro e w2 ⟨n, n0, n1, -, rfl, c3, k3⟩
      have n2 := n1 (by omega)
      clear n1
      have k4 := keep_trans k1 k3
      clear c1 k1 k3
      go_wp2
      go_ret
      exact ⟨n, by omega, by omega, rfl, c3, k4⟩
    · have d1 : (x == 1) = false := beq_eq_false_iff_ne.2 h1
      go_wp2_with fail
      refine (below_any c1 400).mono ?_
      rintro e w2 ⟨n, n0, n1, -, rfl, c3, k3⟩
      have n2 := n1 (by omega)
      clear n1
      have k4 := keep_trans k1 k3
      clear c1 k1 k3
      go_wp2
      go_ret
      exact ⟨n, by omega, by omega, rfl, c3, k4⟩
theorem drawVarText_any {w : World} {v : Value} {bs : List Int} (h : Drawn w v bs) (hm : bs.length ≤ 1048576) :
    Calls Tryd.prog 20 #[v] w fun e w' => ∃ n : Int, -9223372036854775808 ≤ n ∧ n ≤ 9223372036854775807 ∧ e = .returned (.int .i64 n) ∧ Below w.heap.size w w' := by
  go_enter Tryd.func20, Tryd.ntmps20
  go_wp2_with fail
  refine (new_any h hm).mono ?_
  rintro e w1 ⟨rfl, c1, b1⟩
  have s1 := b1.size
  go_wp2_with fail
  refine (number_any c1).mono ?_
  rintro e w2 ⟨n, n1, n2, rfl, -, k2⟩
  have hB := Lib.hid (below_of_keep b1 k2 s1)
  clear b1 k2 c1
  go_wp2
  go_ret
  exact ⟨n, n1, n2, rfl, hB.out⟩
set_option maxHeartbeats 800000 in
theorem drawHex_any {w : World} {v : Value} {bs : List Int} (h : Drawn w v bs) (hm : bs.length ≤ 1048576) :
    Calls Tryd.prog 23 #[v] w fun e w' => ∃ s : ByteArray, s.size ≤ 30000 ∧ e = .returned (.string s) ∧ Below w.heap.size w w' := by
  go_enter Tryd.func23, Tryd.ntmps23
  go_wp2_with fail
  refine (new_any h hm).mono ?_
  rintro e w1 ⟨rfl, c1, b1⟩
  have s1 := b1.size
  go_wp2_with fail
  refine (once_any c1 60).mono ?_
  rintro e w2 ⟨b, rfl, c2, k2⟩
  clear c1
  cases b
  · go_wp2_with fail
    refine (below_any c2 30).mono ?_
    rintro e w3 ⟨x, x0, x1, -, rfl, c3, k3⟩
    have x2 := x1 (by omega)
    clear x1 c2
    obtain ⟨m, rfl⟩ := Int.eq_ofNat_of_zero_le x0
    have ht := Lib.hid (text_any c3 m (by omega))
    have hB := below_of_keep b1 (keep_trans k2 k3) s1
    have s3 := (keep_trans k2 k3).size
    replace hB := Lib.hid hB
    have k23 := keep_trans k2 k3
    clear k2 k3 c3
    go_wp2_with fail
    refine ht.out.mono ?_
    rintro e w4 ⟨s, hs, rfl, -, k4⟩
    go_wp2
    go_ret
    exact ⟨s, by omega, rfl, below_of_keep b1 (keep_trans k23 k4) s1⟩
  · go_wp2_with fail
    refine (below_any c2 2).mono ?_
    rintro e w3 ⟨x, x0, x1, -, rfl, c3, k3⟩
    have x2 := x1 (by omega)
    clear x1 c2 c3
    obtain ⟨m, rfl⟩ := Int.eq_ofNat_of_zero_le x0
    have k23 := keep_trans k2 k3
    have hB := Lib.hid (below_of_keep b1 k23 s1)
    clear k2 k3 k23
    have e1 : (20000 : Int) + (m : Int) = ((20000 + m : Nat) : Int) := by omega
    have hl := Lib.hid (long_any (20000 + m) (by omega) 200 w3)
    rw [← e1] at hl
    clear e1
    go_wp2_with fail
    refine hl.out.mono ?_
    rintro e w4 ⟨s, hs, rfl, b4⟩
    go_wp2
    go_ret
    exact ⟨s, by omega, rfl, hB.out.trans (b4.mono hB.out.size)⟩
end Go.Proofs.YtklhfjeonhjobaaDoor.Draw
