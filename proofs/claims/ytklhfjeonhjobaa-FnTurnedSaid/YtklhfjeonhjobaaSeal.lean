/-
  The contracts of SumOf, sumText, l02Four, Sealed and Unsealed of the program and of the reference.
  Conditions: a text that can be read.
-/
import Derived.Test.YtklhfjeonhjobaaSumMore
import Derived.Test.YtklhfjeonhjobaaMem
import Derived.Test.YtklhfjeonhjobaaMix
import Derived.Lib.Strings
import Derived.Lib.IndexBytes
import Derived.WalkKit
import Derived.ProofKit
import Derived.WalkLawsBesides
import Derived.WalkSpells
import Derived.Lib.Hide
import Derived.Deep.QuietTactic
import Derived.BigQuiet
namespace Go.Proofs.Ytklhfjeonhjobaa.Seal
open Go.RowKit Go.Proofs.Ytklhfjeonhjobaa.Mem Go.Proofs.Ytklhfjeonhjobaa.Mix Go.Proofs.Ytklhfjeonhjobaa.Crc
/-- the sum of a text -/
def sum (s : ByteArray) : Nat := crc 4294967295 s.data.toList
theorem sum_lt (s : ByteArray) : sum s < 4294967296 := crc_lt _ (by omega)
theorem impl_SumOf (s : ByteArray) (hs : s.size ≤ 140737488351232) (w : World) : Calls Try.prog 12 #[.string s] w fun e w' => e = .returned (.int .u32 (sum s)) ∧ w = w' := by
  go_enter Try.func12, Try.ntmps12
  go_wp2_with (go_at_call 11; refine (SumMore.impl_any 4294967295 (by omega) s _ hs).mono ?_; rintro e w1 ⟨rfl, rfl⟩)
  go_ret
  exact ⟨rfl, rfl⟩
/-- four bytes, the highest first -/
def four (x : Nat) : List Int := [(x : Int) / 16777216 % 256, (x : Int) / 65536 % 256, (x : Int) / 256 % 256, (x : Int) % 256]
def fourText (x : Nat) : ByteArray := strOfNums (four x)
theorem fourText_size (x : Nat) : (fourText x).size = 4 := by unfold fourText; rw [strOfNums_size]; rfl
theorem string_four {W : World} (x : Nat) :
    (convert 22 9 (.slice (some ⟨W.heap.size, 0, none⟩) 4 4)).run Try.prog (W.alloc (.cells ((four x).map (Value.int .u8)).toArray 5)) =
      .ok (.string (fourText x)) (W.alloc (.cells ((four x).map (Value.int .u8)).toArray 5)) :=
  string_own (d := 9) (xs := four x) Try.underlying22 Try.underlying5 Try.underlying9
    (World.ownsRow_lit W ((four x).map (Value.int .u8)).toArray 4 (Nat.le_refl W.heap.size) (by simp [maxLen]) (by simp [four]))
set_option maxHeartbeats 400000 in
theorem impl_four (s : ByteArray) (hz : s.size ≤ 140737488351232) (w : World) : Calls Try.prog 31 #[.string s] w fun e w' => e = .returned (.string (fourText (sum s))) ∧ Below w.heap.size w w' := by
  have hx := sum_lt s
  have hc := impl_SumOf s hz
  generalize sum s = x at *
  replace hc := Lib.hid hc
  have hs := string_four (W := w) x
  unfold four at hs
  simp only [List.map_cons, List.map_nil] at hs
  have e1 : (x : Int) / 16777216 % 256 = (x : Int) / 16777216 := by omega
  rw [e1] at hs
  clear e1
  go_enter Try.func31, Try.ntmps31
  go_wp2_with (go_at_call 12; refine (hc.out _).mono ?_; rintro e w1 ⟨rfl, rfl⟩)
  go_ret
  exact ⟨rfl, (Below.refl _ _).alloc (Nat.le_refl _) _⟩
/-- Sealed -/
def sealed_ (s : ByteArray) : ByteArray × Bool := if s.size ≤ 20000 then (s ++ fourText (sum s), true) else (ByteArray.empty, false)
def strBool (x : ByteArray × Bool) : Value := .tuple #[.string x.1, .bool x.2]
theorem impl_Sealed (s : ByteArray) (hs : s.size ≤ 140737488351232) (w : World) :
    Calls Try.prog 9 #[.string s] w fun e w' => e = .returned (strBool (sealed_ s)) ∧ Below w.heap.size w w' := by
  have hf := fourText_size (sum s)
  by_cases h : s.size ≤ 20000
  · have hv := Lib.hid (show sealed_ s = (s ++ fourText (sum s), true) by unfold sealed_; rw [if_pos h])
    have hsz : (fourText (sum s)).size ≤ 4 := by omega
    clear hf
    go_enter Try.func9, Try.ntmps9
    go_wp2_with (go_at_call 31; refine (impl_four s hs _).mono ?_; rintro e w1 ⟨rfl, hb⟩)
    go_ret2
    exact ⟨by rw [hv.out]; rfl, hb⟩
  · have hv := Lib.hid (show sealed_ s = (ByteArray.empty, false) by unfold sealed_; rw [if_neg h])
    go_enter Try.func9, Try.ntmps9
    go_wp2
    go_ret2
    exact ⟨by rw [hv.out]; rfl, Below.refl _ _⟩
/-- Unsealed -/
def seals (s : ByteArray) (n : Nat) : Bool := (fourText (sum (s.extract 0 n))).toList == (s.extract n (n + 4)).toList
def unsealed (s : ByteArray) : ByteArray × Bool := if 4 ≤ s.size ∧ s.size ≤ 20004 ∧ seals s (s.size - 4) = true then (s.extract 0 (s.size - 4), true) else (ByteArray.empty, false)
theorem impl_Unsealed (s : ByteArray) (hs : s.size ≤ 140737488351232) (w : World) :
    Calls Try.prog 10 #[.string s] w fun e w' => e = .returned (strBool (unsealed s)) ∧ Below w.heap.size w w' := by
  by_cases h4 : 4 ≤ s.size
  · obtain ⟨n, hn⟩ : ∃ n, s.size = n + 4 := ⟨s.size - 4, by omega⟩
    by_cases h : n ≤ 20000
    · have hx : (s.extract 0 n).size ≤ 140737488351232 := by simp; omega
      have hc := Lib.hid (impl_four (s.extract 0 n) hx)
      have d1 : decide ((n : Int) < 0) = false := by simp
      have d2 : decide ((20000 : Int) < (n : Int)) = false := by simp; omega
      have e1 : (s.size : Int) - 4 = (n : Int) := by omega
      by_cases hq : seals s n = true
      · have hv := Lib.hid (show unsealed s = (s.extract 0 n, true) by unfold unsealed; rw [hn, show n + 4 - 4 = n from by omega, if_pos ⟨by omega, by omega, hq⟩])
        have hq' : ((fourText (sum (s.extract 0 n))).toList == (s.extract n (n + 4)).toList) = true := by exact hq

        clear hq hx
        go_enter Try.func10, Try.ntmps10
        go_wp2
        refine wp_region_below [(0, true), (1, true), (2, true), (3, true), (4, true), (5, true), (6, true), (7, true), (8, true), (9, true), (11, true), (12, true), (13, true), (10, false), (14, true), (15, true)] (by kernel_rfl) (by kernel_rfl) (fun d _ _ _ _ h => by cases d <;> exact h) ?_
        repeat
         (refine mix_still rfl (by rfl) ?_
          apply Exists.intro
          refine ⟨fun w' hS => ?_, ?_⟩
          · (have hS' := cells_of hS; clear hS; go_simp; (try go_bits); first | with_reducible rfl | (refine (if_pos ?_).trans ?_; omega; with_reducible rfl))
          (go_simp; (try go_bits)))
        refine mix_loud rfl (fun K hK => ?_)
        (go_simp; (try go_bits))
        refine (hc.out _).mono ?_
        rintro _ w1 ⟨rfl, hb1⟩
        replace hb1 := of_drew hb1
        refine hK _ _ (fun _ => hb1) ?_
        clear hK K
        (go_simp; (try go_bits))
        repeat
         (refine mix_still rfl (by rfl) ?_
          apply Exists.intro
          refine ⟨fun w' hS => ?_, ?_⟩
          · (have hS' := cells_of hS; clear hS; go_simp; (try go_bits); first | with_reducible rfl | (refine (if_pos ?_).trans ?_; omega; with_reducible rfl))
          (go_simp; (try go_bits)))
        refine mix_nil ?_
        go_wp2
        go_ret2
        exact ⟨by rw [hv.out]; rfl, hb1⟩
      · have hv := Lib.hid (show unsealed s = (ByteArray.empty, false) by unfold unsealed; rw [hn, show n + 4 - 4 = n from by omega, if_neg (by rintro ⟨-, -, h⟩; exact hq h)])
        have hq' : ((fourText (sum (s.extract 0 n))).toList == (s.extract n (n + 4)).toList) = false := by simpa [seals] using hq

        clear hq hx
        go_enter Try.func10, Try.ntmps10
        go_wp2
        refine wp_region_below [(0, true), (1, true), (2, true), (3, true), (4, true), (5, true), (6, true), (7, true), (8, true), (9, true), (11, true), (12, true), (13, true), (10, false), (14, true), (15, true)] (by kernel_rfl) (by kernel_rfl) (fun d _ _ _ _ h => by cases d <;> exact h) ?_
        repeat
         (refine mix_still rfl (by rfl) ?_
          apply Exists.intro
          refine ⟨fun w' hS => ?_, ?_⟩
          · (have hS' := cells_of hS; clear hS; go_simp; (try go_bits); first | with_reducible rfl | (refine (if_pos ?_).trans ?_; omega; with_reducible rfl))
          (go_simp; (try go_bits)))
        refine mix_loud rfl (fun K hK => ?_)
        (go_simp; (try go_bits))
        refine (hc.out _).mono ?_
        rintro _ w1 ⟨rfl, hb1⟩
        replace hb1 := of_drew hb1
        refine hK _ _ (fun _ => hb1) ?_
        clear hK K
        (go_simp; (try go_bits))
        repeat
         (refine mix_still rfl (by rfl) ?_
          apply Exists.intro
          refine ⟨fun w' hS => ?_, ?_⟩
          · (have hS' := cells_of hS; clear hS; go_simp; (try go_bits); first | with_reducible rfl | (refine (if_pos ?_).trans ?_; omega; with_reducible rfl))
          (go_simp; (try go_bits)))
        refine mix_nil ?_
        go_wp2
        go_ret2
        exact ⟨by rw [hv.out]; rfl, hb1⟩
    · have hv := Lib.hid (show unsealed s = (ByteArray.empty, false) by unfold unsealed; rw [if_neg (by omega)])
      have d1 : decide ((n : Int) < 0) = false := by simp
      have d2 : decide ((20000 : Int) < (n : Int)) = true := by simp; omega
      have e1 : (s.size : Int) - 4 = (n : Int) := by omega
      go_enter Try.func10, Try.ntmps10
      go_wp2
      go_quiet (fail)
      go_wp2
      go_ret2
      exact ⟨by rw [hv.out]; rfl, to_drewN _ _ _⟩
  · have hv := Lib.hid (show unsealed s = (ByteArray.empty, false) by unfold unsealed; rw [if_neg (by omega)])
    have d1 : decide ((s.size : Int) - 4 < 0) = true := by simp; omega
    go_enter Try.func10, Try.ntmps10
    go_wp2
    go_quiet (fail)
    go_wp2
    go_ret2
    exact ⟨by rw [hv.out]; rfl, to_drewN _ _ _⟩
end Go.Proofs.Ytklhfjeonhjobaa.Seal
