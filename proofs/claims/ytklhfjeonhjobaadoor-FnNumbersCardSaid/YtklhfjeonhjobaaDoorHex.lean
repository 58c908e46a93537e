/-
  The contracts of Hex of the program and of the reference, and of spec.l01Figure.
  Conditions: a text that can be read.
-/
import Derived.Test.YtklhfjeonhjobaaDoorChecked
import Derived.Test.YtklhfjeonhjobaaDoorCrc
import Derived.Test.YtklhfjeonhjobaaDoorMem
import Derived.Test.YtklhfjeonhjobaaDoorMix
import Derived.WalkKit
import Derived.ProofKit
import Derived.WalkLawsBesides
import Derived.WalkSpells
import Derived.Lib.Hide
namespace Go.Proofs.YtklhfjeonhjobaaDoor.Hex
open Go.RowKit Go.Proofs.YtklhfjeonhjobaaDoor.Mem Go.Proofs.YtklhfjeonhjobaaDoor.Mix
theorem E8 : Elem Tryd.prog 32 5 (.int .u8 0) 1 1 := ⟨Tryd.underlying32, by kernel_rfl, rfl, by omega⟩
def fig (x : Nat) : Int := if x < 10 then 48 + (x : Int) else 87 + (x : Int)
def hexI (l : List UInt8) : List Int := l.flatMap fun b => [fig (b.toNat / 16), fig (b.toNat % 16)]
theorem hexI_len (l : List UInt8) : (hexI l).length = 2 * l.length := by
  induction l with
  | nil => rfl
  | cons b l ih => simp only [hexI, List.flatMap_cons, List.length_append, List.length_cons] at ih ⊢; simp only [List.length_nil]; omega
theorem hexI_snoc (l : List UInt8) (b : UInt8) : hexI (l ++ [b]) = hexI l ++ [fig (b.toNat / 16), fig (b.toNat % 16)] := by simp [hexI]
theorem hex_step (s : ByteArray) (k : Nat) (h : k < s.size) : hexI (s.data.toList.take (k + 1)) = hexI (s.data.toList.take k) ++ [fig (s[k].toNat / 16), fig (s[k].toNat % 16)] := by
  rw [Crc.take_snoc s k h, hexI_snoc]
def hex (s : ByteArray) : ByteArray × Bool := if s.size ≤ 20000 then (strOfNums (hexI s.data.toList), true) else (ByteArray.empty, false)
def strBool (x : ByteArray × Bool) : Value := .tuple #[.string x.1, .bool x.2]
theorem fig_bd {x : Nat} (h : x < 16) : 48 ≤ fig x ∧ fig x ≤ 102 := by unfold fig; split <;> omega
theorem figure_any (x : Nat) (h : x < 16) (w : World) : Calls Tryd.prog 58 #[.int .i64 x] w fun e w' => e = .returned (.int .u8 (fig x)) ∧ w = w' := by
  by_cases h1 : x < 10
  · have hv := Lib.hid (show fig x = 48 + (x : Int) by unfold fig; rw [if_pos h1])
    go_enter Tryd.func58, Tryd.ntmps58
    go_wp2
    go_ret
    exact ⟨by rw [hv.out]; rfl, rfl⟩
  · have hv := Lib.hid (show fig x = 97 + (x : Int) - 10 by unfold fig; rw [if_neg h1]; omega)
    go_enter Tryd.func58, Tryd.ntmps58
    go_wp2
    go_ret
    exact ⟨by rw [hv.out]; rfl, rfl⟩
theorem digit : ∀ x : Fin 16, (((ByteArray.mk #[48, 49, 50, 51, 52, 53, 54, 55, 56, 57, 97, 98, 99, 100, 101, 102])[x.1]'(x.2)).toNat : Int) = fig x.1 := by decide
theorem digitI (x : Nat) (i : Int) (hx : x < 16) (hi : i = (x : Int)) : ∀ h, (((ByteArray.mk #[48, 49, 50, 51, 52, 53, 54, 55, 56, 57, 97, 98, 99, 100, 101, 102])[i.toNat]'h).toNat : Int) = fig x := by
  subst hi
  intro h
  exact digit ⟨x, hx⟩
set_option maxHeartbeats 800000 in
theorem impl_Hex (s : ByteArray) (hs : s.size ≤ 140737488351232) (w : World) :
    Calls Tryd.prog 26 #[.string s] w fun e w' => e = .returned (strBool (hex s)) ∧ Below w.heap.size w w' := by
  by_cases h : s.size ≤ 20000
  · have hv := Lib.hid (show hex s = (strOfNums (hexI s.data.toList), true) by unfold hex; rw [if_pos h])
    have d1 : decide ((20000 : Int) < (s.size : Int)) = false := by simp; omega
    have hmk : ∀ W, (Instr.makeSlice 32 (.int .i64 0) (.int .i64 (2 * (s.size : Int)))).run Tryd.prog W = .ok (.slice (some ⟨W.heap.size, 0, none⟩) 0 (2 * s.size)) (W.alloc (.cells (madeCells #[.int .u8 0] (2 * s.size * 1)) 5)) := fun W => by
      have hr := make_run E8 0 (2 * s.size) (by omega) (by omega) (by simp only [maxLen]; omega) W
      rwa [show ((2 * s.size : Nat) : Int) = 2 * (s.size : Int) from by omega] at hr
    go_enter Tryd.func26, Tryd.ntmps26
    go_wp2
    go_loopw [5, 6] (fun o j wr => ∃ k : Nat, k ≤ s.size ∧ j = .int .i64 k ∧ wr.ownsRow w.heap.size 5 1 o (2 * k) ((hexI (s.data.toList.take k)).map (Value.int .u8)) ∧ Below w.heap.size w wr) (fun _ j _ => s.size - (intOf j).toNat)
    case atStart => exact ⟨0, by omega, rfl, World.ownsRow_made w _ (2 * s.size) (Nat.le_refl _) (by simp only [maxLen]; omega) (by simp [madeCells]), (Below.refl _ _).alloc (Nat.le_refl _) _⟩
    case round =>
      obtain ⟨k, hk, rfl, hown, hb⟩ := hrel
      have hfin : s.data.toList.take s.size = s.data.toList := List.take_of_length_le (by simp)
      by_cases hlt : k < s.size
      · have hst := Lib.hid (hex_step s k hlt)
        have h5 := s[k].toNat_lt
        obtain ⟨v', w1, hrun, hown1, hb1, -, -⟩ := append_new E8 hown.drew hb.drew [.int .u8 (fig (s[k].toNat / 16)), .int .u8 (fig (s[k].toNat % 16))] 2 rfl (by simp [Value.oneCell']) (by simp only [maxLen]; omega) (by omega)
        have q1 : (0 : Int) ≤ (s[k].toNat : Int) / 16 := by omega
        have q2 : (s[k].toNat : Int) / 16 < 16 := by omega
        have q3 : (0 : Int) ≤ (s[k].toNat : Int) % 16 := by omega
        have q4 : (s[k].toNat : Int) % 16 < 16 := by omega
        have q5 : bits BinOp.and IntKind.u8 (s[k].toNat : Int) 15 = (s[k].toNat : Int) % 16 := by
          rw [show (15 : Int) = ((15 : Nat) : Int) from rfl, u8_and_nat _ _ (by omega) (by omega), nat_mask4]; omega
        have g1 := digitI (s[k].toNat / 16) ((s[k].toNat : Int) / 16) (by omega) (by omega)
        have g2 := digitI (s[k].toNat % 16) ((s[k].toNat : Int) % 16) (by omega) (by omega)
        go_wp2
        refine wp_region_below [(0, true), (1, true), (2, true), (3, true), (4, true), (5, true), (6, true), (7, true), (8, true), (9, true), (10, true), (11, true), (12, true), (13, false), (14, false), (15, false)] (by kernel_rfl) (by kernel_rfl) (fun d _ _ _ _ h => by cases d <;> exact h) ?_
        repeat
         (refine mix_still rfl (by rfl) ?_
          apply Exists.intro
          refine ⟨fun w' hS => ?_, ?_⟩
          · (have hS' := cells_of hS; clear hS; go_simp; (try go_bits); first | with_reducible rfl | (refine (if_pos ?_).trans ?_; omega; with_reducible rfl))
          (go_simp; (try go_bits)))
        refine mix_loud rfl (fun K hK => ?_)
        (go_simp; (try go_bits))
        refine hK _ _ (fun _ => (to_drew _ _).alloc (Nat.le_refl _) _) ?_
        clear hK K
        (go_simp; (try go_bits))
        refine mix_loud rfl (fun K hK => ?_)
        refine loud_append rfl rfl hrun ?_
        refine hK _ _ (no_need (by kernel_rfl)) ?_
        clear hK K
        (go_simp; (try go_bits))
        refine mix_loud rfl (fun K hK => ?_)
        (go_simp; (try go_bits))
        refine hK _ _ (no_need (by kernel_rfl)) ?_
        clear hK K
        try (go_simp; (try go_bits))
        refine mix_nil ?_
        go_wp2
        go_roundw
        case rel => exact ⟨k + 1, by omega, by go_num, by rw [hst.out, List.map_append]; exact hown1, hb1⟩
        case measure => simp [intOf]; omega
      · obtain rfl : k = s.size := by omega
        have hs := string_own (d := 9) Tryd.underlying32 Tryd.underlying5 Tryd.underlying9 hown
        rw [hfin] at hs
        go_wp2
        go_ret2
        exact ⟨by rw [hv.out]; rfl, hb⟩
  · have hv := Lib.hid (show hex s = (ByteArray.empty, false) by unfold hex; rw [if_neg h])
    go_enter Tryd.func26, Tryd.ntmps26
    go_wp2
    go_ret2
    exact ⟨by rw [hv.out]; rfl, Below.refl _ _⟩
end Go.Proofs.YtklhfjeonhjobaaDoor.Hex
