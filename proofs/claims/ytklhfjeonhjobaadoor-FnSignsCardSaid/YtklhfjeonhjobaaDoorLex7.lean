/-
  The contract of spec.SignsOf.
  Conditions: a text of 2^20 bytes at most.
-/
import Derived.Test.YtklhfjeonhjobaaDoorLex6
namespace Go.Proofs.YtklhfjeonhjobaaDoor.Scan
open Go.RowKit Go.Proofs.YtklhfjeonhjobaaDoor.Row Go.Proofs.YtklhfjeonhjobaaDoor.Mem Go.Proofs.YtklhfjeonhjobaaDoor.Mix Go.Proofs.YtklhfjeonhjobaaDoor.Blocks Go.Proofs.YtklhfjeonhjobaaDoor.Recs Go.Proofs.YtklhfjeonhjobaaDoor.Owns
open Go.Proofs.YtklhfjeonhjobaaDoor.Sign (Sign signs sign)
set_option maxRecDepth 100000 in
set_option maxHeartbeats 3200000 in
theorem spec_Signs (t : ByteArray) (hs : t.size ≤ 1048576) (w : World) : Calls Tryd.prog 40 #[.string t] w fun e w' =>
    ∃ v', e = .returned (.tuple #[v', .int .i64 ((signsOf t).2.1 : Nat), .bool (signsOf t).2.2]) ∧ w'.ownsRow w.heap.size 61 4 v' (signsOf t).1.length (signs (signsOf t).1) ∧ Below w.heap.size w w' := by
  by_cases h3 : 3000 < t.size
  · have hv := Lib.hid (show signsOf t = ([], 3000, false) by unfold signsOf; rw [if_neg (by omega)])
    have d1 : decide ((3000 : Int) < (t.size : Int)) = true := by simp; omega
    go_enter Tryd.func40, Tryd.ntmps40
    go_wp2
    go_ret3
    rw [hv.out]
    exact ⟨_, rfl, own_emptyG _ _ _, (Below.refl _ _).alloc (Nat.le_refl _) _⟩
  · have d1 : decide ((3000 : Int) < (t.size : Int)) = false := by simp; omega
    have hv := Lib.hid (show signsOf t = scan t 0 0 [] by unfold signsOf; rw [if_pos (by omega)])
    go_enter Tryd.func40, Tryd.ntmps40
    go_wp2
    go_loopw [5, 6, 7] (fun o i b wr => ∃ (a br : Nat) (xs : List Sign), a ≤ t.size ∧ i = .int .i64 a ∧ b = .int .i64 br ∧ br ≤ a ∧ xs.length ≤ a ∧ Hid (scan t a br xs = signsOf t) ∧ wr.ownsRow w.heap.size 61 4 o xs.length (signs xs) ∧ Below w.heap.size w wr) (fun _ i _ _ => t.size - (intOf i).toNat)
    case atStart => exact ⟨0, 0, [], by omega, rfl, rfl, by omega, by simp, Lib.hid hv.out.symm, own_emptyG _ _ _, (Below.refl _ _).alloc (Nat.le_refl _) _⟩
    case round =>
      obtain ⟨a, br, xs, ha, rfl, rfl, hbr, hxl, hsc, hown, hbw⟩ := hrel
      have hsB := hbw.size
      by_cases hlt : a < t.size
      · have i0 : (0 : Int) ≤ (a : Int) := by omega
        have i1 : (a : Int) < (t.size : Int) := by omega
        by_cases h32 : t[a] = 32
        · have e1 : ((t[a].toNat : Int) == 32) = true := by rw [h32]; rfl
          have hon := Lib.hid ((scan_blank hlt h32).symm.trans hsc.out)
          replace hown := Lib.hid hown
          replace h32 := Lib.hid h32
          go_wp2
          go_roundw
          case rel => exact ⟨a + 1, br, xs, by omega, by go_num, rfl, by omega, by omega, hon, hown.out, hbw⟩
          case measure => simp [intOf]; omega
        · have e1 : ((t[a].toNat : Int) == 32) = false := beq_eq_false_iff_ne.2 (fun e => h32 (UInt8.toNat_inj.1 (show t[a].toNat = 32 by omega)))
          by_cases h10 : t[a] = 10
          · have e2 : ((t[a].toNat : Int) == 10) = true := by rw [h10]; rfl
            have hon := Lib.hid ((scan_line hlt h10).symm.trans hsc.out)
            replace hown := Lib.hid hown
            replace h32 := Lib.hid h32
            replace h10 := Lib.hid h10
            go_wp2
            go_roundw
            case rel => exact ⟨a + 1, br + 1, xs, by omega, by go_num, by go_num, by omega, by omega, hon, hown.out, hbw⟩
            case measure => simp [intOf]; omega
          · have e2 : ((t[a].toNat : Int) == 10) = false := beq_eq_false_iff_ne.2 (fun e => h10 (UInt8.toNat_inj.1 (show t[a].toNat = 10 by omega)))
            have hcall := sign_s t a hlt hs wr
            have hle := sign_le hlt t[a]
            have hnone := fun h => scan_none (br := br) (xs := xs) hlt h32 h10 h
            have hsome := fun h => scan_sign (br := br) (xs := xs) hlt h32 h10 h
            rw [hsc.out] at hnone hsome
            replace hcall := Lib.hid hcall
            replace hnone := Lib.hid hnone
            replace hsome := Lib.hid hsome
            generalize signN t a t[a] = S at *
            obtain ⟨Sk, St, Sn⟩ := S
            dsimp only at hle
            replace h32 := Lib.hid h32
            replace h10 := Lib.hid h10
            replace hown := Lib.hid hown
            go_wp2_with fail
            refine hcall.out.mono ?_
            rintro e w1 ⟨k, p, x, rfl, hval, b1⟩
            dsimp only at hval ⊢
            have hB1 := hbw.trans (b1.mono hsB)
            have hown1 := own_below hown.out b1
            have hs1 := hB1.size
            clear hcall hown hbw b1
            by_cases hn0 : Sn = 0
            · have dn : ((Sn : Int) == 0) = true := by rw [hn0]; rfl
              have hfin := Lib.hid (hnone.out hn0)
              have hB2 := (hB1.alloc hs1 (.cells #[.int .i64 k, .string x, .int .i64 p, .bool false] 61)).alloc (by simp; omega) (.cells #[] 61)
              have hoe := own_mono (base' := w.heap.size) (own_emptyG (w1.alloc (.cells #[.int .i64 k, .string x, .int .i64 p, .bool false] 61)) 61 4) (by simp; omega)
              rw [show (w1.alloc (.cells #[.int .i64 k, .string x, .int .i64 p, .bool false] 61)).heap.size = w1.heap.size + 1 by simp] at hoe
              replace hval := Lib.hid hval
              replace hown1 := Lib.hid hown1
              replace hn0 := Lib.hid hn0
              replace hoe := Lib.hid hoe
              replace hB2 := Lib.hid hB2
              go_wp2
              go_ret3
              rw [hfin.out]
              exact ⟨_, rfl, hoe.out, hB2.out⟩
            · have dn : ((Sn : Int) == 0) = false := beq_eq_false_iff_ne.2 (by omega)
              obtain ⟨rfl, rfl, rfl⟩ := hval hn0
              have hon := Lib.hid (hsome.out hn0).symm
              have db : decide ((1 : Int) < (br : Int)) = decide (1 < br) := by rw [decide_eq_decide]; omega
              obtain ⟨bb, hbb⟩ : ∃ b, decide (1 < br) = b := ⟨_, rfl⟩
              rw [hbb] at db hon
              replace hbb := Lib.hid hbb
              -- the sign's block
              have a3 := (Below.refl w1.heap.size w1).alloc (Nat.le_refl _) (.cells #[.int .i64 k, .string x, .int .i64 a, .bool bb] 61)
              obtain ⟨w3, hw3⟩ : ∃ W, w1.alloc (.cells #[.int .i64 k, .string x, .int .i64 a, .bool bb] 61) = W := ⟨_, rfl⟩
              have z3 : w3.heap.size = w1.heap.size + 1 := by rw [← hw3]; simp
              rw [hw3] at a3
              have hown3 := own_below hown1 a3
              have hB3 := hB1.trans (a3.mono hs1)
              obtain ⟨v', w', hrun, hown', hb', -, -⟩ := append_at EZ hown3 hB3 (w1.heap.size + 1) z3 [.int .i64 k, .string x, .int .i64 a, .bool bb] 1 rfl (by simp [Value.oneCell']) (by simp only [maxLen]; omega) (by omega)
              rw [← hw3] at hrun
              have hsn := sgn_snoc xs ⟨k, x, a, bb⟩
              (try dsimp only at hsn)
              rw [hsn, ← List.length_singleton (a := (⟨k, x, a, bb⟩ : Sign)), ← List.length_append] at hown'
              replace hown' := Lib.hid hown'
              replace hb' := Lib.hid hb'
              have hnb : (Sn : Int) ≤ 1048576 := by omega
              have hn0h := Lib.hid hn0
              clear hown1 hB1 hsn hval hnone hsome a3 hw3 z3 hown3 hB3
              go_wp2_with (at_builtin; refine wpList_append_run rfl rfl hrun ?_)
              go_roundw
              case rel => exact ⟨a + Sn, 0, _, by omega, by go_num, rfl, by omega, by simp; omega, hon, hown'.out, hb'.out⟩
              case measure => simp [intOf]; omega
      · have hfin := Lib.hid ((scan_end (br := br) (xs := xs) hlt).symm.trans hsc.out)
        obtain ⟨Ao, co, rfl, -, on, onc, ocm, -⟩ := row_of_owns hown
        replace hown := Lib.hid hown
        go_wp2
        go_ret3
        rw [← hfin.out]
        exact ⟨_, rfl, hown.out, hbw⟩
end Go.Proofs.YtklhfjeonhjobaaDoor.Scan
