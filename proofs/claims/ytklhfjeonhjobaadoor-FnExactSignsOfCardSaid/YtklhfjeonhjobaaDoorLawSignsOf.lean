/-
  FnExactSignsOf: impl.SignsOf and spec.SignsOf return the same for every text, in memory of their own: the tied card.
  Conditions: none beyond the statement's own.
-/
import Derived.Test.YtklhfjeonhjobaaDoorRows
import Derived.Test.YtklhfjeonhjobaaDoorCards
import Derived.Test.YtklhfjeonhjobaaDoorTie
import Derived.Test.YtklhfjeonhjobaaDoorLex7
import Derived.Test.YtklhfjeonhjobaaDoorHeldSigns
import Derived.Test.YtklhfjeonhjobaaDoorPost
import Derived.WalkKit
import Derived.ProofKit
import Derived.OpenShut
import Derived.ShutString
import Derived.LaidMore
import Derived.Lay
import Derived.Stop.Joined
import Derived.SevenTiedAt
namespace Go.Proofs.YtklhfjeonhjobaaDoor.lawSignsOf
open Go.ChangeShapes Go.WideShapes Go.ChangeAt Go.RowKit Go.Proofs.YtklhfjeonhjobaaDoor.Mix Go.Proofs.YtklhfjeonhjobaaDoor.Row Go.Proofs.YtklhfjeonhjobaaDoor.Mem Go.Proofs.YtklhfjeonhjobaaDoor.Owns Go.Proofs.YtklhfjeonhjobaaDoor.Sign Go.Proofs.YtklhfjeonhjobaaDoor.Scan
open Go.ChangeMaps (open_string shut_string)
set_option linter.unusedVariables false
theorem eq_signs {v1 v2 : Value} {xs : List Sign} {b1 b2 : Nat} {w : World} (h1 : w.ownsRow b1 61 4 v1 xs.length (signs xs)) (h2 : w.ownsRow b2 61 4 v2 xs.length (signs xs)) :
    Calls Tryd.prog 42 #[v1, v2] w fun e w' => e = .returned (.bool true) ∧ Below w.heap.size w w' := Sign.eq_self (row_of_owns h1) (row_of_owns h2)
set_option maxRecDepth 100000 in
set_option maxHeartbeats 3200000 in
theorem walk (s : ByteArray) (hs : s.size ≤ maxLen) (w : World) :
    Calls Tryd.prog 8 #[.string s] w fun e w' => e = .returned (.bool true) ∧ Below w.heap.size w w' := by
  unfold maxLen at hs
  by_cases hb : s.size ≤ 1048576
  · have d1 : decide ((1048576 : Int) < (s.size : Int)) = false := by simp; omega
    have c1 := Lib.hid (spec_Signs s hb w)
    have hc2 := Lib.hid (fun (W : World) => impl_Signs s hb W)
    have hll := signsOf_len s
    generalize (signsOf s).1 = xs at *
    generalize (signsOf s).2.1 = at1 at *
    generalize (signsOf s).2.2 = bb at *
    have da : ((at1 : Int) != (at1 : Int)) = false := by simp
    have dbb : (bb != bb) = false := by simp
    obtain ⟨Q, hQ⟩ : ∃ K, K = 1 + xs.length * 4 := ⟨_, rfl⟩
    have hq1 : 1 + xs.length * 4 ≤ 1099511627776 := by omega
    have dq : decide ((Q : Int) < 0) = false := decide_eq_false (by omega)
    have dm : ((Q : Int) != (Q : Int)) = false := by simp
    replace hQ := Lib.hid hQ
    replace hq1 := Lib.hid hq1
    clear hll
    go_enter Tryd.func8, Tryd.ntmps8
    go_wp2_with fail
    refine c1.out.mono ?_
    rintro e w1 ⟨vw, rfl, ow, b1⟩
    have lw := Lib.hid (fun q hq => (ow.lt q hq).2)
    replace ow := Lib.hid ow
    go_wp2_with fail
    refine (hc2.out _).mono ?_
    rintro e w2 ⟨vg, rfl, og, b2⟩
    have lg := Lib.hid (fun q hq => (og.lt q hq).1)
    have s1 := b1.size
    replace ow := Lib.hid (own_below ow.out b2)
    replace og := Lib.hid og
    replace b2 := thenBelow b1 b2
    clear b1
    go_wp2_with fail
    refine (eq_signs og.out ow.out).mono ?_
    rintro e w3 ⟨rfl, b3⟩
    replace ow := Lib.hid (own_below ow.out b3)
    replace og := Lib.hid (own_below og.out b3)
    replace b3 := thenBelow b2 b3
    clear b2
    go_wp2_with fail
    refine (MarkSigns.mark_any (k := 1) og.out (by omega) hq1.out).mono ?_
    rintro e w4 ⟨rfl, og4, k4⟩
    rw [← hQ.out]
    replace ow := Lib.hid (owns_kept ow.out k4 (fun q hq e => by have := lw.out q hq; have := lg.out q e; omega))
    have b4 := b3.grown k4 b3.size (fun q hq => by have := lg.out q hq; omega)
    replace og4 := Lib.hid og4
    clear b3 k4 og
    go_wp2_with fail
    refine (MarkSigns.held_any (k := 1) (row_of_owns og4.out) (by omega) hq1.out).mono ?_
    rintro e w5 ⟨rfl, b5⟩
    rw [← hQ.out]
    replace ow := Lib.hid (own_below ow.out b5)
    replace og4 := Lib.hid (own_below og4.out b5)
    replace b5 := thenBelow b4 b5
    clear b4
    go_wp2_with fail
    refine (hc2.out _).mono ?_
    rintro e w6 ⟨vh, rfl, oh, b6⟩
    replace ow := Lib.hid (own_below ow.out b6)
    replace og4 := Lib.hid (own_below og4.out b6)
    replace oh := Lib.hid oh
    replace b6 := thenBelow b5 b6
    clear b5
    go_wp2_with fail
    refine (eq_signs oh.out ow.out).mono ?_
    rintro e w7 ⟨rfl, b7⟩
    replace og4 := Lib.hid (own_below og4.out b7)
    replace b7 := thenBelow b6 b7
    clear b6 ow oh
    go_wp2_with fail
    refine (MarkSigns.held_any (k := 1) (row_of_owns og4.out) (by omega) hq1.out).mono ?_
    rintro e w8 ⟨rfl, b8⟩
    rw [← hQ.out]
    replace b8 := thenBelow b7 b8
    go_wp2
    go_ret
    exact ⟨rfl, b8⟩
  · have d1 : decide ((1048576 : Int) < (s.size : Int)) = true := by simp; omega
    go_enter Tryd.func8, Tryd.ntmps8
    go_wp2
    go_ret
    exact ⟨rfl, Below.refl _ _⟩
theorem own : ownKnob Tryd.prog.godebug = none := by kernel_rfl
theorem laidOut : laidOutB Tryd.prog = true := by kernel_rfl
set_option maxRecDepth 100000 in
theorem lifted (os : Os) (started : os.Started) (H : Type) (enc : TypeId × Value → H) :
    ReturnsInHanded {} Tryd.checked os 8 .any (fun w args => (Rows.fnExactSignsOfSpec.pre enc Tryd.prog Tryd.f8 [] false w args ∧ laidMetH Tryd.prog Rows.fnExactSignsOfRow.laid w) ∧ sizedMet enc Tryd.prog Tryd.f8 (OpenSpec.ofChange Rows.fnExactSignsOfSpec) false w args)
      (Rows.fnExactSignsOfSpec.post enc Tryd.prog Tryd.f8 false true false false) := by
  refine returnsInHanded_of_change_and (C := Tryd.checked) (X := fun w _ => laidMetH Tryd.prog Rows.fnExactSignsOfRow.laid w) (fun _ _ _ hh h => h.of_heap hh) own started (by kernel_rfl) Tryd.func8
    (ChangeSpec.witness_shaped (enc := enc) (C := Tryd.checked) (os := os) (X := fun w _ => laidMetH Tryd.prog Rows.fnExactSignsOfRow.laid w) false (World.laidAll Tryd.prog os Rows.fnExactSignsOfRow.laid) #[.string ByteArray.empty] 8 (World.laidAll_os _ _ _)
      (World.shaped_of_ZipB (by kernel_rfl) (by kernel_rfl)) (by kernel_rfl) (by kernel_rfl) (by kernel_rfl)
      (by rw [MakeChecks.laidMetH_plain _ _ _ (by kernel_rfl)]; exact laidMet_laidAll _ (by kernel_rfl) (by kernel_rfl))) ?_
  intro W base args ds gs before hval0 hW _ _ _ _
  have hval : ∀ (j : Nat) t v, Tryd.f8.params[j]? = some t → args[j]? = some v → Value.okWide Tryd.prog W .any base t v := hval0
  have hW' := hW
  obtain ⟨p, q, hA0, hV, rfl, hfz, hnd⟩ := hW
  have hA : DataW.TrodAll enc Tryd.prog W 0 (fun _ => true) true Tryd.f8.params.toList args.toList ds p := hA0
  rw [Tryd.params8] at hA hval
  obtain ⟨v0, vs0, d0, ds0, p0, q0, hargs, rfl, rfl, h0, r0⟩ := trodAll_cons hA
  obtain ⟨rfl, rfl, rfl⟩ := trodAll_nil r0
  obtain rfl : args = #[v0] := by cases args; simp_all
  obtain ⟨rfl, rfl⟩ := trodVars_none hV
  have k0 := h0
  obtain ⟨a0, rfl, rfl, rfl, w0⟩ := open_string Tryd.underlying9 (hval 0 9 v0 rfl rfl) h0
  clear hA0 hval0
  simp only [List.append_nil] at hW'
  have hlt := fun x hx => DataW.Whole.lt hW' x hx
  refine (walk a0 w0 W).mono fun e W' ⟨he, hg⟩ => ?_
  subst he
  exact ⟨_, rfl, Post.post_of_below (pa := [] ++ ([])) (pv := []) hW' (fun _ _ _ => (trodAll_cons_mk (shut_bool Tryd.underlying4 _) trodAll_mk0)) (fun sp hsp => (trodAll_cons_mk (Post.stays laidOut (by kernel_rfl) (of_decide_eq_true (by kernel_rfl)) k0 hg (fun x hx => by first | (cases hx; done) | simp [hx]) hlt hsp) trodAll_mk0)) (fun _ _ => rfl) (by simp)
    hg (ok_one (by kernel_rfl) rfl (okWide_bool_mk Tryd.underlying4 _))⟩

theorem over : Rows.fnExactSignsOfRow.holds Tryd.pinned (OpenSpec.ofChange Rows.fnExactSignsOfSpec) :=
  OpenClaim.holds_of_wide 8 Tryd.f8 rfl rfl rfl rfl rfl rfl rfl ⟨rfl, rfl, rfl, rfl, rfl⟩ rfl rfl rfl rfl rfl (by kernel_rfl) Tryd.func8 (by kernel_rfl)
    (of_decide_eq_true (by kernel_rfl)) (by unfold Func.isWrapper; first | (rw [if_pos (by decide +kernel)]; kernel_rfl) | (rw [if_neg (by decide +kernel)]; exact ⟨rfl, rfl⟩))
    (fun os started H enc _ => lifted os started H enc)

/-- THE STATEMENT: the tied card -/
theorem proved : Rows.FnExactSignsOfCardSaid :=
  Claim7.holds_tied_plain_at .later [] Rows.fnExactSignsOfCard.laidKinds true Rows.fnExactSignsOfCard.stood.harness Rows.fnExactSignsOfCard.stood.looks
    over (fun _ h => by cases h) (by kernel_rfl) (fun _ h => by cases h) fnExactSignsOf_row_tie rfl ⟨rfl, rfl⟩ (by kernel_rfl) rfl
    (fun f fn hf hfn => by
      obtain rfl : f = 8 := Option.some.inj ((show Tryd.prog.funcNamed "loop.example/g00459/laws.FnExactSignsOf" = some 8 by kernel_rfl).symm.trans hf) |>.symm
      obtain rfl : fn = Tryd.f8 := (Option.some.inj (Tryd.func8.symm.trans hfn)).symm
      exact ⟨by kernel_rfl, fun j t ht => by
        rw [Tryd.params8] at ht
        have hm : t ∈ [9] := by simpa using Array.mem_of_getElem? ht
        have hall : ([9].all fun u => !Tryd.prog.wantsStandIn u) = true := by kernel_rfl
        exact (show Tryd.prog.wantsStandIn t = false by simpa using List.all_eq_true.1 hall t hm)⟩)
    (by kernel_rfl)
end Go.Proofs.YtklhfjeonhjobaaDoor.lawSignsOf
