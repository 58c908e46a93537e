/-
  FnExactCompare: impl.Compare and spec.Compare answer the same for every two lists of numbers.
  Conditions: none beyond the statement's own.
-/
import Derived.Test.YtjhjgeinpnghfaaRows
import Derived.Test.YtjhjgeinpnghfaaCompare
import Derived.Test.YtjhjgeinpnghfaaInts
import Derived.Test.YtjhjgeinpnghfaaArgs
import Derived.Test.YtjhjgeinpnghfaaPost
import Derived.WalkKit
import Derived.ProofKit
import Derived.OpenShut
namespace Go.Proofs.Ytjhjgeinpnghfaa.lawCompare
open Go.ChangeShapes Go.WideShapes Go.ChangeAt Go.RowKit Go.Proofs.Ytjhjgeinpnghfaa.Mix Go.Proofs.Ytjhjgeinpnghfaa.Row Go.Proofs.Ytjhjgeinpnghfaa.Compare Go.Proofs.Ytjhjgeinpnghfaa.Ints
set_option linter.unusedVariables false
set_option maxHeartbeats 1000000 in
theorem walkN {v0 v1 : Value} {xs ys : List Int} {w : World} (h0 : Row w v0 1 xs.length (ints xs)) (h1 : Row w v1 1 ys.length (ints ys)) :
    Calls Try.prog 13 #[v0, v1] w fun e w' => e = .returned (.bool true) ∧ Below w.heap.size w w' := by
  have hl0 : xs.length ≤ 9223372036854775807 := by obtain ⟨_, _, _, _, h, _⟩ := h0; exact h
  have hl1 : ys.length ≤ 9223372036854775807 := by obtain ⟨_, _, _, _, h, _⟩ := h1; exact h
  obtain ⟨A0, c0, e0, -⟩ := id h0
  obtain ⟨A1, c1, e1, -⟩ := id h1
  by_cases hx : xs.length ≤ 1048576
  · have d0 : decide ((1048576 : Int) < (xs.length : Int)) = false := by simp; omega
    by_cases hy : ys.length ≤ 1048576
    · have d1 : decide ((1048576 : Int) < (ys.length : Int)) = false := by simp; omega
      subst e0 e1
      replace h0 := Lib.hid h0
      replace h1 := Lib.hid h1
      have hc1 := Lib.hid (show (xs == xs) = true by simp)
      have hc2 := Lib.hid (show (ys == ys) = true by simp)
      go_enter Try.func13, Try.ntmps13
      go_wp2_with fail
      refine (to_any h0.out (by omega)).mono ?_
      rintro e w1 ⟨rfl, o1, b1⟩
      go_wp2_with fail
      refine (to_any (h1.out.below b1) (by omega)).mono ?_
      rintro e w2 ⟨rfl, o2, b2⟩
      go_wp2_with fail
      refine (spec_Compare (o1.below b2).row o2.row).mono ?_
      rintro e w3 ⟨rfl, b3⟩
      replace b3 := thenBelow (thenBelow b1 b2) b3
      clear o1 o2 b1 b2
      go_wp2_with fail
      refine (to_any (h0.out.below b3) (by omega)).mono ?_
      rintro e w4 ⟨rfl, o4, b4⟩
      go_wp2_with fail
      refine (to_any (h1.out.below (thenBelow b3 b4)) (by omega)).mono ?_
      rintro e w5 ⟨rfl, o5, b5⟩
      replace o4 := o4.below b5
      replace b5 := thenBelow (thenBelow b3 b4) b5
      replace o4 := Lib.hid o4
      replace o5 := Lib.hid o5
      clear b3 b4
      go_wp2_with fail
      refine (impl_Compare o4.out.row o5.out.row).mono ?_
      rintro e w6 ⟨rfl, rfl⟩
      go_wp2_with fail
      refine (to_any (h0.out.below b5) (by omega)).mono ?_
      rintro e w7 ⟨rfl, o7, b7⟩
      go_wp2_with fail
      refine (eq_any (o4.out.below b7).row o7.row).mono ?_
      rintro e w8 ⟨rfl, b8⟩
      rw [hc1.out]
      replace b8 := thenBelow b7 b8
      clear o7
      go_wp2_with fail
      refine (to_any (h1.out.below (thenBelow b5 b8)) (by omega)).mono ?_
      rintro e w9 ⟨rfl, o9, b9⟩
      go_wp2_with fail
      refine (eq_any (o5.out.below (thenBelow b8 b9)).row o9.row).mono ?_
      rintro e w10 ⟨rfl, b10⟩
      rw [hc2.out]
      go_wp2
      go_ret
      exact ⟨rfl, thenBelow (thenBelow b5 b8) (thenBelow b9 b10)⟩
    · have d1 : decide ((1048576 : Int) < (ys.length : Int)) = true := by simp; omega
      subst e0 e1
      go_enter Try.func13, Try.ntmps13
      go_wp2
      go_ret
      exact ⟨rfl, Below.refl _ _⟩
  · have d0 : decide ((1048576 : Int) < (xs.length : Int)) = true := by simp; omega
    subst e0 e1
    go_enter Try.func13, Try.ntmps13
    go_wp2
    go_ret
    exact ⟨rfl, Below.refl _ _⟩
theorem cells1 : Try.prog.cellsOf 3 = 1 := by kernel_rfl
theorem walk (v0 : Value) {base : Nat} {w : World} (o0 : Value.okWide Try.prog w .any base 40 v0) {H : Type} {enc : TypeId × Value → H} {d0 : DataW H} {p0 : List MemPlace} (h0 : DataW.Trod enc Try.prog w 0 (fun _ => true) true 40 v0 d0 p0)
    (v1 : Value) (o1 : Value.okWide Try.prog w .any base 40 v1) {d1 : DataW H} {p1 : List MemPlace} (h1 : DataW.Trod enc Try.prog w 0 (fun _ => true) true 40 v1 d1 p1) :
    Calls Try.prog 13 #[v0, v1] w fun e w' => e = .returned (.bool true) ∧ Below w.heap.size w w' := by
  obtain ⟨xs, hx, _⟩ := Args.row_ints Try.underlying40 Try.underlying3 cells1 o0 h0
  obtain ⟨ys, hy, _⟩ := Args.row_ints Try.underlying40 Try.underlying3 cells1 o1 h1
  exact walkN hx hy
theorem own : ownKnob Try.prog.godebug = none := by kernel_rfl
theorem laidOut : laidOutB Try.prog = true := by kernel_rfl
set_option maxRecDepth 100000 in
theorem lifted (os : Os) (started : os.Started) (H : Type) (enc : TypeId × Value → H) :
    ReturnsInHanded {} Try.checked os 13 .any (Rows.fnExactCompareSpec.pre6 enc Try.prog Try.f13 Rows.fnExactCompareRow.domain false) (Rows.fnExactCompareSpec.post enc Try.prog Try.f13 false true false false) := by
  refine returnsInHanded_of_change (C := Try.checked) own started (by kernel_rfl) Try.func13
    (ChangeSpec.witness6 (enc := enc) (C := Try.checked) false ⟨#[], #[.slice none 0 0, .slice none 0 0], []⟩ 8 (by kernel_rfl) (by kernel_rfl) (by kernel_rfl) (by kernel_rfl)) ?_
  intro W base args ds gs before hval0 hW hcnd _
  have hval : ∀ (j : Nat) t v, Try.f13.params[j]? = some t → args[j]? = some v → Value.okWide Try.prog W .any base t v := hval0
  have hW' := hW
  obtain ⟨p, q, hA0, hV, rfl, hfz, hnd⟩ := hW
  have hA : DataW.TrodAll enc Try.prog W 0 (fun _ => true) true Try.f13.params.toList args.toList ds p := hA0
  rw [Try.params13] at hA hval
  obtain ⟨v0, vs0, d0, ds0, p0, q0, hargs, rfl, rfl, h0, r0⟩ := trodAll_cons hA
  obtain ⟨v1, vs1, d1, ds1, p1, q1, rfl, rfl, rfl, h1, r1⟩ := trodAll_cons r0
  obtain ⟨rfl, rfl, rfl⟩ := trodAll_nil r1
  obtain rfl : args = #[v0, v1] := by cases args; simp_all
  obtain ⟨rfl, rfl⟩ := trodVars_none hV
  have k0 := h0
  have o0 := hval 0 40 v0 rfl rfl
  have k1 := h1
  have o1 := hval 1 40 v1 rfl rfl
  clear hA0 hval0
  simp only [List.append_nil] at hW'
  have hlt := fun x hx => DataW.Whole.lt hW' x hx
  refine (walk v0 o0 h0 v1 o1 h1).mono fun e W' ⟨he, hg⟩ => ?_
  subst he
  exact ⟨_, rfl, Post.post_of_below (pa := p0 ++ (p1 ++ ([]))) (pv := []) hW' (fun _ _ _ => (trodAll_cons_mk (shut_bool Try.underlying4 _) trodAll_mk0)) (fun sp hsp => (trodAll_cons_mk (Post.stays laidOut (by kernel_rfl) (of_decide_eq_true (by kernel_rfl)) k0 hg (fun x hx => by first | (cases hx; done) | simp [hx]) hlt hsp) (trodAll_cons_mk (Post.stays laidOut (by kernel_rfl) (of_decide_eq_true (by kernel_rfl)) k1 hg (fun x hx => by first | (cases hx; done) | simp [hx]) hlt hsp) trodAll_mk0))) (fun _ _ => rfl) (by simp)
    hg (ok_one (by kernel_rfl) rfl (okWide_bool_mk Try.underlying4 _))⟩

theorem over : Rows.fnExactCompareRow.holds Try.pinned (OpenSpec.ofChange Rows.fnExactCompareSpec) :=
  OpenClaim.holds_of_wide 13 Try.f13 rfl rfl rfl rfl rfl rfl rfl ⟨rfl, rfl, rfl, rfl, rfl⟩ rfl rfl rfl rfl rfl (by kernel_rfl) Try.func13 (by kernel_rfl)
    (of_decide_eq_true (by kernel_rfl)) (by unfold Func.isWrapper; first | (rw [if_pos (by decide +kernel)]; kernel_rfl) | (rw [if_neg (by decide +kernel)]; exact ⟨rfl, rfl⟩))
    (fun os started H enc _ => lifted os started H enc)

/-- THE STATEMENT -/
theorem proved : Rows.FnExactCompareSaid :=
  over
end Go.Proofs.Ytjhjgeinpnghfaa.lawCompare
