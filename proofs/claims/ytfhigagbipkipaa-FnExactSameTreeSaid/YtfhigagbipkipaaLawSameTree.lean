/-
  FnExactSameTree: impl.SameTree and spec.SameTree answer the same for every two lists of nodes.
  Conditions: none beyond the statement's own.
-/
import Derived.Test.YtfhigagbipkipaaRows
import Derived.Test.YtfhigagbipkipaaTree
import Derived.Test.YtfhigagbipkipaaNodesArgs
import Derived.Test.YtfhigagbipkipaaPost
import Derived.WalkKit
import Derived.ProofKit
import Derived.OpenShut
namespace Go.Proofs.Ytfhigagbipkipaa.lawSameTree
open Go.ChangeShapes Go.WideShapes Go.ChangeAt Go.RowKit Go.Proofs.Ytfhigagbipkipaa.Mix Go.Proofs.Ytfhigagbipkipaa.Row Go.Proofs.Ytfhigagbipkipaa.Nodes
set_option linter.unusedVariables false
set_option maxRecDepth 100000 in
set_option maxHeartbeats 3200000 in
theorem walkN {v0 v1 : Value} {xs ys : List N} {w : World} (h0 : NRow w v0 xs) (h1 : NRow w v1 ys) (hx : ∀ x ∈ xs, x.t.size ≤ maxLen) (hy : ∀ x ∈ ys, x.t.size ≤ maxLen) :
    Calls Try.prog 4 #[v0, v1] w fun e w' => e = .returned (.bool true) ∧ Below w.heap.size w w' := by
  obtain ⟨A0, c0, e0, -⟩ := id h0.1
  obtain ⟨A1, c1, e1, -⟩ := id h1.1
  have z0 := Lib.hid (sz_any h0 hx 1048576 (by omega) (by omega))
  rcases sz_cases xs 1048576 (by omega) with ⟨r, hr, r0, r1, hlx, htx⟩ | hr
  · rw [hr] at z0
    have d0 : decide (r < 0) = false := by simp; omega
    have z1 := Lib.hid (fun (W : World) (hW : NRow W v1 ys) => sz_any hW hy r r0 (by omega))
    rcases sz_cases ys r r0 with ⟨s, hs, s0, s1, hly, hty⟩ | hs
    · simp only [hs] at z1
      have d1 : decide (s < 0) = false := by simp; omega
      have vx : Hid (∀ x ∈ xs, x.kids.length * 8 ≤ 140737488355328) := Lib.hid (fun x hx => by have := tot_mem hx; omega)
      have vy : Hid (∀ x ∈ ys, x.kids.length * 8 ≤ 140737488355328) := Lib.hid (fun x hx => by have := tot_mem hx; omega)
      clear hr hs htx hty
      subst e0 e1
      replace h0 := Lib.hid h0
      replace h1 := Lib.hid h1
      replace hx := Lib.hid hx
      replace hy := Lib.hid hy
      replace hlx : xs.length * 56 ≤ 140737488355328 := by omega
      replace hly : ys.length * 56 ≤ 140737488355328 := by omega
      go_enter Try.func4, Try.ntmps4
      go_wp2_with fail
      refine z0.out.mono ?_
      rintro e w1 ⟨rfl, b1⟩
      go_wp2_with fail
      refine (z1.out _ (h1.out.below b1)).mono ?_
      rintro e w2 ⟨rfl, b2⟩
      replace b2 := thenBelow b1 b2
      clear b1 z0 z1
      go_wp2_with fail
      refine (to_any (h0.out.below b2) hlx vx.out).mono ?_
      rintro e w3 ⟨xs3, rfl, a3, o3, b3⟩
      replace b3 := thenBelow b2 b3
      replace o3 := Lib.hid o3
      replace a3 := Lib.hid a3
      clear b2
      go_wp2_with fail
      refine (to_any (h1.out.below b3) hly vy.out).mono ?_
      rintro e w4 ⟨ys4, rfl, a4, o4, b4⟩
      replace o3 := Lib.hid (o3.out.below b4)
      replace b4 := thenBelow b3 b4
      replace o4 := Lib.hid o4
      have hsm := Lib.hid (show same xs3 ys4 = same xs ys by unfold same; rw [a3.out, a4])
      clear b3 a3 a4
      go_wp2_with fail
      refine (spec_tree o3.out o4.out).mono ?_
      rintro e w5 ⟨rfl, b5⟩
      rw [hsm.out]
      replace b5 := thenBelow b4 b5
      clear o3 o4 b4 hsm
      go_wp2_with fail
      refine (to_any (h0.out.below b5) hlx vx.out).mono ?_
      rintro e w6 ⟨xs6, rfl, a6, o6, b6⟩
      replace b6 := thenBelow b5 b6
      replace o6 := Lib.hid o6
      replace a6 := Lib.hid a6
      clear b5
      go_wp2_with fail
      refine (to_any (h1.out.below b6) hly vy.out).mono ?_
      rintro e w7 ⟨ys7, rfl, a7, o7, b7⟩
      replace o6 := Lib.hid (o6.out.below b7)
      replace b7 := thenBelow b6 b7
      replace o7 := Lib.hid o7
      replace a7 := Lib.hid a7
      have hsm := Lib.hid (show same xs6 ys7 = same xs ys by unfold same; rw [a6.out, a7.out])
      clear b6
      go_wp2_with fail
      refine (impl_tree o6.out o7.out).mono ?_
      rintro e w8 ⟨rfl, b8⟩
      rw [hsm.out]
      replace o6 := Lib.hid (o6.out.below b8)
      replace o7 := Lib.hid (o7.out.below b8)
      replace b8 := thenBelow b7 b8
      clear b7 hsm
      generalize same xs ys = q at *
      have dq : (q != q) = false := by simp
      go_wp2_with fail
      refine (to_any (h0.out.below b8) hlx vx.out).mono ?_
      rintro e w9 ⟨xs9, rfl, a9, o9, b9⟩
      replace o6 := Lib.hid (o6.out.below b9)
      replace o7 := Lib.hid (o7.out.below b9)
      replace b9 := thenBelow b8 b9
      replace o9 := Lib.hid o9
      replace a9 := Lib.hid a9
      clear b8
      go_wp2_with fail
      refine (eq_self o6.out o9.out (a6.out.trans a9.out.symm)).mono ?_
      rintro e w10 ⟨rfl, b10⟩
      replace o7 := Lib.hid (o7.out.below b10)
      replace b10 := thenBelow b9 b10
      clear o9 o6 b9 a9 a6
      go_wp2_with fail
      refine (to_any (h1.out.below b10) hly vy.out).mono ?_
      rintro e w11 ⟨ys11, rfl, a11, o11, b11⟩
      replace o7 := Lib.hid (o7.out.below b11)
      replace b11 := thenBelow b10 b11
      replace o11 := Lib.hid o11
      replace a11 := Lib.hid a11
      clear b10
      go_wp2_with fail
      refine (eq_self o7.out o11.out (a7.out.trans a11.out.symm)).mono ?_
      rintro e w12 ⟨rfl, b12⟩
      replace b12 := thenBelow b11 b12
      go_wp2
      go_ret
      exact ⟨rfl, b12⟩
    · simp only [hs] at z1
      clear hr hs
      subst e0 e1
      replace h0 := Lib.hid h0
      replace h1 := Lib.hid h1
      replace hx := Lib.hid hx
      replace hy := Lib.hid hy
      go_enter Try.func4, Try.ntmps4
      go_wp2_with fail
      refine z0.out.mono ?_
      rintro e w1 ⟨rfl, b1⟩
      go_wp2_with fail
      refine (z1.out _ (h1.out.below b1)).mono ?_
      rintro e w2 ⟨rfl, b2⟩
      go_wp2
      go_ret
      exact ⟨rfl, thenBelow b1 b2⟩
  · rw [hr] at z0
    clear hr
    subst e0 e1
    replace h0 := Lib.hid h0
    replace h1 := Lib.hid h1
    replace hx := Lib.hid hx
    replace hy := Lib.hid hy
    go_enter Try.func4, Try.ntmps4
    go_wp2_with fail
    refine z0.out.mono ?_
    rintro e w1 ⟨rfl, b1⟩
    go_wp2
    go_ret
    exact ⟨rfl, b1⟩
theorem walk (v0 : Value) {base : Nat} {w : World} (o0 : Value.okWide Try.prog w .any base 33 v0) {H : Type} {enc : TypeId × Value → H} {d0 : DataW H} {p0 : List MemPlace} (h0 : DataW.Trod enc Try.prog w 0 (fun _ => true) true 33 v0 d0 p0)
    (v1 : Value) (o1 : Value.okWide Try.prog w .any base 33 v1) {d1 : DataW H} {p1 : List MemPlace} (h1 : DataW.Trod enc Try.prog w 0 (fun _ => true) true 33 v1 d1 p1) :
    Calls Try.prog 4 #[v0, v1] w fun e w' => e = .returned (.bool true) ∧ Below w.heap.size w w' := by
  obtain ⟨xs, hx, hx1⟩ := row_nodes o0 h0
  obtain ⟨ys, hy, hy1⟩ := row_nodes o1 h1
  exact walkN hx hy hx1 hy1
theorem own : ownKnob Try.prog.godebug = none := by kernel_rfl
theorem laidOut : laidOutB Try.prog = true := by kernel_rfl
set_option maxRecDepth 100000 in
theorem lifted (os : Os) (started : os.Started) (H : Type) (enc : TypeId × Value → H) :
    ReturnsInHanded {} Try.checked os 4 .any (Rows.fnExactSameTreeSpec.pre6 enc Try.prog Try.f4 Rows.fnExactSameTreeRow.domain false) (Rows.fnExactSameTreeSpec.post enc Try.prog Try.f4 false true false false) := by
  refine returnsInHanded_of_change (C := Try.checked) own started (by kernel_rfl) Try.func4
    (ChangeSpec.witness6 (enc := enc) (C := Try.checked) false ⟨#[], #[.slice none 0 0, .slice none 0 0], []⟩ 8 (by kernel_rfl) (by kernel_rfl) (by kernel_rfl) (by kernel_rfl)) ?_
  intro W base args ds gs before hval0 hW hcnd _
  have hval : ∀ (j : Nat) t v, Try.f4.params[j]? = some t → args[j]? = some v → Value.okWide Try.prog W .any base t v := hval0
  have hW' := hW
  obtain ⟨p, q, hA0, hV, rfl, hfz, hnd⟩ := hW
  have hA : DataW.TrodAll enc Try.prog W 0 (fun _ => true) true Try.f4.params.toList args.toList ds p := hA0
  rw [Try.params4] at hA hval
  obtain ⟨v0, vs0, d0, ds0, p0, q0, hargs, rfl, rfl, h0, r0⟩ := trodAll_cons hA
  obtain ⟨v1, vs1, d1, ds1, p1, q1, rfl, rfl, rfl, h1, r1⟩ := trodAll_cons r0
  obtain ⟨rfl, rfl, rfl⟩ := trodAll_nil r1
  obtain rfl : args = #[v0, v1] := by cases args; simp_all
  obtain ⟨rfl, rfl⟩ := trodVars_none hV
  have k0 := h0
  have o0 := hval 0 33 v0 rfl rfl
  have k1 := h1
  have o1 := hval 1 33 v1 rfl rfl
  clear hA0 hval0
  simp only [List.append_nil] at hW'
  have hlt := fun x hx => DataW.Whole.lt hW' x hx
  refine (walk v0 o0 h0 v1 o1 h1).mono fun e W' ⟨he, hg⟩ => ?_
  subst he
  exact ⟨_, rfl, Post.post_of_below (pa := p0 ++ (p1 ++ ([]))) (pv := []) hW' (fun _ _ _ => (trodAll_cons_mk (shut_bool Try.underlying4 _) trodAll_mk0)) (fun sp hsp => (trodAll_cons_mk (Post.stays laidOut (by kernel_rfl) (of_decide_eq_true (by kernel_rfl)) k0 hg (fun x hx => by first | (cases hx; done) | simp [hx]) hlt hsp) (trodAll_cons_mk (Post.stays laidOut (by kernel_rfl) (of_decide_eq_true (by kernel_rfl)) k1 hg (fun x hx => by first | (cases hx; done) | simp [hx]) hlt hsp) trodAll_mk0))) (fun _ _ => rfl) (by simp)
    hg (ok_one (by kernel_rfl) rfl (okWide_bool_mk Try.underlying4 _))⟩

theorem over : Rows.fnExactSameTreeRow.holds Try.pinned (OpenSpec.ofChange Rows.fnExactSameTreeSpec) :=
  OpenClaim.holds_of_wide 4 Try.f4 rfl rfl rfl rfl rfl rfl rfl ⟨rfl, rfl, rfl, rfl, rfl⟩ rfl rfl rfl rfl rfl (by kernel_rfl) Try.func4 (by kernel_rfl)
    (of_decide_eq_true (by kernel_rfl)) (by unfold Func.isWrapper; first | (rw [if_pos (by decide +kernel)]; kernel_rfl) | (rw [if_neg (by decide +kernel)]; exact ⟨rfl, rfl⟩))
    (fun os started H enc _ => lifted os started H enc)

/-- THE STATEMENT -/
theorem proved : Rows.FnExactSameTreeSaid :=
  over
end Go.Proofs.Ytfhigagbipkipaa.lawSameTree
