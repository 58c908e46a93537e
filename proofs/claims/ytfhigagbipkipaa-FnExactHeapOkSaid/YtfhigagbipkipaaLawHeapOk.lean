/-
  FnExactHeapOk: impl.HeapOk and spec.HeapOk answer the same for every list of states.
  Conditions: none beyond the statement's own.
-/
import Derived.Test.YtfhigagbipkipaaRows
import Derived.Test.YtfhigagbipkipaaStatesArgs
import Derived.Test.YtfhigagbipkipaaPost
import Derived.WalkKit
import Derived.ProofKit
import Derived.OpenShut
namespace Go.Proofs.Ytfhigagbipkipaa.lawHeapOk
open Go.ChangeShapes Go.WideShapes Go.ChangeAt Go.RowKit Go.Proofs.Ytfhigagbipkipaa.Mix Go.Proofs.Ytfhigagbipkipaa.Row Go.Proofs.Ytfhigagbipkipaa.States
set_option linter.unusedVariables false
set_option maxRecDepth 100000 in
set_option maxHeartbeats 1600000 in
theorem walkN {v0 : Value} {xs : List S} {w : World} (h0 : SRow w v0 xs) :
    Calls Try.prog 5 #[v0] w fun e w' => e = .returned (.bool true) ∧ Below w.heap.size w w' := by
  obtain ⟨A0, c0, e0, -⟩ := id h0.1
  have z0 := Lib.hid (sz_any h0 1048576 (by omega) (by omega))
  rcases sz_cases xs 1048576 (by omega) with ⟨r, hr, r0, r1, hlx, htx⟩ | hr
  · rw [hr] at z0
    have d0 : decide (r < 0) = false := by simp; omega
    have hv8 : Hid (∀ x ∈ xs, x.vals.length * 8 ≤ 140737488355328) := Lib.hid (fun x hx => by have := tot_mem hx; omega)
    replace hlx : xs.length * 32 ≤ 140737488355328 := by omega
    clear hr htx
    subst e0
    replace h0 := Lib.hid h0
    go_enter Try.func5, Try.ntmps5
    go_wp2_with fail
    refine z0.out.mono ?_
    rintro e w1 ⟨rfl, b1⟩
    go_wp2_with fail
    refine (to_any (h0.out.below b1) hlx hv8.out).mono ?_
    rintro e w2 ⟨ys, rfl, hy, o2, p2, b2⟩
    have hly : ys.length = xs.length := abs_len hy
    have r2 := srow_of o2 hly p2.rows
    replace r2 := Lib.hid r2
    replace b2 := thenBelow b1 b2
    have hm2 : ys.length ≤ 4611686018427387904 := by omega
    replace hy := Lib.hid hy
    replace hly := Lib.hid hly
    clear o2 p2 b1
    go_wp2_with fail
    refine (spec_HeapOk r2.out hm2).mono ?_
    rintro e w3 ⟨rfl, b3⟩
    replace b3 := thenBelow b2 b3
    clear r2 b2
    rw [hy.out]
    go_wp2_with fail
    refine (to_any (h0.out.below b3) hlx hv8.out).mono ?_
    rintro e w4 ⟨zs, rfl, hz, o4, p4, b4⟩
    have hlz : zs.length = xs.length := abs_len hz
    have r4 := srow_of o4 hlz p4.rows
    replace r4 := Lib.hid r4
    replace b4 := thenBelow b3 b4
    have hm4 : zs.length ≤ 4611686018427387904 := by omega
    replace hz := Lib.hid hz
    replace hlz := Lib.hid hlz
    clear o4 p4 b3 hly hy hm2
    go_wp2_with fail
    refine (impl_HeapOk r4.out hm4).mono ?_
    rintro e w5 ⟨rfl, b5⟩
    replace r4 := Lib.hid (r4.out.below b5)
    replace b5 := thenBelow b4 b5
    clear b4
    rw [hz.out]
    generalize heapOk (xs.map S.abs) = q
    have dq : (q != q) = false := by simp
    go_wp2_with fail
    refine (to_any (h0.out.below b5) hlx hv8.out).mono ?_
    rintro e w6 ⟨us, rfl, hu, o6, p6, b6⟩
    have hlu : us.length = xs.length := abs_len hu
    have r6 := srow_of o6 hlu p6.rows
    replace r6 := Lib.hid r6
    replace r4 := Lib.hid (r4.out.below b6)
    replace b6 := thenBelow b5 b6
    replace hu := Lib.hid (hz.out.trans hu.symm)
    replace hlu := Lib.hid hlu
    clear o6 p6 b5
    go_wp2_with fail
    refine (eq_self r4.out r6.out hu.out).mono ?_
    rintro e w7 ⟨rfl, b7⟩
    replace b7 := thenBelow b6 b7
    go_wp2
    go_ret
    exact ⟨rfl, b7⟩
  · rw [hr] at z0
    clear hr
    subst e0
    replace h0 := Lib.hid h0
    go_enter Try.func5, Try.ntmps5
    go_wp2_with fail
    refine z0.out.mono ?_
    rintro e w1 ⟨rfl, b1⟩
    go_wp2
    go_ret
    exact ⟨rfl, b1⟩
theorem walk (v0 : Value) {base : Nat} {w : World} (o0 : Value.okWide Try.prog w .any base 39 v0) {H : Type} {enc : TypeId × Value → H} {d0 : DataW H} {p0 : List MemPlace} (h0 : DataW.Trod enc Try.prog w 0 (fun _ => true) true 39 v0 d0 p0) :
    Calls Try.prog 5 #[v0] w fun e w' => e = .returned (.bool true) ∧ Below w.heap.size w w' := by
  obtain ⟨xs, hx⟩ := row_states o0 h0
  exact walkN hx
theorem own : ownKnob Try.prog.godebug = none := by kernel_rfl
theorem laidOut : laidOutB Try.prog = true := by kernel_rfl
set_option maxRecDepth 100000 in
theorem lifted (os : Os) (started : os.Started) (H : Type) (enc : TypeId × Value → H) :
    ReturnsInHanded {} Try.checked os 5 .any (Rows.fnExactHeapOkSpec.pre6 enc Try.prog Try.f5 Rows.fnExactHeapOkRow.domain false) (Rows.fnExactHeapOkSpec.post enc Try.prog Try.f5 false true false false) := by
  refine returnsInHanded_of_change (C := Try.checked) own started (by kernel_rfl) Try.func5
    (ChangeSpec.witness6 (enc := enc) (C := Try.checked) false ⟨#[], #[.slice none 0 0], []⟩ 8 (by kernel_rfl) (by kernel_rfl) (by kernel_rfl) (by kernel_rfl)) ?_
  intro W base args ds gs before hval0 hW hcnd _
  have hval : ∀ (j : Nat) t v, Try.f5.params[j]? = some t → args[j]? = some v → Value.okWide Try.prog W .any base t v := hval0
  have hW' := hW
  obtain ⟨p, q, hA0, hV, rfl, hfz, hnd⟩ := hW
  have hA : DataW.TrodAll enc Try.prog W 0 (fun _ => true) true Try.f5.params.toList args.toList ds p := hA0
  rw [Try.params5] at hA hval
  obtain ⟨v0, vs0, d0, ds0, p0, q0, hargs, rfl, rfl, h0, r0⟩ := trodAll_cons hA
  obtain ⟨rfl, rfl, rfl⟩ := trodAll_nil r0
  obtain rfl : args = #[v0] := by cases args; simp_all
  obtain ⟨rfl, rfl⟩ := trodVars_none hV
  have k0 := h0
  have o0 := hval 0 39 v0 rfl rfl
  clear hA0 hval0
  simp only [List.append_nil] at hW'
  have hlt := fun x hx => DataW.Whole.lt hW' x hx
  refine (walk v0 o0 h0).mono fun e W' ⟨he, hg⟩ => ?_
  subst he
  exact ⟨_, rfl, Post.post_of_below (pa := p0 ++ ([])) (pv := []) hW' (fun _ _ _ => (trodAll_cons_mk (shut_bool Try.underlying4 _) trodAll_mk0)) (fun sp hsp => (trodAll_cons_mk (Post.stays laidOut (by kernel_rfl) (of_decide_eq_true (by kernel_rfl)) k0 hg (fun x hx => by first | (cases hx; done) | simp [hx]) hlt hsp) trodAll_mk0)) (fun _ _ => rfl) (by simp)
    hg (ok_one (by kernel_rfl) rfl (okWide_bool_mk Try.underlying4 _))⟩

theorem over : Rows.fnExactHeapOkRow.holds Try.pinned (OpenSpec.ofChange Rows.fnExactHeapOkSpec) :=
  OpenClaim.holds_of_wide 5 Try.f5 rfl rfl rfl rfl rfl rfl rfl ⟨rfl, rfl, rfl, rfl, rfl⟩ rfl rfl rfl rfl rfl (by kernel_rfl) Try.func5 (by kernel_rfl)
    (of_decide_eq_true (by kernel_rfl)) (by unfold Func.isWrapper; first | (rw [if_pos (by decide +kernel)]; kernel_rfl) | (rw [if_neg (by decide +kernel)]; exact ⟨rfl, rfl⟩))
    (fun os started H enc _ => lifted os started H enc)

/-- THE STATEMENT -/
theorem proved : Rows.FnExactHeapOkSaid :=
  over
end Go.Proofs.Ytfhigagbipkipaa.lawHeapOk
