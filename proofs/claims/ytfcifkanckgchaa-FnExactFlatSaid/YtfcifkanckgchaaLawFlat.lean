/-
  FnExactFlat: impl.Flat and spec.Flat return the same for every list of signs.
  Conditions: none beyond the statement's own.
-/
import Derived.Test.YtfcifkanckgchaaRows
import Derived.Test.YtfcifkanckgchaaFlat
import Derived.Test.YtfcifkanckgchaaSignArgs
import Derived.Test.YtfcifkanckgchaaPost
import Derived.WalkKit
import Derived.ProofKit
import Derived.OpenShut
namespace Go.Proofs.Ytfcifkanckgchaa.lawFlat
open Go.ChangeShapes Go.WideShapes Go.ChangeAt Go.RowKit Go.Proofs.Ytfcifkanckgchaa.Mix Go.Proofs.Ytfcifkanckgchaa.Row Go.Proofs.Ytfcifkanckgchaa.Sign
set_option linter.unusedVariables false
theorem guard (xs : List Sign) (left : Int) (h0 : 0 ≤ left) : (∃ r : Int, Strs.sz (texts xs) left = r ∧ 0 ≤ r ∧ r ≤ left ∧ (xs.length : Int) + (Strs.tot (texts xs) : Int) ≤ left) ∨ Strs.sz (texts xs) left = -1 := by
  unfold Strs.sz
  split
  · rename_i h
    simp only [List.length_map] at h ⊢
    exact .inl ⟨_, rfl, by omega, by omega, by omega⟩
  · exact .inr rfl
set_option maxRecDepth 100000 in
set_option maxHeartbeats 1600000 in
theorem walkN {v0 : Value} {xs : List Sign} {w : World} (h0 : Row w v0 4 xs.length (signs xs)) (hx : ∀ x ∈ xs, x.t.size ≤ maxLen) :
    Calls Try.prog 5 #[v0] w fun e w' => e = .returned (.bool true) ∧ Below w.heap.size w w' := by
  obtain ⟨A0, c0, e0, -⟩ := id h0
  have z0 := Lib.hid (sz_any h0 hx 1048576 (by omega) (by omega))
  rcases guard xs 1048576 (by omega) with ⟨r, hr, r0, r1, hs⟩ | hv
  · rw [hr] at z0
    have d0 : decide (r < 0) = false := by simp; omega
    have hlx : xs.length * 40 ≤ 140737488355328 := by omega
    have htot : Strs.tot (texts xs) + xs.length ≤ 1099511627776 := by omega
    clear hr hs
    subst e0
    replace h0 := Lib.hid h0
    replace hx := Lib.hid hx
    have t1 := Lib.hid (show ((flatText xs xs.length).toList == (flatText xs xs.length).toList) = true by simp)
    generalize hj : flatText xs xs.length = J at t1
    replace hj := Lib.hid hj
    go_enter Try.func5, Try.ntmps5
    go_wp2_with fail
    refine z0.out.mono ?_
    rintro e w1 ⟨rfl, b1⟩
    clear z0
    go_wp2_with fail
    refine (to_any (h0.out.below b1) hlx).mono ?_
    rintro e w3 ⟨rfl, o3, b3⟩
    replace b3 := thenBelow b1 b3
    go_wp2_with fail
    refine (spec_Flat o3.row htot).mono ?_
    rintro e w5 ⟨rfl, rfl⟩
    rw [hj.out]
    clear o3
    go_wp2_with fail
    refine (to_any (h0.out.below b3) hlx).mono ?_
    rintro e w6 ⟨rfl, o6, b6⟩
    replace b6 := thenBelow b3 b6
    replace o6 := Lib.hid o6
    clear b3
    go_wp2_with fail
    refine (impl_Flat o6.out.row htot).mono ?_
    rintro e w8 ⟨rfl, b8⟩
    rw [hj.out]
    replace o6 := Lib.hid (o6.out.below b8)
    replace b8 := thenBelow b6 b8
    clear b6
    go_wp2_with fail
    refine (to_any (h0.out.below b8) hlx).mono ?_
    rintro e w9 ⟨rfl, o9, b9⟩
    go_wp2_with fail
    refine (eq_self (o6.out.below b9).row o9.row).mono ?_
    rintro e w10 ⟨rfl, b10⟩
    replace b10 := thenBelow b8 (thenBelow b9 b10)
    clear o9 b8 b9
    go_wp2
    go_ret
    exact ⟨rfl, b10⟩
  · rw [hv] at z0
    clear hv
    subst e0
    replace h0 := Lib.hid h0
    go_enter Try.func5, Try.ntmps5
    go_wp2_with fail
    refine z0.out.mono ?_
    rintro e w1 ⟨rfl, b1⟩
    go_wp2
    go_ret
    exact ⟨rfl, b1⟩
theorem walk (v0 : Value) {base : Nat} {w : World} (o0 : Value.okWide Try.prog w .any base 22 v0) {H : Type} {enc : TypeId × Value → H} {d0 : DataW H} {p0 : List MemPlace} (h0 : DataW.Trod enc Try.prog w 0 (fun _ => true) true 22 v0 d0 p0) :
    Calls Try.prog 5 #[v0] w fun e w' => e = .returned (.bool true) ∧ Below w.heap.size w w' := by
  obtain ⟨xs, hx, hx1⟩ := row_signs o0 h0
  exact walkN hx hx1
theorem own : ownKnob Try.prog.godebug = none := by kernel_rfl
theorem laidOut : laidOutB Try.prog = true := by kernel_rfl
set_option maxRecDepth 100000 in
theorem lifted (os : Os) (started : os.Started) (H : Type) (enc : TypeId × Value → H) :
    ReturnsInHanded {} Try.checked os 5 .any (Rows.fnExactFlatSpec.pre6 enc Try.prog Try.f5 Rows.fnExactFlatRow.domain false) (Rows.fnExactFlatSpec.post enc Try.prog Try.f5 false true false false) := by
  refine returnsInHanded_of_change (C := Try.checked) own started (by kernel_rfl) Try.func5
    (ChangeSpec.witness6 (enc := enc) (C := Try.checked) false ⟨#[], #[.slice none 0 0], []⟩ 8 (by kernel_rfl) (by kernel_rfl) (by kernel_rfl) (by kernel_rfl)) ?_
  intro W base args ds gs before hval0 hW hcnd _
  have hval : ∀ (j : Nat) t v, Try.f5.params[j]? = some t → args[j]? = some v → Value.okWide Try.prog W .any base t v := hval0
  have hW' := hW
  obtain ⟨p, q, hA0, hV, rfl, hfz, hnd⟩ := hW
  have hA : DataW.TrodAll enc Try.prog W 0 (fun _ => true) true Try.f5.params.toList args.toList ds p := hA0
  rw [Try.params5] at hA hval
  obtain ⟨v0, vs0, d0, ds0, p0, q0, hargs, rfl, rfl, h0, r0⟩ := trodAll_cons hA
  obtain ⟨rfl, rfl, rfl⟩ := trodAll_nil r0
  obtain rfl : args = #[v0] := by cases args; simp_all
  obtain ⟨rfl, rfl⟩ := trodVars_none hV
  have k0 := h0
  have o0 := hval 0 22 v0 rfl rfl
  clear hA0 hval0
  simp only [List.append_nil] at hW'
  have hlt := fun x hx => DataW.Whole.lt hW' x hx
  refine (walk v0 o0 h0).mono fun e W' ⟨he, hg⟩ => ?_
  subst he
  exact ⟨_, rfl, Post.post_of_below (pa := p0 ++ ([])) (pv := []) hW' (fun _ _ _ => (trodAll_cons_mk (shut_bool Try.underlying4 _) trodAll_mk0)) (fun sp hsp => (trodAll_cons_mk (Post.stays laidOut (by kernel_rfl) (of_decide_eq_true (by kernel_rfl)) k0 hg (fun x hx => by first | (cases hx; done) | simp [hx]) hlt hsp) trodAll_mk0)) (fun _ _ => rfl) (by simp)
    hg (ok_one (by kernel_rfl) rfl (okWide_bool_mk Try.underlying4 _))⟩

theorem over : Rows.fnExactFlatRow.holds Try.pinned (OpenSpec.ofChange Rows.fnExactFlatSpec) :=
  OpenClaim.holds_of_wide 5 Try.f5 rfl rfl rfl rfl rfl rfl rfl ⟨rfl, rfl, rfl, rfl, rfl⟩ rfl rfl rfl rfl rfl (by kernel_rfl) Try.func5 (by kernel_rfl)
    (of_decide_eq_true (by kernel_rfl)) (by unfold Func.isWrapper; first | (rw [if_pos (by decide +kernel)]; kernel_rfl) | (rw [if_neg (by decide +kernel)]; exact ⟨rfl, rfl⟩))
    (fun os started H enc _ => lifted os started H enc)

/-- THE STATEMENT -/
theorem proved : Rows.FnExactFlatSaid :=
  over
end Go.Proofs.Ytfcifkanckgchaa.lawFlat
