/-
  FnExactSameWords: impl.SameWords and spec.SameWords answer the same for every two lists of signs.
  Conditions: none beyond the statement's own.
-/
import Derived.Test.YtfcifkanckgchaaRows
import Derived.Test.YtfcifkanckgchaaWords
import Derived.Test.YtfcifkanckgchaaSignArgs
import Derived.Test.YtfcifkanckgchaaPost
import Derived.WalkKit
import Derived.ProofKit
import Derived.OpenShut
namespace Go.Proofs.Ytfcifkanckgchaa.lawSameWords
open Go.ChangeShapes Go.WideShapes Go.ChangeAt Go.RowKit Go.Proofs.Ytfcifkanckgchaa.Mix Go.Proofs.Ytfcifkanckgchaa.Row Go.Proofs.Ytfcifkanckgchaa.Sign
set_option linter.unusedVariables false
theorem guard (xs : List Sign) (left : Int) (h0 : 0 ≤ left) : (∃ r : Int, Strs.sz (texts xs) left = r ∧ 0 ≤ r ∧ r ≤ left ∧ (xs.length : Int) ≤ left) ∨ Strs.sz (texts xs) left = -1 := by
  unfold Strs.sz
  split
  · rename_i h
    simp only [List.length_map] at h ⊢
    exact .inl ⟨_, rfl, by omega, by omega, by omega⟩
  · exact .inr rfl
set_option maxRecDepth 100000 in
set_option maxHeartbeats 1600000 in
theorem walkN {v0 v1 : Value} {xs ys : List Sign} {w : World} (h0 : Row w v0 4 xs.length (signs xs)) (h1 : Row w v1 4 ys.length (signs ys)) (hx : ∀ x ∈ xs, x.t.size ≤ maxLen) (hy : ∀ x ∈ ys, x.t.size ≤ maxLen) :
    Calls Try.prog 7 #[v0, v1] w fun e w' => e = .returned (.bool true) ∧ Below w.heap.size w w' := by
  obtain ⟨A0, c0, e0, -⟩ := id h0
  obtain ⟨A1, c1, e1, -⟩ := id h1
  have z0 := Lib.hid (sz_any h0 hx 1048576 (by omega) (by omega))
  rcases guard xs 1048576 (by omega) with ⟨r, hr, r0, r1, hlx⟩ | hr
  · rw [hr] at z0
    have d0 : decide (r < 0) = false := by simp; omega
    have z1 := Lib.hid (fun (W : World) (hW : Row W v1 4 ys.length (signs ys)) => sz_any hW hy r r0 (by omega))
    rcases guard ys r r0 with ⟨s, hs, s0, s1, hly⟩ | hs
    · simp only [hs] at z1
      have d1 : decide (s < 0) = false := by simp; omega
      clear hr hs
      subst e0 e1
      replace h0 := Lib.hid h0
      replace h1 := Lib.hid h1
      replace hx := Lib.hid hx
      replace hy := Lib.hid hy
      have mx : xs.length ≤ 1048576 := by omega
      have my : ys.length ≤ 1048576 := by omega
      replace hlx : xs.length * 40 ≤ 140737488355328 := by omega
      replace hly : ys.length * 40 ≤ 140737488355328 := by omega
      go_enter Try.func7, Try.ntmps7
      go_wp2_with fail
      refine z0.out.mono ?_
      rintro e w1 ⟨rfl, b1⟩
      go_wp2_with fail
      refine (z1.out _ (h1.out.below b1)).mono ?_
      rintro e w2 ⟨rfl, b2⟩
      replace b2 := thenBelow b1 b2
      clear b1 z0 z1
      go_wp2_with fail
      refine (to_any (h0.out.below b2) hlx).mono ?_
      rintro e w3 ⟨rfl, o3, b3⟩
      go_wp2_with fail
      refine (to_any (h1.out.below (thenBelow b2 b3)) hly).mono ?_
      rintro e w4 ⟨rfl, o4, b4⟩
      go_wp2_with fail
      refine (spec_words (o3.below b4).row o4.row mx my).mono ?_
      rintro e w5 ⟨rfl, b5⟩
      replace b5 := thenBelow b2 (thenBelow (thenBelow b3 b4) b5)
      clear o3 o4 b2 b3 b4
      go_wp2_with fail
      refine (to_any (h0.out.below b5) hlx).mono ?_
      rintro e w6 ⟨rfl, o6, b6⟩
      go_wp2_with fail
      refine (to_any (h1.out.below (thenBelow b5 b6)) hly).mono ?_
      rintro e w7 ⟨rfl, o7, b7⟩
      replace o6 := o6.below b7
      replace b7 := thenBelow (thenBelow b5 b6) b7
      replace o6 := Lib.hid o6
      replace o7 := Lib.hid o7
      clear b5 b6
      go_wp2_with fail
      refine (impl_words o6.out.row o7.out.row mx my).mono ?_
      rintro e w8 ⟨rfl, b8⟩
      replace o6 := Lib.hid (o6.out.below b8)
      replace o7 := Lib.hid (o7.out.below b8)
      replace b8 := thenBelow b7 b8
      clear b7
      go_wp2_with fail
      refine (to_any (h0.out.below b8) hlx).mono ?_
      rintro e w9 ⟨rfl, o9, b9⟩
      go_wp2_with fail
      refine (eq_self (o6.out.below b9).row o9.row).mono ?_
      rintro e w10 ⟨rfl, b10⟩
      replace o7 := Lib.hid (o7.out.below (thenBelow b9 b10))
      replace b10 := thenBelow b8 (thenBelow b9 b10)
      clear o9 b8 b9
      go_wp2_with fail
      refine (to_any (h1.out.below b10) hly).mono ?_
      rintro e w11 ⟨rfl, o11, b11⟩
      go_wp2_with fail
      refine (eq_self (o7.out.below b11).row o11.row).mono ?_
      rintro e w12 ⟨rfl, b12⟩
      replace b12 := thenBelow b10 (thenBelow b11 b12)
      clear o11 b11
      go_wp2
      go_ret
      exact ⟨rfl, b12⟩
    · simp only [hs] at z1
      clear hr hs
      subst e0 e1
      replace h0 := Lib.hid h0
      replace h1 := Lib.hid h1
      go_enter Try.func7, Try.ntmps7
      go_wp2_with fail
      refine z0.out.mono ?_
      rintro e w1 ⟨rfl, b1⟩
      go_wp2_with fail
      refine (z1.out _ (h1.out.below b1)).mono ?_
      rintro e w2 ⟨rfl, b2⟩
      go_wp2
      go_ret
      exact ⟨rfl, thenBelow b1 b2⟩
  · rw [hr] at z0
    clear hr
    subst e0 e1
    replace h0 := Lib.hid h0
    replace h1 := Lib.hid h1
    go_enter Try.func7, Try.ntmps7
    go_wp2_with fail
    refine z0.out.mono ?_
    rintro e w1 ⟨rfl, b1⟩
    go_wp2
    go_ret
    exact ⟨rfl, b1⟩
theorem walk (v0 : Value) {base : Nat} {w : World} (o0 : Value.okWide Try.prog w .any base 22 v0) {H : Type} {enc : TypeId × Value → H} {d0 : DataW H} {p0 : List MemPlace} (h0 : DataW.Trod enc Try.prog w 0 (fun _ => true) true 22 v0 d0 p0)
    (v1 : Value) (o1 : Value.okWide Try.prog w .any base 22 v1) {d1 : DataW H} {p1 : List MemPlace} (h1 : DataW.Trod enc Try.prog w 0 (fun _ => true) true 22 v1 d1 p1) :
    Calls Try.prog 7 #[v0, v1] w fun e w' => e = .returned (.bool true) ∧ Below w.heap.size w w' := by
  obtain ⟨xs, hx, hx1⟩ := row_signs o0 h0
  obtain ⟨ys, hy, hy1⟩ := row_signs o1 h1
  exact walkN hx hy hx1 hy1
theorem own : ownKnob Try.prog.godebug = none := by kernel_rfl
theorem laidOut : laidOutB Try.prog = true := by kernel_rfl
set_option maxRecDepth 100000 in
theorem lifted (os : Os) (started : os.Started) (H : Type) (enc : TypeId × Value → H) :
    ReturnsInHanded {} Try.checked os 7 .any (Rows.fnExactSameWordsSpec.pre6 enc Try.prog Try.f7 Rows.fnExactSameWordsRow.domain false) (Rows.fnExactSameWordsSpec.post enc Try.prog Try.f7 false true false false) := by
  refine returnsInHanded_of_change (C := Try.checked) own started (by kernel_rfl) Try.func7
    (ChangeSpec.witness6 (enc := enc) (C := Try.checked) false ⟨#[], #[.slice none 0 0, .slice none 0 0], []⟩ 8 (by kernel_rfl) (by kernel_rfl) (by kernel_rfl) (by kernel_rfl)) ?_
  intro W base args ds gs before hval0 hW hcnd _
  have hval : ∀ (j : Nat) t v, Try.f7.params[j]? = some t → args[j]? = some v → Value.okWide Try.prog W .any base t v := hval0
  have hW' := hW
  obtain ⟨p, q, hA0, hV, rfl, hfz, hnd⟩ := hW
  have hA : DataW.TrodAll enc Try.prog W 0 (fun _ => true) true Try.f7.params.toList args.toList ds p := hA0
  rw [Try.params7] at hA hval
  obtain ⟨v0, vs0, d0, ds0, p0, q0, hargs, rfl, rfl, h0, r0⟩ := trodAll_cons hA
  obtain ⟨v1, vs1, d1, ds1, p1, q1, rfl, rfl, rfl, h1, r1⟩ := trodAll_cons r0
  obtain ⟨rfl, rfl, rfl⟩ := trodAll_nil r1
  obtain rfl : args = #[v0, v1] := by cases args; simp_all
  obtain ⟨rfl, rfl⟩ := trodVars_none hV
  have k0 := h0
  have o0 := hval 0 22 v0 rfl rfl
  have k1 := h1
  have o1 := hval 1 22 v1 rfl rfl
  clear hA0 hval0
  simp only [List.append_nil] at hW'
  have hlt := fun x hx => DataW.Whole.lt hW' x hx
  refine (walk v0 o0 h0 v1 o1 h1).mono fun e W' ⟨he, hg⟩ => ?_
  subst he
  exact ⟨_, rfl, Post.post_of_below (pa := p0 ++ (p1 ++ ([]))) (pv := []) hW' (fun _ _ _ => (trodAll_cons_mk (shut_bool Try.underlying4 _) trodAll_mk0)) (fun sp hsp => (trodAll_cons_mk (Post.stays laidOut (by kernel_rfl) (of_decide_eq_true (by kernel_rfl)) k0 hg (fun x hx => by first | (cases hx; done) | simp [hx]) hlt hsp) (trodAll_cons_mk (Post.stays laidOut (by kernel_rfl) (of_decide_eq_true (by kernel_rfl)) k1 hg (fun x hx => by first | (cases hx; done) | simp [hx]) hlt hsp) trodAll_mk0))) (fun _ _ => rfl) (by simp)
    hg (ok_one (by kernel_rfl) rfl (okWide_bool_mk Try.underlying4 _))⟩

theorem over : Rows.fnExactSameWordsRow.holds Try.pinned (OpenSpec.ofChange Rows.fnExactSameWordsSpec) :=
  OpenClaim.holds_of_wide 7 Try.f7 rfl rfl rfl rfl rfl rfl rfl ⟨rfl, rfl, rfl, rfl, rfl⟩ rfl rfl rfl rfl rfl (by kernel_rfl) Try.func7 (by kernel_rfl)
    (of_decide_eq_true (by kernel_rfl)) (by unfold Func.isWrapper; first | (rw [if_pos (by decide +kernel)]; kernel_rfl) | (rw [if_neg (by decide +kernel)]; exact ⟨rfl, rfl⟩))
    (fun os started H enc _ => lifted os started H enc)

/-- THE STATEMENT -/
theorem proved : Rows.FnExactSameWordsSaid :=
  over
end Go.Proofs.Ytfcifkanckgchaa.lawSameWords
