/-
  FnExactCostLess: impl.CostLess and spec.CostLess answer the same for every two costs.
  Conditions: none.
-/
import Derived.Test.YtdbjdikkkmfihaaRows
import Derived.Test.YtdbjdikkkmfihaaCost
import Derived.Test.YtdbjdikkkmfihaaMix
import Derived.Test.YtdbjdikkkmfihaaPost
import Derived.WalkKit
import Derived.ProofKit
import Derived.OpenShut
import Derived.Lib.SmallJoins
namespace Go.Proofs.Ytdbjdikkkmfihaa.lawCostLess
open Go.ChangeShapes Go.WideShapes Go.ChangeAt Go.RowKit Go.Joins Go.Proofs.Ytdbjdikkkmfihaa.Mix Go.Proofs.Ytdbjdikkkmfihaa.Cost
set_option linter.unusedVariables false
set_option maxHeartbeats 400000 in
theorem walkN (a b c d : Int) (w : World) :
    Calls Try.prog 4 #[cost a b, cost c d] w fun e w' => e = .returned (.bool true) ∧ Below w.heap.size w w' := by
  go_enter Try.func4, Try.ntmps4
  go_wp2
  generalize hW : (w.alloc (.cells #[.int .i64 a, .int .i64 b] 24)).alloc (.cells #[.int .i64 c, .int .i64 d] 24) = W at *
  have hB : Below w.heap.size w W := by
    rw [← hW]
    repeat (first | exact Below.refl _ _ | assumption | refine Below.setCell ?_ (by simp <;> omega) _ | refine Below.alloc ?_ (by simp <;> omega) _ | refine Below.drew ?_)
  have hz : w.heap.size + 1 < W.heap.size := by rw [← hW]; simp
  have hz0 : w.heap.size < W.heap.size := by omega
  have h0 : W.cell? ⟨w.heap.size, 0, none⟩ = some (.int .i64 a) := by rw [← hW]; simp [go_sem]
  have h1 : W.cell? ⟨w.heap.size, 1, none⟩ = some (.int .i64 b) := by rw [← hW]; simp [go_sem]
  have h2 : W.cell? ⟨w.heap.size + 1, 0, none⟩ = some (.int .i64 c) := by rw [← hW]; simp [go_sem]
  have h3 : W.cell? ⟨w.heap.size + 1, 1, none⟩ = some (.int .i64 d) := by rw [← hW]; simp [go_sem]
  clear hW
  refine wp_region_below [(0, true), (2, true), (1, false), (3, false), (4, false), (5, true)] (by kernel_rfl) (by kernel_rfl) (fun d _ _ _ _ h => by cases d <;> exact h) ?_
  repeat
   (refine mix_still rfl (by rfl) ?_
    apply Exists.intro
    refine ⟨fun w' hS => ?_, ?_⟩
    · (have hS' := cells_of hS; clear hS; go_simp; with_reducible rfl)
    go_simp)
  refine mix_loud rfl (fun K hK => ?_)
  go_simp
  refine (to_any _ _ _).mono ?_
  rintro _ w1 ⟨rfl, hb1⟩
  replace hb1 := of_drew hb1
  refine hK _ _ (fun _ => hb1) ?_
  clear hK K
  go_simp
  refine mix_loud rfl (fun K hK => ?_)
  go_simp
  refine (to_any _ _ _).mono ?_
  rintro _ w2 ⟨rfl, hb2⟩
  replace hb2 := thenBelow hb1 hb2
  refine hK _ _ (fun _ => hb2) ?_
  clear hK K
  go_simp
  refine mix_loud rfl (fun K hK => ?_)
  go_simp
  refine (spec_less _ _ _ _ _).mono ?_
  rintro _ w3 ⟨rfl, hb3⟩
  replace hb3 := thenBelow hb2 hb3
  refine hK _ _ (fun _ => hb3) ?_
  clear hK K
  go_simp
  repeat
   (refine mix_still rfl (by rfl) ?_
    apply Exists.intro
    refine ⟨fun w' hS => ?_, ?_⟩
    · (have hS' := cells_of hS; clear hS; go_simp; with_reducible rfl)
    go_simp)
  refine mix_nil ?_
  have h0' := (cells_of hb3 _ 0 hz0).trans h0
  have h1' := (cells_of hb3 _ 1 hz0).trans h1
  have h2' := (cells_of hb3 _ 0 hz).trans h2
  have h3' := (cells_of hb3 _ 1 hz).trans h3
  replace hB := hB.trans (hb3.mono hB.size)
  replace hz := Nat.lt_of_lt_of_le hz hb3.size
  replace hz0 := Nat.lt_of_lt_of_le hz0 hb3.size
  clear h0 h1 h2 h3 hb1 hb2 hb3 w1 w2
  clear W
  go_wp2
  refine wp_region_below [(0, true), (2, true), (1, false), (3, false), (4, false), (5, true)] (by kernel_rfl) (by kernel_rfl) (fun d _ _ _ _ h => by cases d <;> exact h) ?_
  repeat
   (refine mix_still rfl (by rfl) ?_
    apply Exists.intro
    refine ⟨fun w' hS => ?_, ?_⟩
    · (have hS' := cells_of hS; clear hS; go_simp; with_reducible rfl)
    go_simp)
  refine mix_loud rfl (fun K hK => ?_)
  go_simp
  refine (to_any _ _ _).mono ?_
  rintro _ w1 ⟨rfl, hb1⟩
  replace hb1 := of_drew hb1
  refine hK _ _ (fun _ => hb1) ?_
  clear hK K
  go_simp
  refine mix_loud rfl (fun K hK => ?_)
  go_simp
  refine (to_any _ _ _).mono ?_
  rintro _ w2 ⟨rfl, hb2⟩
  replace hb2 := thenBelow hb1 hb2
  refine hK _ _ (fun _ => hb2) ?_
  clear hK K
  go_simp
  refine mix_loud rfl (fun K hK => ?_)
  go_simp
  refine (impl_less _ _ _ _ _).mono ?_
  rintro _ w4 ⟨rfl, hb4⟩
  replace hb4 := thenBelow hb2 hb4
  refine hK _ _ (fun _ => hb4) ?_
  clear hK K
  go_simp
  repeat
   (refine mix_still rfl (by rfl) ?_
    apply Exists.intro
    refine ⟨fun w' hS => ?_, ?_⟩
    · (have hS' := cells_of hS; clear hS; go_simp; with_reducible rfl)
    go_simp)
  refine mix_nil ?_
  go_wp2
  go_ret
  exact ⟨rfl, hB.trans (hb4.mono hB.size)⟩
theorem cellsL : Try.prog.cellsOf 24 = 2 := by kernel_rfl
theorem walk (v0 : Value) {base : Nat} {W : World} (o0 : Value.okWide Try.prog W .any base 24 v0) {H : Type} {enc : TypeId × Value → H} {d0 : DataW H} {p0 : List MemPlace} (h0 : DataW.Trod enc Try.prog W 0 (fun _ => true) true 24 v0 d0 p0)
    (v1 : Value) (o1 : Value.okWide Try.prog W .any base 24 v1) {d1 : DataW H} {p1 : List MemPlace} (h1 : DataW.Trod enc Try.prog W 0 (fun _ => true) true 24 v1 d1 p1) (w : World) :
    Calls Try.prog 4 #[v0, v1] w fun e w' => e = .returned (.bool true) ∧ Below w.heap.size w w' := by
  obtain ⟨c0, c1, y0, y1, m, rfl, rfl, rfl, hy0, hy1⟩ := open_agg2 Try.underlying24 (by kernel_rfl) cellsL o0 h0
  obtain ⟨c2, c3, y2, y3, n, rfl, rfl, rfl, hy2, hy3⟩ := open_agg2 Try.underlying24 (by kernel_rfl) cellsL o1 h1
  obtain ⟨a, e0, rfl, _⟩ := DataW.trod_int Try.underlying3 hy0
  obtain ⟨b, e1, rfl, _⟩ := DataW.trod_int Try.underlying3 hy1
  obtain ⟨c, e2, rfl, _⟩ := DataW.trod_int Try.underlying3 hy2
  obtain ⟨d, e3, rfl, _⟩ := DataW.trod_int Try.underlying3 hy3
  simp at e0 e1 e2 e3
  subst e0 e1 e2 e3
  exact walkN a b c d w
theorem own : ownKnob Try.prog.godebug = none := by kernel_rfl
theorem laidOut : laidOutB Try.prog = true := by kernel_rfl
set_option maxRecDepth 100000 in
theorem lifted (os : Os) (started : os.Started) (H : Type) (enc : TypeId × Value → H) :
    ReturnsInHanded {} Try.checked os 4 .any (Rows.fnExactCostLessSpec.pre6 enc Try.prog Try.f4 Rows.fnExactCostLessRow.domain false) (Rows.fnExactCostLessSpec.post enc Try.prog Try.f4 false true false false) := by
  refine returnsInHanded_of_change (C := Try.checked) own started (by kernel_rfl) Try.func4
    (ChangeSpec.witness6 (enc := enc) (C := Try.checked) false ⟨#[], #[.agg #[.int .i64 0, .int .i64 0], .agg #[.int .i64 0, .int .i64 0]], []⟩ 8 (by kernel_rfl) (by kernel_rfl) (by kernel_rfl) (by kernel_rfl)) ?_
  intro W base args ds gs before hval0 hW hcnd _
  have hval : ∀ (j : Nat) t v, Try.f4.params[j]? = some t → args[j]? = some v → Value.okWide Try.prog W .any base t v := hval0
  have hW' := hW
  obtain ⟨p, q, hA0, hV, rfl, hfz, hnd⟩ := hW
  have hA : DataW.TrodAll enc Try.prog W 0 (fun _ => true) true Try.f4.params.toList args.toList ds p := hA0
  rw [Try.params4] at hA hval
  obtain ⟨v0, vs0, d0, ds0, p0, q0, hargs, rfl, rfl, h0, r0⟩ := trodAll_cons hA
  obtain ⟨v1, vs1, d1, ds1, p1, q1, rfl, rfl, rfl, h1, r1⟩ := trodAll_cons r0
  obtain ⟨rfl, rfl, rfl⟩ := trodAll_nil r1
  obtain rfl : args = #[v0, v1] := by cases args; simp_all
  obtain ⟨rfl, rfl⟩ := trodVars_none hV
  have k0 := h0
  have o0 := hval 0 24 v0 rfl rfl
  have k1 := h1
  have o1 := hval 1 24 v1 rfl rfl
  clear hA0 hval0
  simp only [List.append_nil] at hW'
  have hlt := fun x hx => DataW.Whole.lt hW' x hx
  refine (walk v0 o0 h0 v1 o1 h1 W).mono fun e W' ⟨he, hg⟩ => ?_
  subst he
  exact ⟨_, rfl, Post.post_of_below (pa := p0 ++ (p1 ++ ([]))) (pv := []) hW' (fun _ _ _ => (trodAll_cons_mk (shut_bool Try.underlying4 _) trodAll_mk0)) (fun sp hsp => (trodAll_cons_mk (Post.stays laidOut (by kernel_rfl) (of_decide_eq_true (by kernel_rfl)) k0 hg (fun x hx => by first | (cases hx; done) | simp [hx]) hlt hsp) (trodAll_cons_mk (Post.stays laidOut (by kernel_rfl) (of_decide_eq_true (by kernel_rfl)) k1 hg (fun x hx => by first | (cases hx; done) | simp [hx]) hlt hsp) trodAll_mk0))) (fun _ _ => rfl) (by simp)
    hg (ok_one (by kernel_rfl) rfl (okWide_bool_mk Try.underlying4 _))⟩

theorem over : Rows.fnExactCostLessRow.holds Try.pinned (OpenSpec.ofChange Rows.fnExactCostLessSpec) :=
  OpenClaim.holds_of_wide 4 Try.f4 rfl rfl rfl rfl rfl rfl rfl ⟨rfl, rfl, rfl, rfl, rfl⟩ rfl rfl rfl rfl rfl (by kernel_rfl) Try.func4 (by kernel_rfl)
    (of_decide_eq_true (by kernel_rfl)) (by unfold Func.isWrapper; first | (rw [if_pos (by decide +kernel)]; kernel_rfl) | (rw [if_neg (by decide +kernel)]; exact ⟨rfl, rfl⟩))
    (fun os started H enc _ => lifted os started H enc)

/-- THE STATEMENT -/
theorem proved : Rows.FnExactCostLessSaid :=
  over
end Go.Proofs.Ytdbjdikkkmfihaa.lawCostLess
