/-
  FnExactCostOf: impl.CostOf and spec.CostOf return the same for every piece, and all values.
  Conditions: none beyond the statement's own.
-/
import Derived.Test.YtlakellmdcdaaaaRows
import Derived.Test.YtlakellmdcdaaaaPieceArgs
import Derived.Test.YtlakellmdcdaaaaPost
import Derived.Test.YtlakellmdcdaaaaPc14
import Derived.WalkKit
import Derived.ProofKit
import Derived.OpenShut
namespace Go.Proofs.Ytlakellmdcdaaaa.lawCostOf
open Go.ChangeShapes Go.WideShapes Go.ChangeAt Go.RowKit Go.Proofs.Ytlakellmdcdaaaa.Mix Go.Proofs.Ytlakellmdcdaaaa.Row Go.Proofs.Ytlakellmdcdaaaa.Mem Go.Proofs.Ytlakellmdcdaaaa.Owns Go.Proofs.Ytlakellmdcdaaaa.Blocks Go.Proofs.Ytlakellmdcdaaaa.Ints Go.Proofs.Ytlakellmdcdaaaa.Piece Go.Proofs.Ytlakellmdcdaaaa.Pc
set_option linter.unusedVariables false
theorem cellsI : Try.prog.cellsOf 3 = 1 := by kernel_rfl
theorem eq_ints {v1 v2 : Value} {xs : List Int} {b1 b2 : Nat} {w : World} (h1 : w.ownsRow b1 3 1 v1 xs.length (ints xs)) (h2 : w.ownsRow b2 3 1 v2 xs.length (ints xs)) :
    Calls Try.prog 23 #[v1, v2] w fun e w' => e = .returned (.bool true) ∧ Below w.heap.size w w' :=
  (Ints.eq_any (row_of_owns h1) (row_of_owns h2)).mono fun e w' h => ⟨by rw [h.1]; simp, h.2⟩
theorem eq_intsO {v1 v2 : Value} {xs : List Int} {b1 b2 : Nat} {w : World} (h1 : Own w v1 3 1 b1 xs.length (ints xs)) (h2 : Own w v2 3 1 b2 xs.length (ints xs)) :
    Calls Try.prog 23 #[v1, v2] w fun e w' => e = .returned (.bool true) ∧ Below w.heap.size w w' := eq_ints (own_owns h1) (own_owns h2)
set_option maxRecDepth 100000 in
set_option maxHeartbeats 6400000 in
theorem walkN {p : P} {vr vc vs vt : Value} {vv : Value} {xs : List Int} {w : World} (h : PRow w p vr vc vs vt) (hs : ∀ x ∈ p.chunks, x.t.size ≤ maxLen) (hv : Row w vv 1 xs.length (ints xs)) (a2 : Int) :
    Calls Try.prog 11 #[pv p.ind vr vc vs vt, vv, .int .i64 a2] w fun e w' => e = .returned (.bool true) ∧ Below w.heap.size w w' := by
  obtain ⟨⟨A1, m1, rfl⟩, ⟨A2, m2, rfl⟩, ⟨A3, m3, rfl⟩, ⟨A4, m4, rfl⟩⟩ := h.lits
  obtain ⟨Av, cv, rfl, -⟩ := id hv
  have ax := (Below.refl w.heap.size w).alloc (Nat.le_refl _) (.cells #[.int .i64 p.ind, .slice A1 p.rules.length m1, .slice A2 p.chunks.length m2, .slice A3 p.spans.length m3, .slice A4 p.ties.length m4] 27)
  have k := heap_alloc_new w (.cells #[.int .i64 p.ind, .slice A1 p.rules.length m1, .slice A2 p.chunks.length m2, .slice A3 p.spans.length m3, .slice A4 p.ties.length m4] 27)
  generalize hW : w.alloc (.cells #[.int .i64 p.ind, .slice A1 p.rules.length m1, .slice A2 p.chunks.length m2, .slice A3 p.spans.length m3, .slice A4 p.ties.length m4] 27) = W at ax k
  replace hW := Lib.hid hW
  replace h := Lib.hid h
  replace hv := Lib.hid hv
  have z0 := Lib.hid (Piece.sz_any (h.out.below ax) hs 1048576 (by omega) (by omega))
  have hB := Lib.hid ax
  replace k := Lib.hid k
  clear ax hs
  by_cases hvl : xs.length ≤ 1048576
  · have dv : decide ((1048576 : Int) < (xs.length : Int)) = false := by simp; omega
    go_enter Try.func11, Try.ntmps11
    go_wp2_with fail
    rw [hW.out]
    refine z0.out.mono ?_
    rintro e w1 ⟨hz, b1⟩
    obtain ⟨q, rfl, hq⟩ := hz
    clear hW z0
    replace hB := Lib.hid (hB.out.trans (b1.mono hB.out.size))
    replace k := Lib.hid (blk_below k.out b1)
    clear b1
    rcases hq with hq | ⟨q0, q1, sm⟩
    · have d0 : decide (q < 0) = true := by simpa using hq
      go_wp2
      go_ret
      exact ⟨rfl, hB.out⟩
    · have d0 : decide (q < 0) = false := by simp; omega
      have n1 : p.rules.length ≤ 1048576 := by have := sm.1; omega
      have n2 : p.chunks.length ≤ 1048576 := by have := sm.2.1; omega
      have n3 : p.spans.length ≤ 1048576 := by have := sm.2.2.1; omega
      have n4 : p.ties.length ≤ 1048576 := by have := sm.2.2.2; omega
      have n5 : Strs.tot (Chunk.texts p.chunks) ≤ 1048576 := by have := sm.2.1; omega
      clear sm q0 q1
      obtain ⟨ck0, ck1, ck2, ck3, ck4⟩ := blk5 k.out
      have lk := blk_lt k.out
      go_wp2_with fail
      refine (Piece.to_any (h.out.below hB.out) n1 n2 n3 n4).mono ?_
      rintro e w2 ⟨ro2, co2, so2, to2, rfl, o2, bw2⟩
      clear ck0 ck1 ck2 ck3 ck4 lk
      replace hB := Lib.hid (hB.out.trans (bw2.mono hB.out.size))
      replace k := Lib.hid (blk_below k.out bw2)
      clear bw2
      obtain ⟨⟨A1o2, m1o2, rfl⟩, ⟨A2o2, m2o2, rfl⟩, ⟨A3o2, m3o2, rfl⟩, ⟨A4o2, m4o2, rfl⟩⟩ := o2.row.lits
      replace o2 := Lib.hid o2
      obtain ⟨ck0, ck1, ck2, ck3, ck4⟩ := blk5 k.out
      have lk := blk_lt k.out
      go_wp2_with fail
      refine (Ints.to_any (hv.out.below hB.out) (by omega)).mono ?_
      rintro e w3 ⟨rfl, v3, bw3⟩
      clear ck0 ck1 ck2 ck3 ck4 lk
      replace hB := Lib.hid (hB.out.trans (bw3.mono hB.out.size))
      replace k := Lib.hid (blk_below k.out bw3)
      replace o2 := Lib.hid (o2.out.below bw3)
      clear bw3
      replace v3 := Lib.hid v3
      go_wp2_with fail
      refine (spec_CostOf o2.out.row v3.out.row n5 a2).mono ?_
      rintro e w4 ⟨rfl, bw4⟩
      replace hB := Lib.hid (hB.out.trans (bw4.mono hB.out.size))
      replace k := Lib.hid (blk_below k.out bw4)
      replace o2 := Lib.hid (o2.out.below bw4)
      replace v3 := Lib.hid (v3.out.below bw4)
      clear bw4
      clear o2 v3
      generalize hans0 : cO p xs a2 = ans0
      replace hans0 := Lib.hid hans0
      generalize hans1 : cS p xs = ans1
      replace hans1 := Lib.hid hans1
      obtain ⟨ck0, ck1, ck2, ck3, ck4⟩ := blk5 k.out
      have lk := blk_lt k.out
      have akw := (Below.refl w4.heap.size w4).alloc (Nat.le_refl _) (.cells #[.int .i64 ans0, .int .i64 ans1] 57)
      have kw := heap_alloc_new w4 (.cells #[.int .i64 ans0, .int .i64 ans1] 57)
      obtain ⟨Wkw, hWkw⟩ : ∃ W, w4.alloc (.cells #[.int .i64 ans0, .int .i64 ans1] 57) = W := ⟨_, rfl⟩
      rw [hWkw] at akw kw
      replace hWkw := Lib.hid hWkw
      have skw := akw.size
      have zkw := blk_lt kw
      replace kw := Lib.hid kw
      go_wp2_with fail
      rw [hWkw.out]
      clear hWkw
      clear ck0 ck1 ck2 ck3 ck4 lk
      replace hB := Lib.hid (hB.out.trans (akw.mono hB.out.size))
      replace k := Lib.hid (blk_below k.out akw)
      clear akw
      refine (Piece.to_any (h.out.below hB.out) n1 n2 n3 n4).mono ?_
      rintro e w5 ⟨ro5, co5, so5, to5, rfl, o5, bw5⟩
      have s5 := bw5.size
      replace hB := Lib.hid (hB.out.trans (bw5.mono hB.out.size))
      replace k := Lib.hid (blk_below k.out bw5)
      replace kw := Lib.hid (blk_below kw.out bw5)
      clear bw5
      obtain ⟨⟨A1o5, m1o5, rfl⟩, ⟨A2o5, m2o5, rfl⟩, ⟨A3o5, m3o5, rfl⟩, ⟨A4o5, m4o5, rfl⟩⟩ := o5.row.lits
      replace o5 := Lib.hid o5
      have ax := (Below.refl w5.heap.size w5).alloc (Nat.le_refl _) (.cells #[.int .i64 p.ind, .slice A1o5 p.rules.length m1o5, .slice A2o5 p.chunks.length m2o5, .slice A3o5 p.spans.length m3o5, .slice A4o5 p.ties.length m4o5] 35)
      have kx := heap_alloc_new w5 (.cells #[.int .i64 p.ind, .slice A1o5 p.rules.length m1o5, .slice A2o5 p.chunks.length m2o5, .slice A3o5 p.spans.length m3o5, .slice A4o5 p.ties.length m4o5] 35)
      generalize hW6 : w5.alloc (.cells #[.int .i64 p.ind, .slice A1o5 p.rules.length m1o5, .slice A2o5 p.chunks.length m2o5, .slice A3o5 p.spans.length m3o5, .slice A4o5 p.ties.length m4o5] 35) = W6 at ax kx
      replace hW6 := Lib.hid hW6
      have s6 := ax.size
      have ko := Lib.hid k.out
      replace hB := Lib.hid (hB.out.trans (ax.mono hB.out.size))
      replace k := Lib.hid (blk_below k.out ax)
      replace kw := Lib.hid (blk_below kw.out ax)
      replace o5 := Lib.hid (o5.out.below ax)
      clear ax
      replace kx := Lib.hid kx
      go_wp2_with fail
      rw [hW6.out]
      clear hW6 ko
      refine (Ints.to_any (hv.out.below hB.out) (by omega)).mono ?_
      rintro e w7 ⟨rfl, v7, bw7⟩
      replace hB := Lib.hid (hB.out.trans (bw7.mono hB.out.size))
      replace k := Lib.hid (blk_below k.out bw7)
      replace kw := Lib.hid (blk_below kw.out bw7)
      replace o5 := Lib.hid (o5.out.below bw7)
      replace kx := Lib.hid (blk_below kx.out bw7)
      clear bw7
      replace v7 := Lib.hid v7
      have s7 := v7.out.lt
      obtain ⟨ckx0, ckx1, ckx2, ckx3, ckx4⟩ := blk5 kx.out
      have lkx := blk_lt kx.out
      go_wp2_with fail
      refine (impl_CostOf o5.out.row v7.out.row n5 a2).mono ?_
      rintro e w8 ⟨rfl, bw8⟩
      clear ckx0 ckx1 ckx2 ckx3 ckx4 lkx
      replace hB := Lib.hid (hB.out.trans (bw8.mono hB.out.size))
      replace k := Lib.hid (blk_below k.out bw8)
      replace kw := Lib.hid (blk_below kw.out bw8)
      replace o5 := Lib.hid (o5.out.below bw8)
      replace kx := Lib.hid (blk_below kx.out bw8)
      replace v7 := Lib.hid (v7.out.below bw8)
      clear bw8
      rw [hans0.out]
      rw [hans1.out]
      obtain ⟨ckw0, ckw1⟩ := blk2 kw.out
      have lkw := blk_lt kw.out
      have akg := (Below.refl w8.heap.size w8).alloc (Nat.le_refl _) (.cells #[.int .i64 ans0, .int .i64 ans1] 57)
      have kg := heap_alloc_new w8 (.cells #[.int .i64 ans0, .int .i64 ans1] 57)
      obtain ⟨Wkg, hWkg⟩ : ∃ W, w8.alloc (.cells #[.int .i64 ans0, .int .i64 ans1] 57) = W := ⟨_, rfl⟩
      rw [hWkg] at akg kg
      replace hWkg := Lib.hid hWkg
      have skg := akg.size
      have zkg := blk_lt kg
      replace kg := Lib.hid kg
      replace akg := Lib.hid akg
      go_wp2_with fail
      rw [hWkg.out]
      clear hWkg
      clear ckw0 ckw1 lkw
      replace akg := akg.out
      replace hB := Lib.hid (hB.out.trans (akg.mono hB.out.size))
      replace k := Lib.hid (blk_below k.out akg)
      replace kw := Lib.hid (blk_below kw.out akg)
      replace o5 := Lib.hid (o5.out.below akg)
      replace kx := Lib.hid (blk_below kx.out akg)
      replace v7 := Lib.hid (v7.out.below akg)
      clear akg
      refine (Cost.eq_self ans0 ans1 _).mono ?_
      rintro e w9c ⟨rfl, bw9c⟩
      replace hB := Lib.hid (hB.out.trans (bw9c.mono hB.out.size))
      replace k := Lib.hid (blk_below k.out bw9c)
      replace kw := Lib.hid (blk_below kw.out bw9c)
      replace o5 := Lib.hid (o5.out.below bw9c)
      replace kx := Lib.hid (blk_below kx.out bw9c)
      replace v7 := Lib.hid (v7.out.below bw9c)
      clear bw9c
      clear kw kg
      obtain ⟨ck0, ck1, ck2, ck3, ck4⟩ := blk5 k.out
      have lk := blk_lt k.out
      obtain ⟨ckx0, ckx1, ckx2, ckx3, ckx4⟩ := blk5 kx.out
      have lkx := blk_lt kx.out
      go_wp2
      refine wp_region_below [(0, true), (1, true), (2, false), (3, false), (4, false)] (by kernel_rfl) (by kernel_rfl) (fun d _ _ _ _ h => by cases d <;> exact h) ?_
      repeat
       (refine mix_still rfl (by rfl) ?_
        apply Exists.intro
        refine ⟨fun w' hS => ?_, ?_⟩
        · (have hS' := cells_of hS; clear hS; go_simp; (try go_bits); first | with_reducible rfl | (refine (if_pos ?_).trans ?_; omega; with_reducible rfl))
        (go_simp; (try go_bits)))
      refine mix_loud rfl (fun K hK => ?_)
      (go_simp; (try go_bits))
      refine (Piece.to_any (h.out.below hB.out).drew n1 n2 n3 n4).mono ?_
      rintro _ wA ⟨rA, cA, sA, tA, rfl, oA, bA⟩
      have bAx := bA
      replace bA := of_drew bA
      refine hK _ _ (fun _ => bA) ?_
      clear hK K
      (go_simp; (try go_bits))
      refine mix_loud rfl (fun K hK => ?_)
      (go_simp; (try go_bits))
      refine (Piece.eq_self (o5.out.drew.below bAx).row oA.row).mono ?_
      rintro _ wC ⟨rfl, bC⟩
      have bCx := bC
      replace bC := thenBelow bA bC
      refine hK _ _ (fun _ => bC) ?_
      clear hK K
      (go_simp; (try go_bits))
      refine mix_loud rfl (fun K hK => ?_)
      (go_simp; (try go_bits))
      refine hK _ _ (no_need (by kernel_rfl)) ?_
      clear hK K
      try (go_simp; (try go_bits))
      refine mix_nil ?_
      clear bA bAx bCx oA
      clear ck0 ck1 ck2 ck3 ck4 lk ckx0 ckx1 ckx2 ckx3 ckx4 lkx
      replace hB := Lib.hid (hB.out.trans (bC.mono hB.out.size))
      replace k := Lib.hid (blk_below k.out bC)
      replace o5 := Lib.hid (o5.out.below bC)
      replace kx := Lib.hid (blk_below kx.out bC)
      replace v7 := Lib.hid (v7.out.below bC)
      clear bC
      obtain ⟨ck0, ck1, ck2, ck3, ck4⟩ := blk5 k.out
      have lk := blk_lt k.out
      go_wp2_with fail
      refine (Ints.to_any (hv.out.below hB.out) (by omega)).mono ?_
      rintro e w11 ⟨rfl, v11, bw11⟩
      clear ck0 ck1 ck2 ck3 ck4 lk
      replace hB := Lib.hid (hB.out.trans (bw11.mono hB.out.size))
      replace k := Lib.hid (blk_below k.out bw11)
      replace o5 := Lib.hid (o5.out.below bw11)
      replace kx := Lib.hid (blk_below kx.out bw11)
      replace v7 := Lib.hid (v7.out.below bw11)
      clear bw11
      replace v11 := Lib.hid v11
      go_wp2_with fail
      refine (eq_intsO v7.out v11.out).mono ?_
      rintro e w12 ⟨rfl, b12⟩
      clear v11
      replace hB := Lib.hid (hB.out.trans (b12.mono hB.out.size))
      replace k := Lib.hid (blk_below k.out b12)
      replace o5 := Lib.hid (o5.out.below b12)
      replace kx := Lib.hid (blk_below kx.out b12)
      replace v7 := Lib.hid (v7.out.below b12)
      clear b12
      go_wp2
      go_ret
      exact ⟨rfl, hB.out⟩
  · have dv : decide ((1048576 : Int) < (xs.length : Int)) = true := by simp; omega
    clear z0 k
    go_enter Try.func11, Try.ntmps11
    go_wp2
    rw [hW.out]
    go_ret
    exact ⟨rfl, hB.out⟩
set_option maxRecDepth 100000 in
theorem walk (v0 : Value) {base : Nat} {w : World} (o0 : Value.okWide Try.prog w .any base 27 v0) {H : Type} {enc : TypeId × Value → H} {d0 : DataW H} {p0 : List MemPlace} (h0 : DataW.Trod enc Try.prog w 0 (fun _ => true) true 27 v0 d0 p0)
    (v1 : Value) (o1 : Value.okWide Try.prog w .any base 39 v1) {d1 : DataW H} {p1 : List MemPlace} (h1 : DataW.Trod enc Try.prog w 0 (fun _ => true) true 39 v1 d1 p1) (a2 : Int) (x2 : (Lit.int .i64 a2).wf = true) :
    Calls Try.prog 11 #[v0, v1, .int .i64 a2] w fun e w' => e = .returned (.bool true) ∧ Below w.heap.size w w' := by
  obtain ⟨p, vr, vc, vs, vt, rfl, hp, hs⟩ := Piece.row_piece o0 h0
  obtain ⟨xs, hx, hw⟩ := Args.row_ints Try.underlying39 Try.underlying3 cellsI o1 h1
  exact walkN hp hs hx a2
theorem own : ownKnob Try.prog.godebug = none := by kernel_rfl
theorem laidOut : laidOutB Try.prog = true := by kernel_rfl
set_option maxRecDepth 100000 in
theorem lifted (os : Os) (started : os.Started) (H : Type) (enc : TypeId × Value → H) :
    ReturnsInHanded {} Try.checked os 11 .any (Rows.fnExactCostOfSpec.pre6 enc Try.prog Try.f11 Rows.fnExactCostOfRow.domain false) (Rows.fnExactCostOfSpec.post enc Try.prog Try.f11 false true false false) := by
  refine returnsInHanded_of_change (C := Try.checked) own started (by kernel_rfl) Try.func11
    (ChangeSpec.witness6 (enc := enc) (C := Try.checked) false ⟨#[], #[.agg #[.int .i64 0, .slice none 0 0, .slice none 0 0, .slice none 0 0, .slice none 0 0], .slice none 0 0, .int .i64 0], []⟩ 8 (by kernel_rfl) (by kernel_rfl) (by kernel_rfl) (by kernel_rfl)) ?_
  intro W base args ds gs before hval0 hW hcnd _
  have hval : ∀ (j : Nat) t v, Try.f11.params[j]? = some t → args[j]? = some v → Value.okWide Try.prog W .any base t v := hval0
  have hW' := hW
  obtain ⟨p, q, hA0, hV, rfl, hfz, hnd⟩ := hW
  have hA : DataW.TrodAll enc Try.prog W 0 (fun _ => true) true Try.f11.params.toList args.toList ds p := hA0
  rw [Try.params11] at hA hval
  obtain ⟨v0, vs0, d0, ds0, p0, q0, hargs, rfl, rfl, h0, r0⟩ := trodAll_cons hA
  obtain ⟨v1, vs1, d1, ds1, p1, q1, rfl, rfl, rfl, h1, r1⟩ := trodAll_cons r0
  obtain ⟨v2, vs2, d2, ds2, p2, q2, rfl, rfl, rfl, h2, r2⟩ := trodAll_cons r1
  obtain ⟨rfl, rfl, rfl⟩ := trodAll_nil r2
  obtain rfl : args = #[v0, v1, v2] := by cases args; simp_all
  obtain ⟨rfl, rfl⟩ := trodVars_none hV
  have k0 := h0
  have o0 := hval 0 27 v0 rfl rfl
  have k1 := h1
  have o1 := hval 1 39 v1 rfl rfl
  have k2 := h2
  obtain ⟨a2, rfl, rfl, rfl, w2⟩ := open_int Try.underlying3 (hval 2 3 v2 rfl rfl) h2
  clear hA0 hval0
  simp only [List.append_nil] at hW'
  have hlt := fun x hx => DataW.Whole.lt hW' x hx
  refine (walk v0 o0 h0 v1 o1 h1 a2 w2).mono fun e W' ⟨he, hg⟩ => ?_
  subst he
  exact ⟨_, rfl, Post.post_of_below (pa := p0 ++ (p1 ++ ([] ++ ([])))) (pv := []) hW' (fun _ _ _ => (trodAll_cons_mk (shut_bool Try.underlying4 _) trodAll_mk0)) (fun sp hsp => (trodAll_cons_mk (Post.stays laidOut (by kernel_rfl) (of_decide_eq_true (by kernel_rfl)) k0 hg (fun x hx => by first | (cases hx; done) | simp [hx]) hlt hsp) (trodAll_cons_mk (Post.stays laidOut (by kernel_rfl) (of_decide_eq_true (by kernel_rfl)) k1 hg (fun x hx => by first | (cases hx; done) | simp [hx]) hlt hsp) (trodAll_cons_mk (Post.stays laidOut (by kernel_rfl) (of_decide_eq_true (by kernel_rfl)) k2 hg (fun x hx => by first | (cases hx; done) | simp [hx]) hlt hsp) trodAll_mk0)))) (fun _ _ => rfl) (by simp)
    hg (ok_one (by kernel_rfl) rfl (okWide_bool_mk Try.underlying4 _))⟩

theorem over : Rows.fnExactCostOfRow.holds Try.pinned (OpenSpec.ofChange Rows.fnExactCostOfSpec) :=
  OpenClaim.holds_of_wide 11 Try.f11 rfl rfl rfl rfl rfl rfl rfl ⟨rfl, rfl, rfl, rfl, rfl⟩ rfl rfl rfl rfl rfl (by kernel_rfl) Try.func11 (by kernel_rfl)
    (of_decide_eq_true (by kernel_rfl)) (by unfold Func.isWrapper; first | (rw [if_pos (by decide +kernel)]; kernel_rfl) | (rw [if_neg (by decide +kernel)]; exact ⟨rfl, rfl⟩))
    (fun os started H enc _ => lifted os started H enc)

/-- THE STATEMENT -/
theorem proved : Rows.FnExactCostOfSaid :=
  over
end Go.Proofs.Ytlakellmdcdaaaa.lawCostOf
