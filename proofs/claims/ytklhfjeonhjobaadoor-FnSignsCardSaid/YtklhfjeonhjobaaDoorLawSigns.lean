/-
  FnSigns: drawn signs come back from their texts; each begins where it stands: the tied card.
  Conditions: none beyond the statement's own.
-/
import Derived.Test.YtklhfjeonhjobaaDoorRows
import Derived.Test.YtklhfjeonhjobaaDoorCards
import Derived.Test.YtklhfjeonhjobaaDoorTie
import Derived.Test.YtklhfjeonhjobaaDoorSignsDraw2
import Derived.Test.YtklhfjeonhjobaaDoorExactSigns
import Derived.Test.YtklhfjeonhjobaaDoorLex7
import Derived.Test.YtklhfjeonhjobaaDoorSame
import Derived.Test.YtklhfjeonhjobaaDoorKeyWord
import Derived.Test.YtklhfjeonhjobaaDoorArgs
import Derived.Test.YtklhfjeonhjobaaDoorPost
import Derived.WalkKit
import Derived.ProofKit
import Derived.OpenShut
import Derived.LaidMore
import Derived.Lay
import Derived.Stop.Joined
import Derived.SevenTiedAt
namespace Go.Proofs.YtklhfjeonhjobaaDoor.lawSigns
open Go.ChangeShapes Go.WideShapes Go.ChangeAt Go.RowKit Go.Proofs.YtklhfjeonhjobaaDoor.Mix Go.Proofs.YtklhfjeonhjobaaDoor.Row Go.Proofs.YtklhfjeonhjobaaDoor.Mem Go.Proofs.YtklhfjeonhjobaaDoor.Owns Go.Proofs.YtklhfjeonhjobaaDoor.Draw Go.Proofs.YtklhfjeonhjobaaDoor.Scan
open Go.Proofs.YtklhfjeonhjobaaDoor.Sign (Sign signs sign texts flatText keys cells4 impl_Flat impl_same spec_same exact_any)
set_option linter.unusedVariables false
theorem cellsB : Tryd.prog.cellsOf 5 = 1 := by kernel_rfl
/-- what is read of signs that were laid flat -/
theorem read_back {xs : List Sign} (hf : ∀ x ∈ xs, Fit x) (hl : xs.length ≤ 9) : ∃ zs, signsOf (flatText xs xs.length) = (zs, 0, true) ∧ keys zs = keys xs ∧ ∀ x ∈ zs, Stands (flatText xs xs.length) x := by
  have hz := fit_flat hf hl
  obtain ⟨zs, hs, hr⟩ := scan_flat (fun x hx => (hf x hx).1) xs.length 0 0 [] (by omega) rfl
  have hs' : scan (flatText xs xs.length) 0 0 [] = (zs, 0, true) := hs
  refine ⟨zs, by unfold signsOf; rw [if_pos (by omega), hs'], ?_, ?_⟩
  · unfold Scan.Read at hr
    rw [List.take_length] at hr
    exact hr
  · have := scan_stands (flatText xs xs.length) 0 0 [] (by simp)
    rw [hs'] at this
    exact this
set_option maxRecDepth 100000 in
set_option maxHeartbeats 3200000 in
theorem walkN {v : Value} {bs : List Int} {w : World} (h : Drawn w v bs) :
    Calls Tryd.prog 9 #[v] w fun e w' => e = .returned (.bool true) ∧ Below w.heap.size w w' := by
  obtain ⟨A0, c0, rfl, -⟩ := id h.1
  by_cases hb : bs.length ≤ 1048576
  · have d0 : decide ((1048576 : Int) < (bs.length : Int)) = false := by simp; omega
    replace h := Lib.hid h
    go_enter Tryd.func9, Tryd.ntmps9
    go_wp2_with fail
    refine (big_any h.out).mono ?_
    rintro e w0 ⟨rfl, rfl⟩
    go_wp2_with fail
    refine (drawSigns_any h.out hb).mono ?_
    rintro e w1 ⟨vl, xs, hl, hf, rfl, ol, b1⟩
    replace h := Lib.hid (h.out.below b1)
    have hB := Lib.hid b1
    clear b1
    have hz := fit_flat hf hl
    have ht := fit_tot hf
    obtain ⟨zs, hs, hk, hst⟩ := read_back hf hl
    have cf := impl_Flat (row_of_owns ol) (by omega)
    obtain ⟨Al, cl, rfl, -, ln, lnc, lcm, -⟩ := row_of_owns ol
    generalize flatText xs xs.length = t at hz hs hst cf
    have cs := Lib.hid (fun W => impl_Signs t (by omega) W)
    rw [hs] at cs
    have hzl := signsOf_len t
    rw [hs] at hzl
    replace ol := Lib.hid ol
    replace cf := Lib.hid cf
    replace hst := Lib.hid hst
    replace hk := Lib.hid hk
    clear hf ht hs
    go_wp2_with fail
    refine cf.out.mono ?_
    rintro e w2 ⟨rfl, b2⟩
    replace ol := Lib.hid (own_below ol.out b2)
    replace h := Lib.hid (h.out.below b2)
    replace hB := Lib.hid (hB.out.trans (b2.mono hB.out.size))
    clear b2 cf
    go_wp2_with fail
    refine (cs.out _).mono ?_
    rintro e w3 ⟨vz, rfl, oz, b3⟩
    replace ol := Lib.hid (row_of_owns (own_below ol.out b3))
    replace h := Lib.hid (h.out.below b3)
    replace hB := Lib.hid (hB.out.trans (b3.mono hB.out.size))
    clear b3 cs
    obtain ⟨Az, cz, rfl, -, zn, znc, zcm, hza⟩ := row_of_owns oz
    replace oz := Lib.hid (row_of_owns oz)
    replace hza := Lib.hid hza
    go_wp2
    go_loopw [8] (fun i wr => ∃ k : Nat, k ≤ zs.length ∧ i = .int .i64 k ∧ (∃ n, wr = w3.drewN n)) (fun i _ => zs.length - (intOf i).toNat)
    case atStart => exact ⟨0, by omega, rfl, ⟨0, rfl⟩⟩
    case round =>
      obtain ⟨k, hkz, rfl, ⟨nd, rfl⟩⟩ := hrel
      by_cases hlt : k < zs.length
      · obtain ⟨b, off, rfl, hbb, hc⟩ := hza.out (by omega)
        obtain ⟨p0, p1, p2, p3⟩ := cells4 hc hlt
        obtain ⟨a, ha1, ha2, ha3⟩ := hst.out _ (List.getElem_mem hlt)
        generalize zs[k] = x at *
        rw [ha1] at p2
        clear hc ha1 p0 p3
        have i0 : (0 : Int) ≤ (k : Int) := by omega
        have i1 : (k : Int) < (zs.length : Int) := by omega
        have j0 : (0 : Int) ≤ (a : Int) + (x.t.size : Int) := by omega
        have j1 : (a : Int) ≤ (a : Int) + (x.t.size : Int) := by omega
        have j2 : (a : Int) + (x.t.size : Int) ≤ (t.size : Int) := by omega
        have j3 : ((a : Int) + (x.t.size : Int)).toNat = a + x.t.size := by omega
        have j4 : decide ((t.size : Int) < (a : Int) + (x.t.size : Int)) = false := by simp; omega
        have j5 : ((t.extract a (a + x.t.size)).toList == x.t.toList) = true := by rw [ha3]; simp
        replace ha3 := Lib.hid ha3
        go_wp2
        go_quiet (fail)
        go_wp2
        exact ⟨⟨k + 1, by omega, by go_num, ⟨_, rfl⟩⟩, by simp [intOf]; omega⟩
      · obtain rfl : k = zs.length := by omega
        have d4 : decide ((zs.length : Int) < (zs.length : Int)) = false := by simp
        have hd : Below w3.heap.size w3 (w3.drewN nd) := to_drewN _ _ _
        replace h := Lib.hid (h.out.below hd)
        replace ol := Lib.hid (ol.out.below hd)
        replace oz := Lib.hid (oz.out.below hd)
        replace hB := Lib.hid (hB.out.trans (hd.mono hB.out.size))
        generalize w3.drewN nd = w4 at h ol oz hB ⊢
        clear hd hza hst hkz hlt
        go_wp2_with fail
        refine (drawSignsOf_any h.out hb).mono ?_
        rintro e w5 ⟨u, hu, rfl, b5⟩
        replace h := Lib.hid (h.out.below b5)
        replace ol := Lib.hid (ol.out.below b5)
        replace oz := Lib.hid (oz.out.below b5)
        replace hB := Lib.hid (hB.out.trans (b5.mono hB.out.size))
        clear b5
        have cu := Lib.hid (fun W => impl_Signs u (by omega) W)
        have cv := Lib.hid (fun W => spec_Signs u (by omega) W)
        have hul := signsOf_len u
        generalize (signsOf u).1 = us at cu cv hul
        generalize (signsOf u).2.1 = up at cu cv
        generalize (signsOf u).2.2 = ub at cu cv
        go_wp2_with fail
        refine (cu.out _).mono ?_
        rintro e w6 ⟨va, rfl, oa, b6⟩
        obtain ⟨Aa, ca, rfl, -, an, anc, acm, -⟩ := row_of_owns oa
        replace oa := Lib.hid (row_of_owns oa)
        replace h := Lib.hid (h.out.below b6)
        replace ol := Lib.hid (ol.out.below b6)
        replace oz := Lib.hid (oz.out.below b6)
        replace hB := Lib.hid (hB.out.trans (b6.mono hB.out.size))
        clear b6 cu
        go_wp2_with fail
        refine (cv.out _).mono ?_
        rintro e w7 ⟨vb, rfl, ob, b7⟩
        obtain ⟨Ab, cb, rfl, -, bn, bnc, bcm, -⟩ := row_of_owns ob
        replace ob := Lib.hid (row_of_owns ob)
        replace oa := Lib.hid (oa.out.below b7)
        replace h := Lib.hid (h.out.below b7)
        replace ol := Lib.hid (ol.out.below b7)
        replace oz := Lib.hid (oz.out.below b7)
        replace hB := Lib.hid (hB.out.trans (b7.mono hB.out.size))
        clear b7 cv
        go_wp2_with fail
        refine (drawSame_any h.out hb).mono ?_
        rintro e w8 ⟨vc, vd, ds, es, rfl, oc, od, b8⟩
        obtain ⟨Ac, cc, rfl, -, cn, cnc, ccm, -⟩ := id oc
        obtain ⟨Ad, cd, rfl, -, dn, dnc, dcm, -⟩ := id od
        replace oc := Lib.hid oc
        replace od := Lib.hid od
        replace ob := Lib.hid (ob.out.below b8)
        replace oa := Lib.hid (oa.out.below b8)
        replace h := Lib.hid (h.out.below b8)
        replace ol := Lib.hid (ol.out.below b8)
        replace oz := Lib.hid (oz.out.below b8)
        replace hB := Lib.hid (hB.out.trans (b8.mono hB.out.size))
        clear b8
        go_wp2_with fail
        refine (drawKeyWord_any h.out hb).mono ?_
        rintro e w9 ⟨kw, rfl, b9⟩
        replace oc := Lib.hid (oc.out.below b9)
        replace od := Lib.hid (od.out.below b9)
        replace ob := Lib.hid (ob.out.below b9)
        replace oa := Lib.hid (oa.out.below b9)
        replace h := Lib.hid (h.out.below b9)
        replace ol := Lib.hid (ol.out.below b9)
        replace oz := Lib.hid (oz.out.below b9)
        replace hB := Lib.hid (hB.out.trans (b9.mono hB.out.size))
        clear b9
        go_wp2_with fail
        refine (drawMarkOk_any h.out hb).mono ?_
        rintro e w10 ⟨mk, rfl, b10⟩
        replace oc := Lib.hid (oc.out.below b10)
        replace od := Lib.hid (od.out.below b10)
        replace ob := Lib.hid (ob.out.below b10)
        replace oa := Lib.hid (oa.out.below b10)
        replace ol := Lib.hid (ol.out.below b10)
        replace oz := Lib.hid (oz.out.below b10)
        replace hB := Lib.hid (hB.out.trans (b10.mono hB.out.size))
        clear b10 h
        go_wp2_with fail
        refine (impl_same oz.out ol.out).mono ?_
        rintro e w11 ⟨rfl, b11⟩
        rw [decide_eq_true hk.out]
        replace oc := Lib.hid (oc.out.below b11)
        replace od := Lib.hid (od.out.below b11)
        replace ob := Lib.hid (ob.out.below b11)
        replace oa := Lib.hid (oa.out.below b11)
        replace hB := Lib.hid (hB.out.trans (b11.mono hB.out.size))
        clear b11 ol oz hk
        go_wp2_with fail
        refine (exact_any oa.out ob.out).mono ?_
        rintro e w12 ⟨rfl, b12⟩
        replace oc := Lib.hid (oc.out.below b12)
        replace od := Lib.hid (od.out.below b12)
        replace hB := Lib.hid (hB.out.trans (b12.mono hB.out.size))
        clear b12 oa ob
        go_wp2_with fail
        refine (impl_same oc.out od.out).mono ?_
        rintro e w13 ⟨rfl, b13⟩
        replace oc := Lib.hid (oc.out.below b13)
        replace od := Lib.hid (od.out.below b13)
        replace hB := Lib.hid (hB.out.trans (b13.mono hB.out.size))
        clear b13
        have cq := Lib.hid (spec_same oc.out od.out)
        generalize decide (keys ds = keys es) = q at cq ⊢
        go_wp2_with fail
        refine cq.out.mono ?_
        rintro e w14 ⟨rfl, b14⟩
        replace hB := Lib.hid (hB.out.trans (b14.mono hB.out.size))
        clear b14 cq oc od
        go_wp2_with fail
        refine (KeyWord.impl_any kw _).mono ?_
        rintro e w15 ⟨rfl, rfl⟩
        go_wp2_with fail
        refine (KeyWord.spec_any kw _).mono ?_
        rintro e w15 ⟨rfl, rfl⟩
        go_wp2_with fail
        refine (Mark.impl_any mk _).mono ?_
        rintro e w15 ⟨rfl, rfl⟩
        go_wp2_with fail
        refine (Mark.spec_any mk _).mono ?_
        rintro e w15 ⟨rfl, b15⟩
        replace hB := Lib.hid (hB.out.trans (b15.mono hB.out.size))
        clear b15
        go_wp2
        go_ret
        exact ⟨by simp, hB.out⟩
  · have d0 : decide ((1048576 : Int) < (bs.length : Int)) = true := by simp; omega
    go_enter Tryd.func9, Tryd.ntmps9
    go_wp2_with fail
    refine (big_any h).mono ?_
    rintro e w0 ⟨rfl, rfl⟩
    go_wp2
    go_ret
    exact ⟨rfl, Below.refl _ _⟩
set_option maxRecDepth 100000 in
theorem walk (v0 : Value) {base : Nat} {w : World} (o0 : Value.okWide Tryd.prog w .any base 32 v0) {H : Type} {enc : TypeId × Value → H} {d0 : DataW H} {p0 : List MemPlace} (h0 : DataW.Trod enc Tryd.prog w 0 (fun _ => true) true 32 v0 d0 p0) :
    Calls Tryd.prog 9 #[v0] w fun e w' => e = .returned (.bool true) ∧ Below w.heap.size w w' := by
  obtain ⟨xs, hx, hw⟩ := Args.row_ints Tryd.underlying32 Tryd.underlying5 cellsB o0 h0
  exact walkN ⟨hx, fun x hx => by have := hw x hx; simp [Lit.wf, IntKind.min, IntKind.max, IntKind.signed, IntKind.bits] at this; omega⟩
theorem own : ownKnob Tryd.prog.godebug = none := by kernel_rfl
theorem laidOut : laidOutB Tryd.prog = true := by kernel_rfl
set_option maxRecDepth 100000 in
theorem lifted (os : Os) (started : os.Started) (H : Type) (enc : TypeId × Value → H) :
    ReturnsInHanded {} Tryd.checked os 9 .any (fun w args => (Rows.fnSignsSpec.pre enc Tryd.prog Tryd.f9 [] false w args ∧ laidMetH Tryd.prog Rows.fnSignsRow.laid w) ∧ sizedMet enc Tryd.prog Tryd.f9 (OpenSpec.ofChange Rows.fnSignsSpec) false w args)
      (Rows.fnSignsSpec.post enc Tryd.prog Tryd.f9 false true false false) := by
  refine returnsInHanded_of_change_and (C := Tryd.checked) (X := fun w _ => laidMetH Tryd.prog Rows.fnSignsRow.laid w) (fun _ _ _ hh h => h.of_heap hh) own started (by kernel_rfl) Tryd.func9
    (ChangeSpec.witness_shaped (enc := enc) (C := Tryd.checked) (os := os) (X := fun w _ => laidMetH Tryd.prog Rows.fnSignsRow.laid w) false (World.laidAll Tryd.prog os Rows.fnSignsRow.laid) #[.slice none 0 0] 8 (World.laidAll_os _ _ _)
      (World.shaped_of_ZipB (by kernel_rfl) (by kernel_rfl)) (by kernel_rfl) (by kernel_rfl) (by kernel_rfl)
      (by rw [MakeChecks.laidMetH_plain _ _ _ (by kernel_rfl)]; exact laidMet_laidAll _ (by kernel_rfl) (by kernel_rfl))) ?_
  intro W base args ds gs before hval0 hW _ _ _ _
  have hval : ∀ (j : Nat) t v, Tryd.f9.params[j]? = some t → args[j]? = some v → Value.okWide Tryd.prog W .any base t v := hval0
  have hW' := hW
  obtain ⟨p, q, hA0, hV, rfl, hfz, hnd⟩ := hW
  have hA : DataW.TrodAll enc Tryd.prog W 0 (fun _ => true) true Tryd.f9.params.toList args.toList ds p := hA0
  rw [Tryd.params9] at hA hval
  obtain ⟨v0, vs0, d0, ds0, p0, q0, hargs, rfl, rfl, h0, r0⟩ := trodAll_cons hA
  obtain ⟨rfl, rfl, rfl⟩ := trodAll_nil r0
  obtain rfl : args = #[v0] := by cases args; simp_all
  obtain ⟨rfl, rfl⟩ := trodVars_none hV
  have k0 := h0
  have o0 := hval 0 32 v0 rfl rfl
  clear hA0 hval0
  simp only [List.append_nil] at hW'
  have hlt := fun x hx => DataW.Whole.lt hW' x hx
  refine (walk v0 o0 h0).mono fun e W' ⟨he, hg⟩ => ?_
  subst he
  exact ⟨_, rfl, Post.post_of_below (pa := p0 ++ ([])) (pv := []) hW' (fun _ _ _ => (trodAll_cons_mk (shut_bool Tryd.underlying4 _) trodAll_mk0)) (fun sp hsp => (trodAll_cons_mk (Post.stays laidOut (by kernel_rfl) (of_decide_eq_true (by kernel_rfl)) k0 hg (fun x hx => by first | (cases hx; done) | simp [hx]) hlt hsp) trodAll_mk0)) (fun _ _ => rfl) (by simp)
    hg (ok_one (by kernel_rfl) rfl (okWide_bool_mk Tryd.underlying4 _))⟩

theorem over : Rows.fnSignsRow.holds Tryd.pinned (OpenSpec.ofChange Rows.fnSignsSpec) :=
  OpenClaim.holds_of_wide 9 Tryd.f9 rfl rfl rfl rfl rfl rfl rfl ⟨rfl, rfl, rfl, rfl, rfl⟩ rfl rfl rfl rfl rfl (by kernel_rfl) Tryd.func9 (by kernel_rfl)
    (of_decide_eq_true (by kernel_rfl)) (by unfold Func.isWrapper; first | (rw [if_pos (by decide +kernel)]; kernel_rfl) | (rw [if_neg (by decide +kernel)]; exact ⟨rfl, rfl⟩))
    (fun os started H enc _ => lifted os started H enc)

/-- THE STATEMENT: the tied card -/
theorem proved : Rows.FnSignsCardSaid :=
  Claim7.holds_tied_plain_at .later [] Rows.fnSignsCard.laidKinds true Rows.fnSignsCard.stood.harness Rows.fnSignsCard.stood.looks
    over (fun _ h => by cases h) (by kernel_rfl) (fun _ h => by cases h) fnSigns_row_tie rfl ⟨rfl, rfl⟩ (by kernel_rfl) rfl
    (fun f fn hf hfn => by
      obtain rfl : f = 9 := Option.some.inj ((show Tryd.prog.funcNamed "loop.example/g00459/laws.FnSigns" = some 9 by kernel_rfl).symm.trans hf) |>.symm
      obtain rfl : fn = Tryd.f9 := (Option.some.inj (Tryd.func9.symm.trans hfn)).symm
      exact ⟨by kernel_rfl, fun j t ht => by
        rw [Tryd.params9] at ht
        have hm : t ∈ [32] := by simpa using Array.mem_of_getElem? ht
        have hall : ([32].all fun u => !Tryd.prog.wantsStandIn u) = true := by kernel_rfl
        exact (show Tryd.prog.wantsStandIn t = false by simpa using List.all_eq_true.1 hall t hm)⟩)
    (by kernel_rfl)
end Go.Proofs.YtklhfjeonhjobaaDoor.lawSigns
