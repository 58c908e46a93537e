/-
  The contract of spec.l11Pop.
  Conditions: the list is the call's own and has a state.
-/
import Derived.Test.YtocplbhgklfgeaaHeaps4
namespace Go.Proofs.Ytocplbhgklfgeaa.States
open Go.RowKit Go.Proofs.Ytocplbhgklfgeaa.Row Go.Proofs.Ytocplbhgklfgeaa.Mem Go.Proofs.Ytocplbhgklfgeaa.Mix Go.Proofs.Ytocplbhgklfgeaa.Ints Go.Proofs.Ytocplbhgklfgeaa.State Go.Proofs.Ytocplbhgklfgeaa.Recs Go.Proofs.Ytocplbhgklfgeaa.Owns Go.Proofs.Ytocplbhgklfgeaa.Blocks Go.Proofs.Ytocplbhgklfgeaa.Sift
set_option maxRecDepth 100000 in
set_option maxHeartbeats 6400000 in
theorem spec_pop {w0 w : World} {n : Nat} {v : Value} {ys : List S} {x : S} (h : HL w w0.heap.size v (n + 1) ys) (hB : Below w0.heap.size w0 w) (h0 : 0 < ys.length) (hx : ys[0] = x) (hn : n ≤ 1048577) :
    Calls Try.prog 29 #[v] w fun e w' => ∃ q cap zs, e = .returned (.tuple #[.slice (some ⟨q, 0, none⟩) n cap, x.val]) ∧ zs.map S.abs = popA (ys.map S.abs) ∧ HX w' w0.heap.size n q cap zs x ∧ Below w0.heap.size w0 w' := by
  obtain ⟨q, cap, rfl, -, -, -⟩ := owns_some h.row (by omega)
  obtain ⟨hq0, hq1, hqf⟩ := h.q
  have hln : n < ys.length := by rw [h.len]; omega
  have rx := h.own.rows _ (List.getElem_mem h0)
  rw [hx] at rx
  obtain ⟨Ax, cx, hxv⟩ := lit rx
  rcases x with ⟨xv, xl, xs⟩
  obtain rfl : xv = .slice Ax xl.length cx := hxv
  obtain ⟨y, hy⟩ : ∃ y, ys[n] = y := ⟨_, rfl⟩
  have ry := h.own.rows _ (List.getElem_mem hln)
  rw [hy] at ry
  obtain ⟨Ay, cy, hyv⟩ := lit ry
  rcases y with ⟨yv, yl, ym⟩
  obtain rfl : yv = .slice Ay yl.length cy := hyv
  obtain ⟨p0, p1⟩ := h.cells h0 hx
  obtain ⟨q0, q1⟩ := h.cells hln hy
  simp only [Nat.zero_mul, Nat.zero_add] at p0 p1
  have hX := HX.start h h0 hln hx hy
  have hres : Hid (downA (((ys.set 0 (⟨.slice Ay yl.length cy, yl, ym⟩ : S)).take n).map S.abs) 0 = popA (ys.map S.abs)) := Lib.hid (by
    unfold popA
    rw [List.length_map, h.len, Nat.add_sub_cancel, List.map_take, List.map_set, abs_getD hln, hy]
    rfl)
  obtain ⟨W1, hW1⟩ : ∃ W1, (w.setCell ⟨q, 0, none⟩ (.slice Ay yl.length cy)).setCell ⟨q, 1, none⟩ (.int .i64 ym) = W1 := ⟨_, rfl⟩
  have hB1 : Below w0.heap.size w0 W1 := by rw [← hW1]; exact (hB.setCell (p := ⟨q, 0, none⟩) hq0 _).setCell (p := ⟨q, 1, none⟩) hq0 _
  have sW : W1.heap.size = w.heap.size := by rw [← hW1]; simp [World.setCell]
  rw [hW1] at hX
  have t2 := Blocks.two W1 (.cells #[.slice none 0 0, .int .i64 0] 31) (.cells #[.slice Ax xl.length cx, .int .i64 xs] 31)
  rw [sW] at t2
  obtain ⟨kR, kF, sz2⟩ := t2
  have b2 := Blocks.below2 W1 (.cells #[.slice none 0 0, .int .i64 0] 31) (.cells #[.slice Ax xl.length cx, .int .i64 xs] 31)
  have hB2 := Lib.hid (hB1.trans (b2.mono hB1.size))
  replace hX := Lib.hid (hX.below b2)
  replace kR := Lib.hid kR
  replace kF := Lib.hid kF
  replace hB := Lib.hid hB
  replace hW1 := Lib.hid hW1
  replace hx := Lib.hid hx
  replace hy := Lib.hid hy
  have i0 : (0 : Int) < (n : Int) + 1 := by omega
  have i1 : (n : Int) < (n : Int) + 1 := by omega
  have i2 : (0 : Int) ≤ (n : Int) := by omega
  have i3 : (n : Int) ≤ (cap : Int) := by
    rcases h.row.2 with ⟨h9, _⟩ | ⟨g', cap', cur, hv, _, _, hnc, _⟩
    · cases h9
    · injection hv with _ _ hv; omega
  replace sz2 := Lib.hid sz2
  replace sW := Lib.hid sW
  clear h rx ry b2 hB1 hx hy
  go_enter Try.func29, Try.ntmps29
  go_wp2
  rw [hW1.out]
  go_loopw [6] (fun i wr => ∃ (k : Nat) (zs : List S), k ≤ n ∧ i = .int .i64 k ∧ Hid (downA (zs.map S.abs) k = popA (ys.map S.abs)) ∧ HX wr w0.heap.size n q cap zs ⟨.slice Ax xl.length cx, xl, xs⟩ ∧ Hid (Below w0.heap.size w0 wr) ∧ Hid (wr.heap[w.heap.size]? = some (.cells #[.slice none 0 0, .int .i64 0] 31 (0, 0))) ∧ Hid (wr.heap[w.heap.size + 1]? = some (.cells #[.slice Ax xl.length cx, .int .i64 xs] 31 (0, 0)))) (fun i _ => n - (intOf i).toNat)
  case atStart => exact ⟨0, _, by omega, rfl, hres, hX.out, hB2, kR, kF⟩
  case round =>
    clear hX hB2 kR kF hres p0 p1 q0 q1 hqf
    obtain ⟨k, zs, hk, rfl, hdn, hz, hbw, kR, kF⟩ := hrel
    have lz := Lib.hid hz.len
    have hla : (zs.map S.abs).length = n := by simp [hz.len]
    replace hla := Lib.hid hla
    have hqR : q ≠ w.heap.size := by omega
    have hqF : q ≠ w.heap.size + 1 := by omega
    obtain ⟨-, hr1, hrf⟩ := hz.hl.q
    have lF := blk_lt kF.out
    have lR := blk_lt kR.out
    by_cases h1 : 2 * k + 1 < n
    · obtain ⟨m, hm⟩ : ∃ m, 2 * k + 1 = m := ⟨_, rfl⟩
      obtain ⟨m2, hm2⟩ : ∃ m2, m + 1 = m2 := ⟨_, rfl⟩
      have e1 : 2 * (k : Int) + 1 = (m : Int) := by omega
      have e2 : (m : Int) + 1 = (m2 : Int) := by omega
      have s1 : IntKind.i64.wrap ((m : Int) + 1) = (m2 : Int) := by rw [IntWalk.i64_in _ (by omega)]; exact e2
      have hka : k < zs.length := by have := lz.out; omega
      have hmb : m < zs.length := by have := lz.out; omega
      obtain ⟨a, ea⟩ : ∃ y, zs[k] = y := ⟨_, rfl⟩
      have ra := hz.hl.own.rows _ (List.getElem_mem hka)
      rw [ea] at ra
      obtain ⟨Aa, ca, ha⟩ := lit ra
      rcases a with ⟨av, al, am⟩
      obtain rfl : av = .slice Aa al.length ca := ha
      obtain ⟨b, eb⟩ : ∃ y, zs[m] = y := ⟨_, rfl⟩
      have rb := hz.hl.own.rows _ (List.getElem_mem hmb)
      rw [eb] at rb
      obtain ⟨Ab, cb, hb⟩ := lit rb
      rcases b with ⟨bv, bl, bm⟩
      obtain rfl : bv = .slice Ab bl.length cb := hb
      have d1 : decide ((m : Int) < (n : Int)) = true := decide_eq_true (by omega)
      have i4 : (0 : Int) ≤ (m : Int) := by omega
      have i5 : (m : Int) < (n : Int) := by omega
      replace hm := Lib.hid hm
      replace hm2 := Lib.hid hm2
      by_cases h2 : m2 < n
      · have hmc : m2 < zs.length := by have := lz.out; omega
        obtain ⟨c, ec⟩ : ∃ y, zs[m2] = y := ⟨_, rfl⟩
        have rc := hz.hl.own.rows _ (List.getElem_mem hmc)
        rw [ec] at rc
        obtain ⟨Ac, cc, hc⟩ := lit rc
        rcases c with ⟨cv, cl, cm⟩
        obtain rfl : cv = .slice Ac cl.length cc := hc
        have d2 : decide ((m2 : Int) < (n : Int)) = true := decide_eq_true (by omega)
        have i6 : (0 : Int) ≤ (m2 : Int) := by omega
        have i7 : (m2 : Int) < (n : Int) := by omega
        have hcb := Lib.hid (fun (W : World) (hW : Below wr.heap.size wr W) => spec_less (Row.below rc hW) (Row.below rb hW) cm bm)
        have hlc := less_at hmc hmb ec eb
        replace ea := Lib.hid ea
        replace eb := Lib.hid eb
        replace ra := Lib.hid ra
        replace rb := Lib.hid rb
        replace hz := Lib.hid hz
        replace ec := Lib.hid ec
        replace rc := Lib.hid rc
        replace hlc := Lib.hid hlc
        obtain ⟨p0, p1⟩ := hz.out.hl.cells hmb eb.out
        obtain ⟨q0, q1⟩ := hz.out.hl.cells hmc ec.out
        cases hl : lessState cl bl cm bm
        · simp only [hl] at hcb
          have hkd : kidA (zs.map S.abs) k = m := by unfold kidA; rw [hm.out, show 2 * k + 2 = m2 by have := hm.out; have := hm2.out; omega, hlc.out, hl, hla.out]; simp
          replace hkd := Lib.hid hkd
          clear hl
          go_wp2
          refine wp_region_below [(0, true), (1, true), (2, true), (3, true), (4, true), (5, true), (6, true), (7, true), (8, true), (9, true), (10, true), (11, true), (12, true), (13, true), (14, false), (15, false)] (by kernel_rfl) (by kernel_rfl) (fun d _ _ _ _ h => by cases d <;> exact h) ?_
          repeat
           (refine mix_still rfl (by rfl) ?_
            apply Exists.intro
            refine ⟨fun w' hS => ?_, ?_⟩
            · (have hS' := cells_of hS; clear hS; go_simp; (try go_bits); first | with_reducible rfl | (refine (if_pos ?_).trans ?_; omega; with_reducible rfl))
            (go_simp; (try go_bits)))
          refine mix_loud rfl (fun K hK => ?_)
          (go_simp; (try go_bits))
          refine (hcb.out _ (to_drew _ _)).mono ?_
          rintro _ w2 ⟨rfl, b2⟩
          replace b2 := of_drew b2
          refine hK _ _ (fun _ => b2) ?_
          clear hK K
          (go_simp; (try go_bits))
          refine mix_loud rfl (fun K hK => ?_)
          (go_simp; (try go_bits))
          refine hK _ _ (no_need (by kernel_rfl)) ?_
          clear hK K
          try (go_simp; (try go_bits))
          refine mix_nil ?_
          clear p0 p1 q0 q1
          replace hz := Lib.hid (hz.out.below b2)
          replace hbw := Lib.hid (hbw.out.trans (Below.mono b2 hbw.out.size))
          replace kR := Lib.hid (blk_below kR.out b2)
          replace kF := Lib.hid (blk_below kF.out b2)
          clear hr1 hrf lR lF
          obtain ⟨-, hr1, hrf⟩ := hz.out.hl.q
          have lR := blk_lt kR.out
          have lF := blk_lt kF.out
          have hwc := Lib.hid b2
          obtain ⟨u0, u1⟩ := hz.out.hl.cells hmb eb.out
          obtain ⟨z0, z1⟩ := hz.out.hl.cells hka ea.out
          have hca := Lib.hid (fun (W : World) (hW : Below w2.heap.size w2 W) => spec_less (Row.below (Row.below rb.out hwc.out) hW) (Row.below (Row.below ra.out hwc.out) hW) bm am)
          have hle := Lib.hid (less_at hmb hka eb.out ea.out)
          have hkid : Hid (kidA (zs.map S.abs) k = m) := Lib.hid (hkd.out)
          have j1 : (m : Int) < (n : Int) := by have := lz.out; omega
          have j0 : (0 : Int) ≤ (m : Int) := by omega
          have j2 : (k : Int) < (n : Int) := by omega
          have j3 : (0 : Int) ≤ (k : Int) := by omega
          cases hl9 : lessState bl al bm am
          · simp only [hl9] at hca
            have hdone := Lib.hid (hdn.out.symm.trans (downA_no (by rw [hkid.out, hle.out]; exact hl9)))
            clear hl9
            go_wp2
            refine wp_region_below [(0, true), (1, true), (2, true), (3, true), (4, true), (5, true), (6, true), (7, true), (8, false), (9, false)] (by kernel_rfl) (by kernel_rfl) (fun d _ _ _ _ h => by cases d <;> exact h) ?_
            repeat
             (refine mix_still rfl (by rfl) ?_
              apply Exists.intro
              refine ⟨fun w' hS => ?_, ?_⟩
              · (have hS' := cells_of hS; clear hS; go_simp; (try go_bits); first | with_reducible rfl | (refine (if_pos ?_).trans ?_; omega; with_reducible rfl))
              (go_simp; (try go_bits)))
            refine mix_loud rfl (fun K hK => ?_)
            (go_simp; (try go_bits))
            refine (hca.out _ (to_drew _ _)).mono ?_
            rintro _ w9 ⟨rfl, b9⟩
            replace b9 := of_drew b9
            refine hK _ _ (fun _ => b9) ?_
            clear hK K
            (go_simp; (try go_bits))
            refine mix_loud rfl (fun K hK => ?_)
            (go_simp; (try go_bits))
            refine hK _ _ (no_need (by kernel_rfl)) ?_
            clear hK K
            try (go_simp; (try go_bits))
            refine mix_nil ?_
            clear u0 u1 z0 z1
            replace hz := Lib.hid (hz.out.below b9)
            replace hbw := Lib.hid (hbw.out.trans (Below.mono b9 hbw.out.size))
            replace kR := Lib.hid (blk_below kR.out b9)
            replace kF := Lib.hid (blk_below kF.out b9)
            clear hr1 hrf lR lF
            obtain ⟨-, hr1, hrf⟩ := hz.out.hl.q
            have lR := blk_lt kR.out
            have lF := blk_lt kF.out
            obtain ⟨x0, x1⟩ := blk2 kR.out
            obtain ⟨y0, y1⟩ := blk2 kF.out
            have fR := frz kR.out
            replace lR := blk_lt kR.out
            replace lF := blk_lt kF.out
            have hfin := Lib.hid (HX.res (hz.out.below (to_drew w9 _)) (show w9.drew.heap[w.heap.size]? = _ from kR.out) hqR (.slice Ax xl.length cx) (.int .i64 xs))
            have hfb := Lib.hid ((hbw.out.drew.setCell (p := ⟨w.heap.size, 0, none⟩) hB.out.size (.slice Ax xl.length cx)).setCell (p := ⟨w.heap.size, 1, none⟩) hB.out.size (.int .i64 xs))
            go_wp2
            refine wp_region_below [(0, true), (1, true), (2, true), (3, false)] (by kernel_rfl) (by kernel_rfl) (fun d _ _ _ _ h => by cases d <;> exact h) ?_
            repeat
             (refine mix_still rfl (by rfl) ?_
              apply Exists.intro
              refine ⟨fun w' hS => ?_, ?_⟩
              · (have hS' := cells_of hS; clear hS; go_simp; (try go_bits); first | with_reducible rfl | (refine (if_pos ?_).trans ?_; omega; with_reducible rfl))
              (go_simp; (try go_bits)))
            refine mix_loud rfl (fun K hK => ?_)
            (go_simp; (try go_bits))
            refine hK _ _ (no_need (by kernel_rfl)) ?_
            clear hK K
            try (go_simp; (try go_bits))
            refine mix_nil ?_
            go_wp2
            refine bodyPost_ret (v := .tuple #[.slice (some ⟨q, 0, none⟩) n cap, .agg #[.slice Ax xl.length cx, .int .i64 xs]]) (by simp [results, Try.results29, go_sem, x0, x1]) rfl ?_
            exact ⟨q, cap, zs, rfl, hdone.out.symm, hfin.out, hfb.out⟩
          · simp only [hl9] at hca
            have hyes := Lib.hid (show downA ((swp zs k m).map S.abs) m = popA (ys.map S.abs) from by rw [← hdn.out, downA_yes (l := zs.map S.abs) (i := k) (by rw [hla.out]; exact h1) (by rw [hkid.out, hle.out]; exact hl9), hkid.out, swp_map])
            clear hl9
            go_wp2
            refine wp_region_below [(0, true), (1, true), (2, true), (3, true), (4, true), (5, true), (6, true), (7, true), (8, false), (9, false)] (by kernel_rfl) (by kernel_rfl) (fun d _ _ _ _ h => by cases d <;> exact h) ?_
            repeat
             (refine mix_still rfl (by rfl) ?_
              apply Exists.intro
              refine ⟨fun w' hS => ?_, ?_⟩
              · (have hS' := cells_of hS; clear hS; go_simp; (try go_bits); first | with_reducible rfl | (refine (if_pos ?_).trans ?_; omega; with_reducible rfl))
              (go_simp; (try go_bits)))
            refine mix_loud rfl (fun K hK => ?_)
            (go_simp; (try go_bits))
            refine (hca.out _ (to_drew _ _)).mono ?_
            rintro _ w9 ⟨rfl, b9⟩
            replace b9 := of_drew b9
            refine hK _ _ (fun _ => b9) ?_
            clear hK K
            (go_simp; (try go_bits))
            refine mix_loud rfl (fun K hK => ?_)
            (go_simp; (try go_bits))
            refine hK _ _ (no_need (by kernel_rfl)) ?_
            clear hK K
            try (go_simp; (try go_bits))
            refine mix_nil ?_
            clear u0 u1 z0 z1
            replace hz := Lib.hid (hz.out.below b9)
            replace hbw := Lib.hid (hbw.out.trans (Below.mono b9 hbw.out.size))
            replace kR := Lib.hid (blk_below kR.out b9)
            replace kF := Lib.hid (blk_below kF.out b9)
            clear hr1 hrf lR lF
            obtain ⟨-, hr1, hrf⟩ := hz.out.hl.q
            have lR := blk_lt kR.out
            have lF := blk_lt kF.out
            obtain ⟨u0, u1⟩ := hz.out.hl.cells hmb eb.out
            obtain ⟨z0, z1⟩ := hz.out.hl.cells hka ea.out
            have lt1 : Hid (k < m) := Lib.hid (by have := kidA_bd (l := zs.map S.abs) (i := k) (by rw [hla.out]; exact h1); rw [hkid.out] at this; exact this.1)
            have hn1 : q ≠ w9.heap.size := by omega
            have hn2 : w9.heap.size ≠ q := by omega
            have al9 := (Below.refl ((((w9.setCell ⟨q, k * 2, none⟩ (.slice Ab bl.length cb)).setCell ⟨q, k * 2 + 1, none⟩ (.int .i64 bm)).setCell ⟨q, m * 2, none⟩ (.slice Aa al.length ca)).setCell ⟨q, m * 2 + 1, none⟩ (.int .i64 am)).heap.size ((((w9.setCell ⟨q, k * 2, none⟩ (.slice Ab bl.length cb)).setCell ⟨q, k * 2 + 1, none⟩ (.int .i64 bm)).setCell ⟨q, m * 2, none⟩ (.slice Aa al.length ca)).setCell ⟨q, m * 2 + 1, none⟩ (.int .i64 am))).alloc (Nat.le_refl _) (.cells #[.slice Aa al.length ca, .int .i64 am] 31)
            have hsw := Lib.hid ((hz.out.swap hka hmb ea.out eb.out).below al9)
            have bs9 := below_swap hbw.out hq0 k m (.slice Ab bl.length cb) (.int .i64 bm) (.slice Aa al.length ca) (.int .i64 am)
            have hbs := Lib.hid (bs9.trans (al9.mono bs9.size))
            have kR2 := swap_blk (i := k) (j := m) (a := .slice Ab bl.length cb) (b := .int .i64 bm) (c := .slice Aa al.length ca) (d := .int .i64 am) kR.out hqR
            have kF2 := swap_blk (i := k) (j := m) (a := .slice Ab bl.length cb) (b := .int .i64 bm) (c := .slice Aa al.length ca) (d := .int .i64 am) kF.out hqF
            replace kR := Lib.hid (blk_below kR2 al9)
            replace kF := Lib.hid (blk_below kF2 al9)
            clear kR2 kF2 hz hbw al9 bs9
            go_wp2
            go_roundw
            case rel => exact ⟨m, _, by omega, rfl, hyes, hsw.out, hbs, kR, kF⟩
            case measure => simp [intOf]; have := lt1.out; omega
        · simp only [hl] at hcb
          have hkd : kidA (zs.map S.abs) k = m2 := by unfold kidA; rw [hm.out, show 2 * k + 2 = m2 by have := hm.out; have := hm2.out; omega, hlc.out, hl, hla.out]; simp; omega
          replace hkd := Lib.hid hkd
          clear hl
          go_wp2
          refine wp_region_below [(0, true), (1, true), (2, true), (3, true), (4, true), (5, true), (6, true), (7, true), (8, true), (9, true), (10, true), (11, true), (12, true), (13, true), (14, false), (15, false)] (by kernel_rfl) (by kernel_rfl) (fun d _ _ _ _ h => by cases d <;> exact h) ?_
          repeat
           (refine mix_still rfl (by rfl) ?_
            apply Exists.intro
            refine ⟨fun w' hS => ?_, ?_⟩
            · (have hS' := cells_of hS; clear hS; go_simp; (try go_bits); first | with_reducible rfl | (refine (if_pos ?_).trans ?_; omega; with_reducible rfl))
            (go_simp; (try go_bits)))
          refine mix_loud rfl (fun K hK => ?_)
          (go_simp; (try go_bits))
          refine (hcb.out _ (to_drew _ _)).mono ?_
          rintro _ w2 ⟨rfl, b2⟩
          replace b2 := of_drew b2
          refine hK _ _ (fun _ => b2) ?_
          clear hK K
          (go_simp; (try go_bits))
          refine mix_loud rfl (fun K hK => ?_)
          (go_simp; (try go_bits))
          refine hK _ _ (no_need (by kernel_rfl)) ?_
          clear hK K
          try (go_simp; (try go_bits))
          refine mix_nil ?_
          clear p0 p1 q0 q1
          replace hz := Lib.hid (hz.out.below b2)
          replace hbw := Lib.hid (hbw.out.trans (Below.mono b2 hbw.out.size))
          replace kR := Lib.hid (blk_below kR.out b2)
          replace kF := Lib.hid (blk_below kF.out b2)
          clear hr1 hrf lR lF
          obtain ⟨-, hr1, hrf⟩ := hz.out.hl.q
          have lR := blk_lt kR.out
          have lF := blk_lt kF.out
          have hwc := Lib.hid b2
          obtain ⟨u0, u1⟩ := hz.out.hl.cells hmc ec.out
          obtain ⟨z0, z1⟩ := hz.out.hl.cells hka ea.out
          have hca := Lib.hid (fun (W : World) (hW : Below w2.heap.size w2 W) => spec_less (Row.below (Row.below rc.out hwc.out) hW) (Row.below (Row.below ra.out hwc.out) hW) cm am)
          have hle := Lib.hid (less_at hmc hka ec.out ea.out)
          have hkid : Hid (kidA (zs.map S.abs) k = m2) := Lib.hid (hkd.out)
          have j1 : (m2 : Int) < (n : Int) := by have := lz.out; omega
          have j0 : (0 : Int) ≤ (m2 : Int) := by omega
          have j2 : (k : Int) < (n : Int) := by omega
          have j3 : (0 : Int) ≤ (k : Int) := by omega
          cases hl9 : lessState cl al cm am
          · simp only [hl9] at hca
            have hdone := Lib.hid (hdn.out.symm.trans (downA_no (by rw [hkid.out, hle.out]; exact hl9)))
            clear hl9
            go_wp2
            refine wp_region_below [(0, true), (1, true), (2, true), (3, true), (4, true), (5, true), (6, true), (7, true), (8, false), (9, false)] (by kernel_rfl) (by kernel_rfl) (fun d _ _ _ _ h => by cases d <;> exact h) ?_
            repeat
             (refine mix_still rfl (by rfl) ?_
              apply Exists.intro
              refine ⟨fun w' hS => ?_, ?_⟩
              · (have hS' := cells_of hS; clear hS; go_simp; (try go_bits); first | with_reducible rfl | (refine (if_pos ?_).trans ?_; omega; with_reducible rfl))
              (go_simp; (try go_bits)))
            refine mix_loud rfl (fun K hK => ?_)
            (go_simp; (try go_bits))
            refine (hca.out _ (to_drew _ _)).mono ?_
            rintro _ w9 ⟨rfl, b9⟩
            replace b9 := of_drew b9
            refine hK _ _ (fun _ => b9) ?_
            clear hK K
            (go_simp; (try go_bits))
            refine mix_loud rfl (fun K hK => ?_)
            (go_simp; (try go_bits))
            refine hK _ _ (no_need (by kernel_rfl)) ?_
            clear hK K
            try (go_simp; (try go_bits))
            refine mix_nil ?_
            clear u0 u1 z0 z1
            replace hz := Lib.hid (hz.out.below b9)
            replace hbw := Lib.hid (hbw.out.trans (Below.mono b9 hbw.out.size))
            replace kR := Lib.hid (blk_below kR.out b9)
            replace kF := Lib.hid (blk_below kF.out b9)
            clear hr1 hrf lR lF
            obtain ⟨-, hr1, hrf⟩ := hz.out.hl.q
            have lR := blk_lt kR.out
            have lF := blk_lt kF.out
            obtain ⟨x0, x1⟩ := blk2 kR.out
            obtain ⟨y0, y1⟩ := blk2 kF.out
            have fR := frz kR.out
            replace lR := blk_lt kR.out
            replace lF := blk_lt kF.out
            have hfin := Lib.hid (HX.res (hz.out.below (to_drew w9 _)) (show w9.drew.heap[w.heap.size]? = _ from kR.out) hqR (.slice Ax xl.length cx) (.int .i64 xs))
            have hfb := Lib.hid ((hbw.out.drew.setCell (p := ⟨w.heap.size, 0, none⟩) hB.out.size (.slice Ax xl.length cx)).setCell (p := ⟨w.heap.size, 1, none⟩) hB.out.size (.int .i64 xs))
            go_wp2
            refine wp_region_below [(0, true), (1, true), (2, true), (3, false)] (by kernel_rfl) (by kernel_rfl) (fun d _ _ _ _ h => by cases d <;> exact h) ?_
            repeat
             (refine mix_still rfl (by rfl) ?_
              apply Exists.intro
              refine ⟨fun w' hS => ?_, ?_⟩
              · (have hS' := cells_of hS; clear hS; go_simp; (try go_bits); first | with_reducible rfl | (refine (if_pos ?_).trans ?_; omega; with_reducible rfl))
              (go_simp; (try go_bits)))
            refine mix_loud rfl (fun K hK => ?_)
            (go_simp; (try go_bits))
            refine hK _ _ (no_need (by kernel_rfl)) ?_
            clear hK K
            try (go_simp; (try go_bits))
            refine mix_nil ?_
            go_wp2
            refine bodyPost_ret (v := .tuple #[.slice (some ⟨q, 0, none⟩) n cap, .agg #[.slice Ax xl.length cx, .int .i64 xs]]) (by simp [results, Try.results29, go_sem, x0, x1]) rfl ?_
            exact ⟨q, cap, zs, rfl, hdone.out.symm, hfin.out, hfb.out⟩
          · simp only [hl9] at hca
            have hyes := Lib.hid (show downA ((swp zs k m2).map S.abs) m2 = popA (ys.map S.abs) from by rw [← hdn.out, downA_yes (l := zs.map S.abs) (i := k) (by rw [hla.out]; exact h1) (by rw [hkid.out, hle.out]; exact hl9), hkid.out, swp_map])
            clear hl9
            go_wp2
            refine wp_region_below [(0, true), (1, true), (2, true), (3, true), (4, true), (5, true), (6, true), (7, true), (8, false), (9, false)] (by kernel_rfl) (by kernel_rfl) (fun d _ _ _ _ h => by cases d <;> exact h) ?_
            repeat
             (refine mix_still rfl (by rfl) ?_
              apply Exists.intro
              refine ⟨fun w' hS => ?_, ?_⟩
              · (have hS' := cells_of hS; clear hS; go_simp; (try go_bits); first | with_reducible rfl | (refine (if_pos ?_).trans ?_; omega; with_reducible rfl))
              (go_simp; (try go_bits)))
            refine mix_loud rfl (fun K hK => ?_)
            (go_simp; (try go_bits))
            refine (hca.out _ (to_drew _ _)).mono ?_
            rintro _ w9 ⟨rfl, b9⟩
            replace b9 := of_drew b9
            refine hK _ _ (fun _ => b9) ?_
            clear hK K
            (go_simp; (try go_bits))
            refine mix_loud rfl (fun K hK => ?_)
            (go_simp; (try go_bits))
            refine hK _ _ (no_need (by kernel_rfl)) ?_
            clear hK K
            try (go_simp; (try go_bits))
            refine mix_nil ?_
            clear u0 u1 z0 z1
            replace hz := Lib.hid (hz.out.below b9)
            replace hbw := Lib.hid (hbw.out.trans (Below.mono b9 hbw.out.size))
            replace kR := Lib.hid (blk_below kR.out b9)
            replace kF := Lib.hid (blk_below kF.out b9)
            clear hr1 hrf lR lF
            obtain ⟨-, hr1, hrf⟩ := hz.out.hl.q
            have lR := blk_lt kR.out
            have lF := blk_lt kF.out
            obtain ⟨u0, u1⟩ := hz.out.hl.cells hmc ec.out
            obtain ⟨z0, z1⟩ := hz.out.hl.cells hka ea.out
            have lt1 : Hid (k < m2) := Lib.hid (by have := kidA_bd (l := zs.map S.abs) (i := k) (by rw [hla.out]; exact h1); rw [hkid.out] at this; exact this.1)
            have hn1 : q ≠ w9.heap.size := by omega
            have hn2 : w9.heap.size ≠ q := by omega
            have al9 := (Below.refl ((((w9.setCell ⟨q, k * 2, none⟩ (.slice Ac cl.length cc)).setCell ⟨q, k * 2 + 1, none⟩ (.int .i64 cm)).setCell ⟨q, m2 * 2, none⟩ (.slice Aa al.length ca)).setCell ⟨q, m2 * 2 + 1, none⟩ (.int .i64 am)).heap.size ((((w9.setCell ⟨q, k * 2, none⟩ (.slice Ac cl.length cc)).setCell ⟨q, k * 2 + 1, none⟩ (.int .i64 cm)).setCell ⟨q, m2 * 2, none⟩ (.slice Aa al.length ca)).setCell ⟨q, m2 * 2 + 1, none⟩ (.int .i64 am))).alloc (Nat.le_refl _) (.cells #[.slice Aa al.length ca, .int .i64 am] 31)
            have hsw := Lib.hid ((hz.out.swap hka hmc ea.out ec.out).below al9)
            have bs9 := below_swap hbw.out hq0 k m2 (.slice Ac cl.length cc) (.int .i64 cm) (.slice Aa al.length ca) (.int .i64 am)
            have hbs := Lib.hid (bs9.trans (al9.mono bs9.size))
            have kR2 := swap_blk (i := k) (j := m2) (a := .slice Ac cl.length cc) (b := .int .i64 cm) (c := .slice Aa al.length ca) (d := .int .i64 am) kR.out hqR
            have kF2 := swap_blk (i := k) (j := m2) (a := .slice Ac cl.length cc) (b := .int .i64 cm) (c := .slice Aa al.length ca) (d := .int .i64 am) kF.out hqF
            replace kR := Lib.hid (blk_below kR2 al9)
            replace kF := Lib.hid (blk_below kF2 al9)
            clear kR2 kF2 hz hbw al9 bs9
            go_wp2
            go_roundw
            case rel => exact ⟨m2, _, by omega, rfl, hyes, hsw.out, hbs, kR, kF⟩
            case measure => simp [intOf]; have := lt1.out; omega
      · have d2 : decide ((m2 : Int) < (n : Int)) = false := decide_eq_false (by omega)
        replace ea := Lib.hid ea
        replace eb := Lib.hid eb
        replace ra := Lib.hid ra
        replace rb := Lib.hid rb
        replace hz := Lib.hid hz
        have hkd : kidA (zs.map S.abs) k = m := by unfold kidA; rw [hm.out, if_neg (fun h9 => by have h9 := h9.1; rw [hla.out] at h9; have := hm.out; have := hm2.out; omega)]
        replace hkd := Lib.hid hkd
        go_wp2
        refine wp_region_below [(0, true), (1, true), (2, true), (3, true), (4, true), (5, true), (6, true), (7, true), (8, true), (9, true), (10, true), (11, true), (12, true), (13, true), (14, false), (15, false)] (by kernel_rfl) (by kernel_rfl) (fun d _ _ _ _ h => by cases d <;> exact h) ?_
        repeat (first
          | (refine mix_still rfl (by rfl) ?_
             apply Exists.intro
             refine ⟨fun w' hS => ?_, ?_⟩
             · (have hS' := cells_of hS; clear hS; go_simp; (try go_bits); first | with_reducible rfl | (refine (if_pos ?_).trans ?_; omega; with_reducible rfl))
             (go_simp; (try go_bits)))
          | (refine mix_skip rfl (by rfl) ?_; go_simp))
        refine mix_loud rfl (fun K hK => ?_)
        (go_simp; (try go_bits))
        refine hK _ _ (fun _ => to_drew _ _) ?_
        clear hK K
        try (go_simp; (try go_bits))
        refine mix_loud rfl (fun K hK => ?_)
        (go_simp; (try go_bits))
        refine hK _ _ (no_need (by kernel_rfl)) ?_
        clear hK K
        try (go_simp; (try go_bits))
        refine mix_nil ?_
        have b2 := to_drew wr wr.heap.size
        have lw2 : wr.drew.heap.size = wr.heap.size := rfl
        obtain ⟨w2, hw2⟩ : ∃ w2, wr.drew = w2 := ⟨_, rfl⟩
        rw [hw2] at b2 ⊢
        clear hw2 lw2
        replace hz := Lib.hid (hz.out.below b2)
        replace hbw := Lib.hid (hbw.out.trans (Below.mono b2 hbw.out.size))
        replace kR := Lib.hid (blk_below kR.out b2)
        replace kF := Lib.hid (blk_below kF.out b2)
        clear hr1 hrf lR lF
        obtain ⟨-, hr1, hrf⟩ := hz.out.hl.q
        have lR := blk_lt kR.out
        have lF := blk_lt kF.out
        have hwc := Lib.hid b2
        clear b2
        obtain ⟨u0, u1⟩ := hz.out.hl.cells hmb eb.out
        obtain ⟨z0, z1⟩ := hz.out.hl.cells hka ea.out
        have hca := Lib.hid (fun (W : World) (hW : Below w2.heap.size w2 W) => spec_less (Row.below (Row.below rb.out hwc.out) hW) (Row.below (Row.below ra.out hwc.out) hW) bm am)
        have hle := Lib.hid (less_at hmb hka eb.out ea.out)
        have hkid : Hid (kidA (zs.map S.abs) k = m) := Lib.hid (hkd.out)
        have j1 : (m : Int) < (n : Int) := by have := lz.out; omega
        have j0 : (0 : Int) ≤ (m : Int) := by omega
        have j2 : (k : Int) < (n : Int) := by omega
        have j3 : (0 : Int) ≤ (k : Int) := by omega
        cases hl9 : lessState bl al bm am
        · simp only [hl9] at hca
          have hdone := Lib.hid (hdn.out.symm.trans (downA_no (by rw [hkid.out, hle.out]; exact hl9)))
          clear hl9
          go_wp2
          refine wp_region_below [(0, true), (1, true), (2, true), (3, true), (4, true), (5, true), (6, true), (7, true), (8, false), (9, false)] (by kernel_rfl) (by kernel_rfl) (fun d _ _ _ _ h => by cases d <;> exact h) ?_
          repeat
           (refine mix_still rfl (by rfl) ?_
            apply Exists.intro
            refine ⟨fun w' hS => ?_, ?_⟩
            · (have hS' := cells_of hS; clear hS; go_simp; (try go_bits); first | with_reducible rfl | (refine (if_pos ?_).trans ?_; omega; with_reducible rfl))
            (go_simp; (try go_bits)))
          refine mix_loud rfl (fun K hK => ?_)
          (go_simp; (try go_bits))
          refine (hca.out _ (to_drew _ _)).mono ?_
          rintro _ w9 ⟨rfl, b9⟩
          replace b9 := of_drew b9
          refine hK _ _ (fun _ => b9) ?_
          clear hK K
          (go_simp; (try go_bits))
          refine mix_loud rfl (fun K hK => ?_)
          (go_simp; (try go_bits))
          refine hK _ _ (no_need (by kernel_rfl)) ?_
          clear hK K
          try (go_simp; (try go_bits))
          refine mix_nil ?_
          clear u0 u1 z0 z1
          replace hz := Lib.hid (hz.out.below b9)
          replace hbw := Lib.hid (hbw.out.trans (Below.mono b9 hbw.out.size))
          replace kR := Lib.hid (blk_below kR.out b9)
          replace kF := Lib.hid (blk_below kF.out b9)
          clear hr1 hrf lR lF
          obtain ⟨-, hr1, hrf⟩ := hz.out.hl.q
          have lR := blk_lt kR.out
          have lF := blk_lt kF.out
          obtain ⟨x0, x1⟩ := blk2 kR.out
          obtain ⟨y0, y1⟩ := blk2 kF.out
          have fR := frz kR.out
          replace lR := blk_lt kR.out
          replace lF := blk_lt kF.out
          have hfin := Lib.hid (HX.res (hz.out.below (to_drew w9 _)) (show w9.drew.heap[w.heap.size]? = _ from kR.out) hqR (.slice Ax xl.length cx) (.int .i64 xs))
          have hfb := Lib.hid ((hbw.out.drew.setCell (p := ⟨w.heap.size, 0, none⟩) hB.out.size (.slice Ax xl.length cx)).setCell (p := ⟨w.heap.size, 1, none⟩) hB.out.size (.int .i64 xs))
          go_wp2
          refine wp_region_below [(0, true), (1, true), (2, true), (3, false)] (by kernel_rfl) (by kernel_rfl) (fun d _ _ _ _ h => by cases d <;> exact h) ?_
          repeat
           (refine mix_still rfl (by rfl) ?_
            apply Exists.intro
            refine ⟨fun w' hS => ?_, ?_⟩
            · (have hS' := cells_of hS; clear hS; go_simp; (try go_bits); first | with_reducible rfl | (refine (if_pos ?_).trans ?_; omega; with_reducible rfl))
            (go_simp; (try go_bits)))
          refine mix_loud rfl (fun K hK => ?_)
          (go_simp; (try go_bits))
          refine hK _ _ (no_need (by kernel_rfl)) ?_
          clear hK K
          try (go_simp; (try go_bits))
          refine mix_nil ?_
          go_wp2
          refine bodyPost_ret (v := .tuple #[.slice (some ⟨q, 0, none⟩) n cap, .agg #[.slice Ax xl.length cx, .int .i64 xs]]) (by simp [results, Try.results29, go_sem, x0, x1]) rfl ?_
          exact ⟨q, cap, zs, rfl, hdone.out.symm, hfin.out, hfb.out⟩
        · simp only [hl9] at hca
          have hyes := Lib.hid (show downA ((swp zs k m).map S.abs) m = popA (ys.map S.abs) from by rw [← hdn.out, downA_yes (l := zs.map S.abs) (i := k) (by rw [hla.out]; exact h1) (by rw [hkid.out, hle.out]; exact hl9), hkid.out, swp_map])
          clear hl9
          go_wp2
          refine wp_region_below [(0, true), (1, true), (2, true), (3, true), (4, true), (5, true), (6, true), (7, true), (8, false), (9, false)] (by kernel_rfl) (by kernel_rfl) (fun d _ _ _ _ h => by cases d <;> exact h) ?_
          repeat
           (refine mix_still rfl (by rfl) ?_
            apply Exists.intro
            refine ⟨fun w' hS => ?_, ?_⟩
            · (have hS' := cells_of hS; clear hS; go_simp; (try go_bits); first | with_reducible rfl | (refine (if_pos ?_).trans ?_; omega; with_reducible rfl))
            (go_simp; (try go_bits)))
          refine mix_loud rfl (fun K hK => ?_)
          (go_simp; (try go_bits))
          refine (hca.out _ (to_drew _ _)).mono ?_
          rintro _ w9 ⟨rfl, b9⟩
          replace b9 := of_drew b9
          refine hK _ _ (fun _ => b9) ?_
          clear hK K
          (go_simp; (try go_bits))
          refine mix_loud rfl (fun K hK => ?_)
          (go_simp; (try go_bits))
          refine hK _ _ (no_need (by kernel_rfl)) ?_
          clear hK K
          try (go_simp; (try go_bits))
          refine mix_nil ?_
          clear u0 u1 z0 z1
          replace hz := Lib.hid (hz.out.below b9)
          replace hbw := Lib.hid (hbw.out.trans (Below.mono b9 hbw.out.size))
          replace kR := Lib.hid (blk_below kR.out b9)
          replace kF := Lib.hid (blk_below kF.out b9)
          clear hr1 hrf lR lF
          obtain ⟨-, hr1, hrf⟩ := hz.out.hl.q
          have lR := blk_lt kR.out
          have lF := blk_lt kF.out
          obtain ⟨u0, u1⟩ := hz.out.hl.cells hmb eb.out
          obtain ⟨z0, z1⟩ := hz.out.hl.cells hka ea.out
          have lt1 : Hid (k < m) := Lib.hid (by have := kidA_bd (l := zs.map S.abs) (i := k) (by rw [hla.out]; exact h1); rw [hkid.out] at this; exact this.1)
          have hn1 : q ≠ w9.heap.size := by omega
          have hn2 : w9.heap.size ≠ q := by omega
          have al9 := (Below.refl ((((w9.setCell ⟨q, k * 2, none⟩ (.slice Ab bl.length cb)).setCell ⟨q, k * 2 + 1, none⟩ (.int .i64 bm)).setCell ⟨q, m * 2, none⟩ (.slice Aa al.length ca)).setCell ⟨q, m * 2 + 1, none⟩ (.int .i64 am)).heap.size ((((w9.setCell ⟨q, k * 2, none⟩ (.slice Ab bl.length cb)).setCell ⟨q, k * 2 + 1, none⟩ (.int .i64 bm)).setCell ⟨q, m * 2, none⟩ (.slice Aa al.length ca)).setCell ⟨q, m * 2 + 1, none⟩ (.int .i64 am))).alloc (Nat.le_refl _) (.cells #[.slice Aa al.length ca, .int .i64 am] 31)
          have hsw := Lib.hid ((hz.out.swap hka hmb ea.out eb.out).below al9)
          have bs9 := below_swap hbw.out hq0 k m (.slice Ab bl.length cb) (.int .i64 bm) (.slice Aa al.length ca) (.int .i64 am)
          have hbs := Lib.hid (bs9.trans (al9.mono bs9.size))
          have kR2 := swap_blk (i := k) (j := m) (a := .slice Ab bl.length cb) (b := .int .i64 bm) (c := .slice Aa al.length ca) (d := .int .i64 am) kR.out hqR
          have kF2 := swap_blk (i := k) (j := m) (a := .slice Ab bl.length cb) (b := .int .i64 bm) (c := .slice Aa al.length ca) (d := .int .i64 am) kF.out hqF
          replace kR := Lib.hid (blk_below kR2 al9)
          replace kF := Lib.hid (blk_below kF2 al9)
          clear kR2 kF2 hz hbw al9 bs9
          go_wp2
          go_roundw
          case rel => exact ⟨m, _, by omega, rfl, hyes, hsw.out, hbs, kR, kF⟩
          case measure => simp [intOf]; have := lt1.out; omega
    · have d1 : decide (2 * (k : Int) + 1 < (n : Int)) = false := decide_eq_false (by omega)
      have hdone := Lib.hid (hdn.out.symm.trans (downA_end (by rw [hla.out]; exact h1)))
      replace hz := Lib.hid hz
      obtain ⟨x0, x1⟩ := blk2 kR.out
      obtain ⟨y0, y1⟩ := blk2 kF.out
      have fR := frz kR.out
      replace lR := blk_lt kR.out
      replace lF := blk_lt kF.out
      have hfin := Lib.hid (HX.res (hz.out.below (to_drew wr _)) (show wr.drew.heap[w.heap.size]? = _ from kR.out) hqR (.slice Ax xl.length cx) (.int .i64 xs))
      have hfb := Lib.hid ((hbw.out.drew.setCell (p := ⟨w.heap.size, 0, none⟩) hB.out.size (.slice Ax xl.length cx)).setCell (p := ⟨w.heap.size, 1, none⟩) hB.out.size (.int .i64 xs))
      go_wp2
      refine wp_region_below [(0, true), (1, true), (2, true), (3, false)] (by kernel_rfl) (by kernel_rfl) (fun d _ _ _ _ h => by cases d <;> exact h) ?_
      repeat
       (refine mix_still rfl (by rfl) ?_
        apply Exists.intro
        refine ⟨fun w' hS => ?_, ?_⟩
        · (have hS' := cells_of hS; clear hS; go_simp; (try go_bits); first | with_reducible rfl | (refine (if_pos ?_).trans ?_; omega; with_reducible rfl))
        (go_simp; (try go_bits)))
      refine mix_loud rfl (fun K hK => ?_)
      (go_simp; (try go_bits))
      refine hK _ _ (no_need (by kernel_rfl)) ?_
      clear hK K
      try (go_simp; (try go_bits))
      refine mix_nil ?_
      go_wp2
      refine bodyPost_ret (v := .tuple #[.slice (some ⟨q, 0, none⟩) n cap, .agg #[.slice Ax xl.length cx, .int .i64 xs]]) (by simp [results, Try.results29, go_sem, x0, x1]) rfl ?_
      exact ⟨q, cap, zs, rfl, hdone.out.symm, hfin.out, hfb.out⟩
end Go.Proofs.Ytocplbhgklfgeaa.States
