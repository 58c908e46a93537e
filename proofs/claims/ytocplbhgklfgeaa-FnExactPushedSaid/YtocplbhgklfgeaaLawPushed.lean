/-
  FnExactPushed: impl.Pushed and spec.Pushed answer the same for every list and state.
  Conditions: none beyond the statement's own.
-/
import Derived.Test.YtocplbhgklfgeaaRows
import Derived.Test.YtocplbhgklfgeaaHeaps10
import Derived.Test.YtocplbhgklfgeaaStatesArgs
import Derived.Test.YtocplbhgklfgeaaPost
import Derived.WalkKit
import Derived.ProofKit
import Derived.OpenShut
import Derived.Lib.SmallJoins
namespace Go.Proofs.Ytocplbhgklfgeaa.lawPushed
open Go.ChangeShapes Go.WideShapes Go.ChangeAt Go.RowKit Go.Joins Go.Proofs.Ytocplbhgklfgeaa.Mix Go.Proofs.Ytocplbhgklfgeaa.Row Go.Proofs.Ytocplbhgklfgeaa.Mem Go.Proofs.Ytocplbhgklfgeaa.Ints Go.Proofs.Ytocplbhgklfgeaa.State Go.Proofs.Ytocplbhgklfgeaa.States Go.Proofs.Ytocplbhgklfgeaa.Owns Go.Proofs.Ytocplbhgklfgeaa.Sift
open Go.Proofs.Ytocplbhgklfgeaa.Blocks (blk_below blk_lt blk2 frz)
set_option linter.unusedVariables false

set_option maxRecDepth 100000 in
set_option maxHeartbeats 12800000 in
theorem walkN {v0 : Value} {xs : List S} {x : S} {w : World} (h0 : SRow w v0 xs) (hx : VRow w x) :
    Calls Try.prog 3 #[v0, x.val] w fun e w' => e = .returned (.bool true) ∧ Below w.heap.size w w' := by
  obtain ⟨A0, c0, e0, -⟩ := id h0.1
  obtain ⟨Ax, cx, hxv⟩ := lit hx
  rcases x with ⟨xv, xl, xm⟩
  obtain rfl : xv = .slice Ax xl.length cx := hxv
  have hx1 : Row w (.slice Ax xl.length cx) 1 xl.length (ints xl) := hx
  clear hx
  have al := (Below.refl w.heap.size w).alloc (Nat.le_refl _) (.cells #[.slice Ax xl.length cx, .int .i64 xm] 25)
  have k := heap_alloc_new w (.cells #[.slice Ax xl.length cx, .int .i64 xm] 25)
  obtain ⟨W, hW⟩ : ∃ W, w.alloc (.cells #[.slice Ax xl.length cx, .int .i64 xm] 25) = W := ⟨_, rfl⟩
  rw [hW] at al k
  have lk := Lib.hid (blk_lt k)
  replace k := Lib.hid k
  have B := Lib.hid al
  have z0 := Lib.hid (sz_any (h0.below al) 1048576 (by omega) (by omega))
  replace hW := Lib.hid hW
  clear al
  subst e0
  replace h0 := Lib.hid h0
  replace hx1 := Lib.hid hx1
  rcases sz_cases xs 1048576 (by omega) with ⟨r, hr, r0, r1, hlx, htx⟩ | hr
  rotate_left
  · rw [hr] at z0
    clear hr
    go_enter Try.func3, Try.ntmps3
    go_wp2_with fail
    rw [hW.out]
    refine z0.out.mono ?_
    rintro e w1 ⟨rfl, b1⟩
    have hB := Lib.hid (B.out.trans (b1.mono B.out.size))
    clear b1
    go_wp2
    go_ret
    exact ⟨rfl, hB.out⟩
  rw [hr] at z0
  have d0 : decide (r < 0) = false := decide_eq_false (by omega)
  have hv8 : Hid (∀ x ∈ xs, x.vals.length * 8 ≤ 140737488355328) := Lib.hid (fun x hx => by have := tot_mem hx; omega)
  have hn20 : xs.length ≤ 1048576 := by omega
  have htot : Hid (tot xs ≤ 1048576) := Lib.hid (by omega)
  replace hlx : xs.length * 32 ≤ 140737488355328 := by omega
  clear hr htx
  have z1 := Lib.hid (fun (V : World) (hV : Row V (.slice Ax xl.length cx) 1 xl.length (ints xl)) => szState_any hV xm r r0 (by omega))
  rcases State.szi_cases xl.length r r0 with ⟨u, hu, u0, u1, hly⟩ | hu
  rotate_left
  · simp only [hu] at z1
    clear hu
    go_enter Try.func3, Try.ntmps3
    go_wp2_with fail
    rw [hW.out]
    refine z0.out.mono ?_
    rintro e w1 ⟨rfl, b1⟩
    have kk := blk_below k.out b1
    obtain ⟨k0, k1⟩ := blk2 kk
    replace kk := Lib.hid kk
    have hB := Lib.hid (B.out.trans (b1.mono B.out.size))
    clear b1
    go_wp2_with fail
    refine (z1.out _ (hx1.out.below hB.out)).mono ?_
    rintro e w2 ⟨rfl, b2⟩
    have hB2 := Lib.hid (hB.out.trans (b2.mono hB.out.size))
    clear b2 k0 k1 kk
    go_wp2
    go_ret
    exact ⟨rfl, hB2.out⟩
  simp only [hu] at z1
  have d1 : decide (u < 0) = false := decide_eq_false (by omega)
  have hbx : xl.length * 8 ≤ 140737488355328 := by omega
  have hx20 : Hid (xl.length ≤ 1048576) := Lib.hid (by omega)
  clear hu
  go_enter Try.func3, Try.ntmps3
  go_wp2_with fail
  rw [hW.out]
  clear hW
  refine z0.out.mono ?_
  rintro e w1 ⟨rfl, bw⟩
  clear z0
  replace B := Lib.hid (Below.trans B.out (Below.mono bw (Below.size B.out)))
  replace k := Lib.hid (blk_below k.out bw)
  clear bw
  obtain ⟨k_0, k_1⟩ := blk2 k.out
  have l_k := blk_lt k.out
  have hc := Lib.hid (z1.out _ (hx1.out.below B.out))
  go_wp2_with fail
  refine hc.out.mono ?_
  rintro e w2 ⟨rfl, bw⟩
  clear k_0 k_1 l_k
  clear hc
  replace B := Lib.hid (Below.trans B.out (Below.mono bw (Below.size B.out)))
  replace k := Lib.hid (blk_below k.out bw)
  clear bw
  clear z1
  have s2 := Lib.hid (blk_lt k.out)
  go_upto_region 8 with fail
  obtain ⟨k_0, k_1⟩ := blk2 k.out
  have l_k := blk_lt k.out
  refine wp_region_below [(0, true), (2, true), (1, false), (3, false), (4, false), (5, false)] (by kernel_rfl) (by kernel_rfl) (fun d _ _ _ _ h => by cases d <;> exact h) ?_
  have b0 := to_drew w2 w2.heap.size
  repeat
   (refine mix_still rfl (by rfl) ?_
    apply Exists.intro
    refine ⟨fun w' hS => ?_, ?_⟩
    · (have hS' := cells_of hS; clear hS; go_simp; (try go_bits); first | with_reducible rfl | (refine (if_pos ?_).trans ?_; omega; with_reducible rfl))
    (go_simp; (try go_bits)))
  have hc := to_any (SRow.below (h0.out.below B.out) b0) hlx hv8.out
  refine mix_loud rfl (fun K hK => ?_)
  (go_simp; (try go_bits))
  refine hc.mono ?_
  clear hc
  rintro _ w3 ⟨ts, rfl, hts, o3, p3, r1⟩
  have b1 := b0.trans (r1.mono b0.size)
  refine hK _ _ (fun _ => b1) ?_
  clear hK K
  (go_simp; (try go_bits))
  have lts := abs_len hts
  have H3 := hl_of o3 lts p3
  repeat
   (refine mix_still rfl (by rfl) ?_
    apply Exists.intro
    refine ⟨fun w' hS => ?_, ?_⟩
    · (have hS' := cells_of hS; clear hS; go_simp; (try go_bits); first | with_reducible rfl | (refine (if_pos ?_).trans ?_; omega; with_reducible rfl))
    (go_simp; (try go_bits)))
  have hc := toState_any (Row.below (hx1.out.below B.out) b1) xm hbx
  refine mix_loud rfl (fun K hK => ?_)
  (go_simp; (try go_bits))
  refine hc.mono ?_
  clear hc
  rintro _ w4 ⟨g4, rfl, hg4, o4, r2⟩
  have b2 := b1.trans (r2.mono b1.size)
  refine hK _ _ (fun _ => b2) ?_
  clear hK K
  (go_simp; (try go_bits))
  have r4 := row_of_owns (own_owns o4)
  repeat
   (refine mix_still rfl (by rfl) ?_
    apply Exists.intro
    refine ⟨fun w' hS => ?_, ?_⟩
    · (have hS' := cells_of hS; clear hS; go_simp; (try go_bits); first | with_reducible rfl | (refine (if_pos ?_).trans ?_; omega; with_reducible rfl))
    (go_simp; (try go_bits)))
  have hc := spec_Pushed (x := ⟨.slice (some ⟨g4, 0, none⟩) xl.length xl.length, xl, xm⟩) (H3.below r2).srow r4 (by rw [lts]; exact hn20) (fun y hy => by have h1 := tot_mem hy; rw [tot_abs, hts, ← tot_abs] at h1; have := htot.out; omega) hbx
  refine mix_loud rfl (fun K hK => ?_)
  (go_simp; (try go_bits))
  refine hc.mono ?_
  clear hc
  rintro _ w5 ⟨v5, zs, rfl, hzs, Z, r3⟩
  have b3 := b2.trans (r3.mono b2.size)
  refine hK _ _ (fun _ => b3) ?_
  clear hK K
  (go_simp; (try go_bits))
  refine mix_loud rfl (fun K hK => ?_)
  (go_simp; (try go_bits))
  refine hK _ _ (no_need (by kernel_rfl)) ?_
  clear hK K
  try (go_simp; (try go_bits))
  refine mix_nil ?_
  clear k_0 k_1 l_k
  have bW := b3
  rw [hts] at hzs
  rw [lts] at Z
  have s5 := Lib.hid (bW.size)
  clear b0 b1 b2 b3 r1 r2 r3 r4 o3 p3 o4 hg4 lts hts H3
  replace B := Lib.hid (Below.trans B.out (Below.mono bW (Below.size B.out)))
  replace k := Lib.hid (blk_below k.out bW)
  clear bW
  replace hzs := Lib.hid hzs
  have zlt := Lib.hid Z.lts
  obtain ⟨Az, cz, rfl, -⟩ := row_of_owns Z.row
  replace Z := Lib.hid Z
  have hc := Lib.hid (to_any (h0.out.below B.out) hlx hv8.out)
  go_wp2_with fail
  refine hc.out.mono ?_
  rintro e w6 ⟨ys, rfl, hys, o, p, bw⟩
  clear hc
  replace B := Lib.hid (Below.trans B.out (Below.mono bw (Below.size B.out)))
  replace k := Lib.hid (blk_below k.out bw)
  replace Z := Lib.hid (HL.below Z.out bw)
  clear bw
  have lys : ys.length = xs.length := abs_len hys
  have Hys := Lib.hid (hl_of o lys p)
  have hyl0 := Lib.hid Hys.out.lts
  replace hys := Lib.hid hys
  replace lys := Lib.hid lys
  clear o p
  have s6 := Lib.hid (Nat.le_of_lt (show w5.heap.size < w6.heap.size from (by have := (Hys.out.row.lt _ rfl).2; exact this)))
  obtain ⟨k_0, k_1⟩ := blk2 k.out
  have l_k := blk_lt k.out
  have hc := Lib.hid (toState_any (hx1.out.below B.out) xm hbx)
  go_wp2_with fail
  refine hc.out.mono ?_
  rintro e w7 ⟨g7, rfl, hg7, o7, bw⟩
  clear k_0 k_1 l_k
  clear hc
  have s7 := Lib.hid bw.size
  replace B := Lib.hid (Below.trans B.out (Below.mono bw (Below.size B.out)))
  replace k := Lib.hid (blk_below k.out bw)
  replace Z := Lib.hid (HL.below Z.out bw)
  replace Hys := Lib.hid (HL.below Hys.out bw)
  clear bw
  have G7 : Hid (w6.heap.size ≤ g7) := Lib.hid hg7
  have g7lt : Hid (g7 < w7.heap.size) := Lib.hid (by have := ((own_owns o7).lt _ rfl).2; exact this)
  have X1 : Hid (w7.ownsRow w6.heap.size 3 1 (.slice (some ⟨g7, 0, none⟩) xl.length xl.length) xl.length (ints xl)) := Lib.hid (own_mono (own_owns o7) hg7)
  clear o7 hg7
  have al := (Below.refl w7.heap.size w7).alloc (Nat.le_refl _) (.cells #[.slice (some ⟨g7, 0, none⟩) xl.length xl.length, .int .i64 xm] 31)
  have q8 := heap_alloc_new w7 (.cells #[.slice (some ⟨g7, 0, none⟩) xl.length xl.length, .int .i64 xm] 31)
  obtain ⟨W8, hW8⟩ : ∃ W, w7.alloc (.cells #[.slice (some ⟨g7, 0, none⟩) xl.length xl.length, .int .i64 xm] 31) = W := ⟨_, rfl⟩
  rw [hW8] at al q8
  have sW8 := Lib.hid al.size
  replace hW8 := Lib.hid hW8
  replace q8 := Lib.hid q8
  replace B := Lib.hid (Below.trans B.out (Below.mono al (Below.size B.out)))
  replace k := Lib.hid (blk_below k.out al)
  replace Z := Lib.hid (HL.below Z.out al)
  replace Hys := Lib.hid (HL.below Hys.out al)
  replace X1 := Lib.hid (own_below X1.out al)
  clear al
  have q8l : Hid (w7.heap.size < W8.heap.size) := Lib.hid (blk_lt q8.out)
  go_upto_region 11 with fail
  rw [hW8.out]
  clear hW8
  obtain ⟨q8_0, q8_1⟩ := blk2 q8.out
  have l_q8 := blk_lt q8.out
  have hc := Lib.hid (impl_Pushed (x := ⟨.slice (some ⟨g7, 0, none⟩) xl.length xl.length, xl, xm⟩) Hys.out.srow (row_of_owns X1.out) (by rw [lys.out]; exact hn20) (fun y hy => by have h1 := tot_mem hy; rw [tot_abs, hys.out, ← tot_abs] at h1; have := htot.out; omega) hbx)
  go_wp2_with fail
  refine hc.out.mono ?_
  rintro e w9 ⟨v9, gs, rfl, hgs, G, bw⟩
  clear q8_0 q8_1 l_q8
  clear hc
  have s9 := Lib.hid bw.size
  replace B := Lib.hid (Below.trans B.out (Below.mono bw (Below.size B.out)))
  replace k := Lib.hid (blk_below k.out bw)
  replace Z := Lib.hid (HL.below Z.out bw)
  replace Hys := Lib.hid (HL.below Hys.out bw)
  replace X1 := Lib.hid (own_below X1.out bw)
  replace q8 := Lib.hid (blk_below q8.out bw)
  clear bw
  rw [hys.out] at hgs
  rw [lys.out] at G
  have hgz := Lib.hid (hgs.trans hzs.out.symm)
  have hgt : Hid (1 + tot gs + gs.length ≤ 1099511627776) := Lib.hid (by have h1 := pushA_tot (xs.map S.abs) (S.abs ⟨.slice (some ⟨g7, 0, none⟩) xl.length xl.length, xl, xm⟩); rw [tot_abs, hgs, h1.1, ← tot_abs, G.len]; have := htot.out; have := hx20.out; show 1 + (tot xs + xl.length) + _ ≤ _; omega)
  have hyt2 : Hid (1 + tot ys + ys.length ≤ 3000000) := Lib.hid (by rw [tot_abs, hys.out, ← tot_abs, lys.out]; have := htot.out; omega)
  have hyt : Hid (1 + tot ys + ys.length ≤ 1099511627776) := Lib.hid (by rw [tot_abs, hys.out, ← tot_abs, lys.out]; have := htot.out; omega)
  have glt := Lib.hid G.lts
  have glen := Lib.hid G.len
  obtain ⟨Ag, cg, rfl, -⟩ := row_of_owns G.row
  replace G := Lib.hid G
  clear hgs
  have hc := Lib.hid (eq_self G.out.srow Z.out.srow hgz.out)
  go_wp2_with fail
  refine hc.out.mono ?_
  rintro e w10 ⟨rfl, bw⟩
  clear hc
  replace B := Lib.hid (Below.trans B.out (Below.mono bw (Below.size B.out)))
  replace k := Lib.hid (blk_below k.out bw)
  replace Z := Lib.hid (HL.below Z.out bw)
  replace Hys := Lib.hid (HL.below Hys.out bw)
  replace X1 := Lib.hid (own_below X1.out bw)
  replace q8 := Lib.hid (blk_below q8.out bw)
  replace G := Lib.hid (HL.below G.out bw)
  clear bw
  have hc := Lib.hid (to_any (h0.out.below B.out) hlx hv8.out)
  go_wp2_with fail
  refine hc.out.mono ?_
  rintro e w11 ⟨us, rfl, hus, o, p, bw⟩
  clear hc
  replace B := Lib.hid (Below.trans B.out (Below.mono bw (Below.size B.out)))
  replace k := Lib.hid (blk_below k.out bw)
  replace Z := Lib.hid (HL.below Z.out bw)
  replace Hys := Lib.hid (HL.below Hys.out bw)
  replace X1 := Lib.hid (own_below X1.out bw)
  replace q8 := Lib.hid (blk_below q8.out bw)
  replace G := Lib.hid (HL.below G.out bw)
  clear bw
  have lus : us.length = xs.length := abs_len hus
  have U := Lib.hid (srow_of o lus p.rows)
  have hyu := Lib.hid (hys.out.trans hus.symm)
  replace lus := Lib.hid lus
  clear o p hus
  have hc := Lib.hid (eq_self Hys.out.srow U.out hyu.out)
  go_wp2_with fail
  refine hc.out.mono ?_
  rintro e w12 ⟨rfl, bw⟩
  clear hc
  replace B := Lib.hid (Below.trans B.out (Below.mono bw (Below.size B.out)))
  replace k := Lib.hid (blk_below k.out bw)
  replace Z := Lib.hid (HL.below Z.out bw)
  replace Hys := Lib.hid (HL.below Hys.out bw)
  replace X1 := Lib.hid (own_below X1.out bw)
  replace q8 := Lib.hid (blk_below q8.out bw)
  replace G := Lib.hid (HL.below G.out bw)
  replace U := Lib.hid (SRow.below U.out bw)
  clear bw
  clear U hyu lus
  go_upto_region 16 with fail
  obtain ⟨q8_0, q8_1⟩ := blk2 q8.out
  have l_q8 := blk_lt q8.out
  obtain ⟨k_0, k_1⟩ := blk2 k.out
  have l_k := blk_lt k.out
  refine wp_region_below [(0, true), (1, true), (2, false), (3, false), (4, false)] (by kernel_rfl) (by kernel_rfl) (fun d _ _ _ _ h => by cases d <;> exact h) ?_
  have b0 := to_drew w12 w12.heap.size
  repeat
   (refine mix_still rfl (by rfl) ?_
    apply Exists.intro
    refine ⟨fun w' hS => ?_, ?_⟩
    · (have hS' := cells_of hS; clear hS; go_simp; (try go_bits); first | with_reducible rfl | (refine (if_pos ?_).trans ?_; omega; with_reducible rfl))
    (go_simp; (try go_bits)))
  have hc := toState_any (Row.below (hx1.out.below B.out) b0) xm hbx
  refine mix_loud rfl (fun K hK => ?_)
  (go_simp; (try go_bits))
  refine hc.mono ?_
  clear hc
  rintro _ w13 ⟨g13, rfl, hg13, o13, r1⟩
  have b1 := b0.trans (r1.mono b0.size)
  refine hK _ _ (fun _ => b1) ?_
  clear hK K
  (go_simp; (try go_bits))
  repeat
   (refine mix_still rfl (by rfl) ?_
    apply Exists.intro
    refine ⟨fun w' hS => ?_, ?_⟩
    · (have hS' := cells_of hS; clear hS; go_simp; (try go_bits); first | with_reducible rfl | (refine (if_pos ?_).trans ?_; omega; with_reducible rfl))
    (go_simp; (try go_bits)))
  have hc := eqState_self (Row.below (row_of_owns X1.out) b1) (row_of_owns (own_owns o13)) xm
  refine mix_loud rfl (fun K hK => ?_)
  (go_simp; (try go_bits))
  refine hc.mono ?_
  clear hc
  rintro _ w14 ⟨rfl, r2⟩
  have b2 := b1.trans (r2.mono b1.size)
  refine hK _ _ (fun _ => b2) ?_
  clear hK K
  (go_simp; (try go_bits))
  refine mix_loud rfl (fun K hK => ?_)
  (go_simp; (try go_bits))
  refine hK _ _ (no_need (by kernel_rfl)) ?_
  clear hK K
  try (go_simp; (try go_bits))
  refine mix_nil ?_
  clear q8_0 q8_1 l_q8 k_0 k_1 l_k
  have bW := b2
  clear b0 b1 b2 r1 r2 o13 hg13
  replace B := Lib.hid (Below.trans B.out (Below.mono bW (Below.size B.out)))
  replace k := Lib.hid (blk_below k.out bW)
  replace Z := Lib.hid (HL.below Z.out bW)
  replace Hys := Lib.hid (HL.below Hys.out bW)
  replace X1 := Lib.hid (own_below X1.out bW)
  replace q8 := Lib.hid (blk_below q8.out bW)
  replace G := Lib.hid (HL.below G.out bW)
  clear bW
  obtain ⟨Ky, hKy⟩ : ∃ K, kAt 1 ys xs.length = K := ⟨_, rfl⟩
  have hKyb := Lib.hid (show Ky ≤ 1 + tot ys + ys.length by rw [← hKy]; exact kAt_le 1 ys xs.length)
  have hyl := Lib.hid (show Lts (.slice (some ⟨w5.heap.size, 0, none⟩) xs.length xs.length) ys w6.heap.size from hyl0.out)
  have hc := markS_any (k := 1) Hys.out hyl.out.1 hyl.out.2 hyt.out
  rw [hKy] at hc
  replace hc := Lib.hid hc
  replace hKy := Lib.hid hKy
  go_wp2_with fail
  refine hc.out.mono ?_
  rintro e w15 ⟨rfl, -, tw, -⟩
  clear hc Hys
  replace B := Lib.hid (Betw.to_below B.out tw (by have := lk.out; have := s2.out; have := s5.out; have := s6.out; have := s7.out; have := G7.out; have := g7lt.out; have := sW8.out; have := q8l.out; have := s9.out; omega) (Below.size B.out))
  replace k := Lib.hid (Betw.blk tw k.out (.inl (by have := lk.out; have := s2.out; have := s5.out; have := s6.out; have := s7.out; have := G7.out; have := g7lt.out; have := sW8.out; have := q8l.out; have := s9.out; omega)))
  replace Z := Lib.hid (HL.betw_lo Z.out (Lts.mono zlt.out (by have := lk.out; have := s2.out; have := s5.out; have := s6.out; have := s7.out; have := G7.out; have := g7lt.out; have := sW8.out; have := q8l.out; have := s9.out; omega)) tw)
  replace X1 := Lib.hid (Betw.owns tw X1.out (fun q hq => .inr (((X1.out).lt q hq).1)))
  replace q8 := Lib.hid (Betw.blk tw q8.out (.inr (by have := lk.out; have := s2.out; have := s5.out; have := s6.out; have := s7.out; have := G7.out; have := g7lt.out; have := sW8.out; have := q8l.out; have := s9.out; omega)))
  replace G := Lib.hid (HL.betw_hi G.out (by have := lk.out; have := s2.out; have := s5.out; have := s6.out; have := s7.out; have := G7.out; have := g7lt.out; have := sW8.out; have := q8l.out; have := s9.out; omega) tw)
  clear tw
  have hc := markState_any (s := xm) (k := Ky) X1.out (by have := hKyb.out; have := hyt2.out; have := hx20.out; omega)
  obtain ⟨Kx, hKx⟩ : ∃ K, Ky + xl.length = K := ⟨_, rfl⟩
  rw [hKx] at hc
  have dx : decide ((Kx : Int) < 0) = false := decide_eq_false (by omega)
  replace hKx := Lib.hid hKx
  replace hc := Lib.hid hc
  obtain ⟨q8_0, q8_1⟩ := blk2 q8.out
  have l_q8 := blk_lt q8.out
  go_wp2_with fail
  refine hc.out.mono ?_
  rintro e w16 ⟨rfl, -, gr⟩
  clear q8_0 q8_1 l_q8
  have tw : Betw w6.heap.size w7.heap.size w15 w16 := betw_of gr (fun q hq => by injection hq with hq; subst hq; exact ⟨G7.out, g7lt.out⟩)
  clear hc gr X1
  replace B := Lib.hid (Betw.to_below B.out tw (by have := lk.out; have := s2.out; have := s5.out; have := s6.out; have := s7.out; have := G7.out; have := g7lt.out; have := sW8.out; have := q8l.out; have := s9.out; omega) (Below.size B.out))
  replace k := Lib.hid (Betw.blk tw k.out (.inl (by have := lk.out; have := s2.out; have := s5.out; have := s6.out; have := s7.out; have := G7.out; have := g7lt.out; have := sW8.out; have := q8l.out; have := s9.out; omega)))
  replace Z := Lib.hid (HL.betw_lo Z.out (Lts.mono zlt.out (by have := lk.out; have := s2.out; have := s5.out; have := s6.out; have := s7.out; have := G7.out; have := g7lt.out; have := sW8.out; have := q8l.out; have := s9.out; omega)) tw)
  replace q8 := Lib.hid (Betw.blk tw q8.out (.inr (by have := lk.out; have := s2.out; have := s5.out; have := s6.out; have := s7.out; have := G7.out; have := g7lt.out; have := sW8.out; have := q8l.out; have := s9.out; omega)))
  replace G := Lib.hid (HL.betw_hi G.out (by have := lk.out; have := s2.out; have := s5.out; have := s6.out; have := s7.out; have := G7.out; have := g7lt.out; have := sW8.out; have := q8l.out; have := s9.out; omega) tw)
  clear tw
  have hc := Lib.hid (eq_self G.out.srow Z.out.srow hgz.out)
  go_wp2_with fail
  refine hc.out.mono ?_
  rintro e w17 ⟨rfl, bw⟩
  clear hc
  replace B := Lib.hid (Below.trans B.out (Below.mono bw (Below.size B.out)))
  replace k := Lib.hid (blk_below k.out bw)
  replace Z := Lib.hid (HL.below Z.out bw)
  replace q8 := Lib.hid (blk_below q8.out bw)
  replace G := Lib.hid (HL.below G.out bw)
  clear bw
  obtain ⟨Kg, hKg⟩ : ∃ K, kAt 1 gs (xs.length + 1) = K := ⟨_, rfl⟩
  have hc := markS_any (k := 1) G.out glt.out.1 glt.out.2 hgt.out
  rw [hKg] at hc
  have dg : decide ((Kg : Int) < 0) = false := decide_eq_false (by omega)
  have dm : ((Kg : Int) != (Kg : Int)) = false := by simp
  replace hc := Lib.hid hc
  replace hKg := Lib.hid hKg
  go_wp2_with fail
  refine hc.out.mono ?_
  rintro e w18 ⟨rfl, G2, tw, -⟩
  clear hc G
  replace G2 := Lib.hid G2
  clear q8
  replace B := Lib.hid (Betw.to_below B.out tw (by have := lk.out; have := s2.out; have := s5.out; have := s6.out; have := s7.out; have := G7.out; have := g7lt.out; have := sW8.out; have := q8l.out; have := s9.out; omega) (Below.size B.out))
  replace k := Lib.hid (Betw.blk tw k.out (.inl (by have := lk.out; have := s2.out; have := s5.out; have := s6.out; have := s7.out; have := G7.out; have := g7lt.out; have := sW8.out; have := q8l.out; have := s9.out; omega)))
  replace Z := Lib.hid (HL.betw_lo Z.out (Lts.mono zlt.out (by have := lk.out; have := s2.out; have := s5.out; have := s6.out; have := s7.out; have := G7.out; have := g7lt.out; have := sW8.out; have := q8l.out; have := s9.out; omega)) tw)
  clear tw
  have hc := heldS_any (k := 1) (G2.out).srow glen.out hgt.out
  rw [hKg.out] at hc
  replace hc := Lib.hid hc
  go_wp2_with fail
  refine hc.out.mono ?_
  rintro e w19 ⟨rfl, bw⟩
  clear hc
  replace B := Lib.hid (Below.trans B.out (Below.mono bw (Below.size B.out)))
  replace k := Lib.hid (blk_below k.out bw)
  replace Z := Lib.hid (HL.below Z.out bw)
  replace G2 := Lib.hid (HL.below G2.out bw)
  clear bw
  go_upto_region 31 with fail
  obtain ⟨k_0, k_1⟩ := blk2 k.out
  have l_k := blk_lt k.out
  refine wp_region_below [(0, true), (2, true), (1, false), (3, false), (4, false), (5, false)] (by kernel_rfl) (by kernel_rfl) (fun d _ _ _ _ h => by cases d <;> exact h) ?_
  have b0 := to_drew w19 w19.heap.size
  repeat
   (refine mix_still rfl (by rfl) ?_
    apply Exists.intro
    refine ⟨fun w' hS => ?_, ?_⟩
    · (have hS' := cells_of hS; clear hS; go_simp; (try go_bits); first | with_reducible rfl | (refine (if_pos ?_).trans ?_; omega; with_reducible rfl))
    (go_simp; (try go_bits)))
  have hc := to_any (SRow.below (h0.out.below B.out) b0) hlx hv8.out
  refine mix_loud rfl (fun K hK => ?_)
  (go_simp; (try go_bits))
  refine hc.mono ?_
  clear hc
  rintro _ w20 ⟨ts, rfl, hts, o3, p3, r1⟩
  have b1 := b0.trans (r1.mono b0.size)
  refine hK _ _ (fun _ => b1) ?_
  clear hK K
  (go_simp; (try go_bits))
  have lts := abs_len hts
  have H3 := hl_of o3 lts p3
  repeat
   (refine mix_still rfl (by rfl) ?_
    apply Exists.intro
    refine ⟨fun w' hS => ?_, ?_⟩
    · (have hS' := cells_of hS; clear hS; go_simp; (try go_bits); first | with_reducible rfl | (refine (if_pos ?_).trans ?_; omega; with_reducible rfl))
    (go_simp; (try go_bits)))
  have hc := toState_any (Row.below (hx1.out.below B.out) b1) xm hbx
  refine mix_loud rfl (fun K hK => ?_)
  (go_simp; (try go_bits))
  refine hc.mono ?_
  clear hc
  rintro _ w21 ⟨g4, rfl, hg4, o4, r2⟩
  have b2 := b1.trans (r2.mono b1.size)
  refine hK _ _ (fun _ => b2) ?_
  clear hK K
  (go_simp; (try go_bits))
  have r4 := row_of_owns (own_owns o4)
  repeat
   (refine mix_still rfl (by rfl) ?_
    apply Exists.intro
    refine ⟨fun w' hS => ?_, ?_⟩
    · (have hS' := cells_of hS; clear hS; go_simp; (try go_bits); first | with_reducible rfl | (refine (if_pos ?_).trans ?_; omega; with_reducible rfl))
    (go_simp; (try go_bits)))
  have hc := impl_Pushed (x := ⟨.slice (some ⟨g4, 0, none⟩) xl.length xl.length, xl, xm⟩) (H3.below r2).srow r4 (by rw [lts]; exact hn20) (fun y hy => by have h1 := tot_mem hy; rw [tot_abs, hts, ← tot_abs] at h1; have := htot.out; omega) hbx
  refine mix_loud rfl (fun K hK => ?_)
  (go_simp; (try go_bits))
  refine hc.mono ?_
  clear hc
  rintro _ w22 ⟨v22, hs, rfl, hhs, Y, r3⟩
  have b3 := b2.trans (r3.mono b2.size)
  refine hK _ _ (fun _ => b3) ?_
  clear hK K
  (go_simp; (try go_bits))
  refine mix_loud rfl (fun K hK => ?_)
  (go_simp; (try go_bits))
  refine hK _ _ (no_need (by kernel_rfl)) ?_
  clear hK K
  try (go_simp; (try go_bits))
  refine mix_nil ?_
  clear k_0 k_1 l_k
  have bW := b3
  rw [hts] at hhs
  rw [lts] at Y
  have hhz := Lib.hid (hhs.trans hzs.out.symm)
  clear b0 b1 b2 b3 r1 r2 r3 r4 o3 p3 o4 hg4 lts hts H3 hhs
  replace B := Lib.hid (Below.trans B.out (Below.mono bW (Below.size B.out)))
  replace k := Lib.hid (blk_below k.out bW)
  replace Z := Lib.hid (HL.below Z.out bW)
  replace G2 := Lib.hid (HL.below G2.out bW)
  clear bW
  obtain ⟨Ah, ch, rfl, -⟩ := row_of_owns Y.row
  replace Y := Lib.hid Y
  have hc := Lib.hid (eq_self Y.out.srow Z.out.srow hhz.out)
  go_wp2_with fail
  refine hc.out.mono ?_
  rintro e w23 ⟨rfl, bw⟩
  clear hc
  replace B := Lib.hid (Below.trans B.out (Below.mono bw (Below.size B.out)))
  replace k := Lib.hid (blk_below k.out bw)
  replace Z := Lib.hid (HL.below Z.out bw)
  replace G2 := Lib.hid (HL.below G2.out bw)
  replace Y := Lib.hid (HL.below Y.out bw)
  clear bw
  have hc := heldS_any (k := 1) (G2.out).srow glen.out hgt.out
  rw [hKg.out] at hc
  replace hc := Lib.hid hc
  go_wp2_with fail
  refine hc.out.mono ?_
  rintro e w24 ⟨rfl, bw⟩
  clear hc
  replace B := Lib.hid (Below.trans B.out (Below.mono bw (Below.size B.out)))
  replace k := Lib.hid (blk_below k.out bw)
  replace Z := Lib.hid (HL.below Z.out bw)
  replace G2 := Lib.hid (HL.below G2.out bw)
  replace Y := Lib.hid (HL.below Y.out bw)
  clear bw
  go_wp2
  go_ret
  exact ⟨rfl, B.out⟩
theorem cellsL : Try.prog.cellsOf 25 = 2 := by kernel_rfl
theorem walk (v0 : Value) {base : Nat} {w : World} (o0 : Value.okWide Try.prog w .any base 22 v0) {H : Type} {enc : TypeId × Value → H} {d0 : DataW H} {p0 : List MemPlace} (h0 : DataW.Trod enc Try.prog w 0 (fun _ => true) true 22 v0 d0 p0)
    (v1 : Value) (o1 : Value.okWide Try.prog w .any base 25 v1) {d1 : DataW H} {p1 : List MemPlace} (h1 : DataW.Trod enc Try.prog w 0 (fun _ => true) true 25 v1 d1 p1) :
    Calls Try.prog 3 #[v0, v1] w fun e w' => e = .returned (.bool true) ∧ Below w.heap.size w w' := by
  obtain ⟨xs, hx⟩ := row_states o0 h0
  obtain ⟨c2, c3, y2, y3, n, rfl, rfl, rfl, hy2, hy3⟩ := open_agg2 Try.underlying25 (by kernel_rfl) cellsL o1 h1
  obtain ⟨ys, hy, _⟩ := Args.row_ints_at Try.underlying23 Try.underlying3 cellsI hy2
  obtain ⟨d, e3, rfl, _⟩ := DataW.trod_int Try.underlying3 hy3
  simp at e3
  subst e3
  exact walkN (x := ⟨c2, ys, d⟩) hx hy
theorem own : ownKnob Try.prog.godebug = none := by kernel_rfl
theorem laidOut : laidOutB Try.prog = true := by kernel_rfl
set_option maxRecDepth 100000 in
theorem lifted (os : Os) (started : os.Started) (H : Type) (enc : TypeId × Value → H) :
    ReturnsInHanded {} Try.checked os 3 .any (Rows.fnExactPushedSpec.pre6 enc Try.prog Try.f3 Rows.fnExactPushedRow.domain false) (Rows.fnExactPushedSpec.post enc Try.prog Try.f3 false true false false) := by
  refine returnsInHanded_of_change (C := Try.checked) own started (by kernel_rfl) Try.func3
    (ChangeSpec.witness6 (enc := enc) (C := Try.checked) false ⟨#[], #[.slice none 0 0, .agg #[.slice none 0 0, .int .i64 0]], []⟩ 8 (by kernel_rfl) (by kernel_rfl) (by kernel_rfl) (by kernel_rfl)) ?_
  intro W base args ds gs before hval0 hW hcnd _
  have hval : ∀ (j : Nat) t v, Try.f3.params[j]? = some t → args[j]? = some v → Value.okWide Try.prog W .any base t v := hval0
  have hW' := hW
  obtain ⟨p, q, hA0, hV, rfl, hfz, hnd⟩ := hW
  have hA : DataW.TrodAll enc Try.prog W 0 (fun _ => true) true Try.f3.params.toList args.toList ds p := hA0
  rw [Try.params3] at hA hval
  obtain ⟨v0, vs0, d0, ds0, p0, q0, hargs, rfl, rfl, h0, r0⟩ := trodAll_cons hA
  obtain ⟨v1, vs1, d1, ds1, p1, q1, rfl, rfl, rfl, h1, r1⟩ := trodAll_cons r0
  obtain ⟨rfl, rfl, rfl⟩ := trodAll_nil r1
  obtain rfl : args = #[v0, v1] := by cases args; simp_all
  obtain ⟨rfl, rfl⟩ := trodVars_none hV
  have k0 := h0
  have o0 := hval 0 22 v0 rfl rfl
  have k1 := h1
  have o1 := hval 1 25 v1 rfl rfl
  clear hA0 hval0
  simp only [List.append_nil] at hW'
  have hlt := fun x hx => DataW.Whole.lt hW' x hx
  refine (walk v0 o0 h0 v1 o1 h1).mono fun e W' ⟨he, hg⟩ => ?_
  subst he
  exact ⟨_, rfl, Post.post_of_below (pa := p0 ++ (p1 ++ ([]))) (pv := []) hW' (fun _ _ _ => (trodAll_cons_mk (shut_bool Try.underlying4 _) trodAll_mk0)) (fun sp hsp => (trodAll_cons_mk (Post.stays laidOut (by kernel_rfl) (of_decide_eq_true (by kernel_rfl)) k0 hg (fun x hx => by first | (cases hx; done) | simp [hx]) hlt hsp) (trodAll_cons_mk (Post.stays laidOut (by kernel_rfl) (of_decide_eq_true (by kernel_rfl)) k1 hg (fun x hx => by first | (cases hx; done) | simp [hx]) hlt hsp) trodAll_mk0))) (fun _ _ => rfl) (by simp)
    hg (ok_one (by kernel_rfl) rfl (okWide_bool_mk Try.underlying4 _))⟩

theorem over : Rows.fnExactPushedRow.holds Try.pinned (OpenSpec.ofChange Rows.fnExactPushedSpec) :=
  OpenClaim.holds_of_wide 3 Try.f3 rfl rfl rfl rfl rfl rfl rfl ⟨rfl, rfl, rfl, rfl, rfl⟩ rfl rfl rfl rfl rfl (by kernel_rfl) Try.func3 (by kernel_rfl)
    (of_decide_eq_true (by kernel_rfl)) (by unfold Func.isWrapper; first | (rw [if_pos (by decide +kernel)]; kernel_rfl) | (rw [if_neg (by decide +kernel)]; exact ⟨rfl, rfl⟩))
    (fun os started H enc _ => lifted os started H enc)

/-- THE STATEMENT -/
theorem proved : Rows.FnExactPushedSaid :=
  over
end Go.Proofs.Ytocplbhgklfgeaa.lawPushed
