/-
  FnExactPopped: impl.Popped and spec.Popped answer the same for every list.
  Conditions: none beyond the statement's own.
-/
import Derived.Test.YtocplbhgklfgeaaRows
import Derived.Test.YtocplbhgklfgeaaHeaps10
import Derived.Test.YtocplbhgklfgeaaStatesArgs
import Derived.Test.YtocplbhgklfgeaaPost
import Derived.WalkKit
import Derived.ProofKit
import Derived.OpenShut
import Derived.Lib.SmallJoins
namespace Go.Proofs.Ytocplbhgklfgeaa.lawPopped
open Go.ChangeShapes Go.WideShapes Go.ChangeAt Go.RowKit Go.Joins Go.Proofs.Ytocplbhgklfgeaa.Mix Go.Proofs.Ytocplbhgklfgeaa.Row Go.Proofs.Ytocplbhgklfgeaa.Mem Go.Proofs.Ytocplbhgklfgeaa.Ints Go.Proofs.Ytocplbhgklfgeaa.State Go.Proofs.Ytocplbhgklfgeaa.States Go.Proofs.Ytocplbhgklfgeaa.Owns Go.Proofs.Ytocplbhgklfgeaa.Sift
open Go.Proofs.Ytocplbhgklfgeaa.Blocks (blk_below blk_lt blk2 frz)
set_option linter.unusedVariables false

set_option maxRecDepth 100000 in
set_option maxHeartbeats 12800000 in
theorem walkN {v0 : Value} {xs : List S} {w : World} (h0 : SRow w v0 xs) :
    Calls Try.prog 4 #[v0] w fun e w' => e = .returned (.bool true) ∧ Below w.heap.size w w' := by
  obtain ⟨A0, c0, e0, -⟩ := id h0.1
  have z0 := Lib.hid (sz_any h0 1048576 (by omega) (by omega))
  have B := Lib.hid (Below.refl w.heap.size w)
  subst e0
  replace h0 := Lib.hid h0
  rcases sz_cases xs 1048576 (by omega) with ⟨r, hr, r0, r1, hlx, htx⟩ | hr
  rotate_left
  · rw [hr] at z0
    clear hr
    go_enter Try.func4, Try.ntmps4
    go_wp2_with fail
    refine z0.out.mono ?_
    rintro e w1 ⟨rfl, b1⟩
    replace b1 := Lib.hid b1
    go_wp2
    go_ret
    exact ⟨rfl, b1.out⟩
  rw [hr] at z0
  have d0 : decide (r < 0) = false := decide_eq_false (by omega)
  have hv8 : Hid (∀ x ∈ xs, x.vals.length * 8 ≤ 140737488355328) := Lib.hid (fun x hx => by have := tot_mem hx; omega)
  have hn20 : Hid (xs.length ≤ 1048576) := Lib.hid (by omega)
  have htot : Hid (tot xs ≤ 1048576) := Lib.hid (by omega)
  replace hlx : xs.length * 32 ≤ 140737488355328 := by omega
  obtain ⟨bo, hbo⟩ : ∃ b, decide (0 < xs.length) = b := ⟨_, rfl⟩
  have dbo : (bo != bo) = false := by simp
  replace hbo := Lib.hid hbo
  clear hr htx
  go_enter Try.func4, Try.ntmps4
  go_wp2_with fail
  refine z0.out.mono ?_
  rintro e w1 ⟨rfl, bw⟩
  clear z0
  replace B := Lib.hid (Below.trans B.out (Below.mono bw (Below.size B.out)))
  clear bw
  have hc := Lib.hid (to_any (h0.out.below B.out) hlx hv8.out)
  go_wp2_with fail
  refine hc.out.mono ?_
  rintro e w2 ⟨ts, rfl, hts, o, p, bw⟩
  clear hc
  replace B := Lib.hid (Below.trans B.out (Below.mono bw (Below.size B.out)))
  clear bw
  have lts : ts.length = xs.length := abs_len hts
  have Hts := Lib.hid (hl_of o lts p)
  replace hts := Lib.hid hts
  replace lts := Lib.hid lts
  clear o p
  have s2 := Lib.hid (B.out.size)
  have hc := Lib.hid (spec_Popped (Hts.out).srow (by rw [lts.out]; exact hn20.out) (fun y hy => by have h1 := tot_mem hy; rw [tot_abs, hts.out, ← tot_abs] at h1; have := htot.out; omega))
  go_wp2_with fail
  refine hc.out.mono ?_
  rintro e w3 ⟨vZ, mZ, zZ, yZ, rfl, eZ, LZ, OZ, bw⟩
  clear hc
  rw [hts.out] at eZ
  rw [lts.out, hbo.out]
  have sw3 := Lib.hid bw.size
  have Z := PL.mk LZ OZ
  clear LZ OZ
  replace B := Lib.hid (Below.trans B.out (Below.mono bw (Below.size B.out)))
  replace Hts := Lib.hid (HL.below Hts.out bw)
  clear bw
  obtain ⟨AZ, cZ, hvZ⟩ := lit (PL.vrow Z)
  rcases yZ with ⟨yvZ, ylZ, ymZ⟩
  obtain rfl : yvZ = .slice AZ ylZ.length cZ := hvZ
  have zlt := Lib.hid Z.ltp
  obtain ⟨Az, cz, rfl, -⟩ := row_of_owns Z.hl.row
  replace Z := Lib.hid Z
  replace eZ := Lib.hid eZ
  clear Hts
  have al := (Below.refl w3.heap.size w3).alloc (Nat.le_refl _) (.cells #[.slice AZ ylZ.length cZ, .int .i64 ymZ] 31)
  have q5 := heap_alloc_new w3 (.cells #[.slice AZ ylZ.length cZ, .int .i64 ymZ] 31)
  obtain ⟨W3, hW3⟩ : ∃ W, w3.alloc (.cells #[.slice AZ ylZ.length cZ, .int .i64 ymZ] 31) = W := ⟨_, rfl⟩
  rw [hW3] at al q5
  have sW3 := Lib.hid al.size
  replace hW3 := Lib.hid hW3
  replace q5 := Lib.hid q5
  replace B := Lib.hid (Below.trans B.out (Below.mono al (Below.size B.out)))
  replace Z := Lib.hid (PL.below Z.out al)
  clear al
  have q5l := Lib.hid (blk_lt q5.out)
  go_upto_region 6 with fail
  rw [hW3.out]
  clear hW3
  have hc := Lib.hid (to_any (h0.out.below B.out) hlx hv8.out)
  go_wp2_with fail
  refine hc.out.mono ?_
  rintro e w5 ⟨ys, rfl, hys, o, p, bw⟩
  clear hc
  replace B := Lib.hid (Below.trans B.out (Below.mono bw (Below.size B.out)))
  replace Z := Lib.hid (PL.below Z.out bw)
  replace q5 := Lib.hid (blk_below q5.out bw)
  clear bw
  have lys : ys.length = xs.length := abs_len hys
  have Hys := Lib.hid (hl_of o lys p)
  have hyl0 := Lib.hid Hys.out.lts
  replace hys := Lib.hid hys
  replace lys := Lib.hid lys
  clear o p
  skip
  have sy := Lib.hid (Nat.le_of_lt (show W3.heap.size < w5.heap.size from (by have := (Hys.out.row.lt _ rfl).2; exact this)))
  have hyt : Hid (1 + tot ys + ys.length ≤ 1099511627776) := Lib.hid (by rw [tot_abs, hys.out, ← tot_abs, lys.out]; have := htot.out; have := hn20.out; omega)
  have hc := Lib.hid (impl_Popped (Hys.out).srow (by rw [lys.out]; exact hn20.out) (fun y hy => by have h1 := tot_mem hy; rw [tot_abs, hys.out, ← tot_abs] at h1; have := htot.out; omega))
  go_wp2_with fail
  refine hc.out.mono ?_
  rintro e w6 ⟨vG, mG, zG, yG, rfl, eG, LG, OG, bw⟩
  clear hc
  rw [hys.out] at eG
  rw [lys.out, hbo.out]
  have sw6 := Lib.hid bw.size
  have G := PL.mk LG OG
  clear LG OG
  replace B := Lib.hid (Below.trans B.out (Below.mono bw (Below.size B.out)))
  replace Z := Lib.hid (PL.below Z.out bw)
  replace q5 := Lib.hid (blk_below q5.out bw)
  replace Hys := Lib.hid (HL.below Hys.out bw)
  clear bw
  obtain ⟨AG, cG, hvG⟩ := lit (PL.vrow G)
  rcases yG with ⟨yvG, ylG, ymG⟩
  obtain rfl : yvG = .slice AG ylG.length cG := hvG
  have eq1 := eG.trans eZ.out.symm
  obtain ⟨hgz, hy2⟩ := Prod.mk.inj eq1
  obtain ⟨e1, e2⟩ := Prod.mk.inj hy2
  replace e1 : ylG = ylZ := e1
  replace e2 : ymG = ymZ := e2
  subst e1 e2
  replace hgz := Lib.hid hgz
  clear eq1 hy2
  have hpt := poppedA_tot (xs.map S.abs)
  rw [← eG] at hpt
  have hgt2 : Hid (1 + tot zG + zG.length ≤ 4000000 ∧ ylG.length ≤ 1048576) := Lib.hid (by have h1 : totA (zG.map S.abs) ≤ 2 * totA (xs.map S.abs) := hpt.1; have h2 : (zG.map S.abs).length ≤ (xs.map S.abs).length := hpt.2.1; have h3 : ylG.length ≤ totA (xs.map S.abs) := hpt.2.2; rw [← tot_abs, ← tot_abs] at h1; rw [← tot_abs] at h3; simp only [List.length_map] at h2; have := htot.out; have := hn20.out; exact ⟨by omega, by omega⟩)
  clear hpt
  have hgt : Hid (1 + tot zG + zG.length ≤ 1099511627776) := Lib.hid (by have := hgt2.out; omega)
  have glt := Lib.hid G.hl.lts
  have gltp := Lib.hid G.ltp
  have glen := Lib.hid G.hl.len
  have gap := Lib.hid G.apart
  obtain ⟨Ag, cg, rfl, -⟩ := row_of_owns G.hl.row
  replace G := Lib.hid G
  replace eG := Lib.hid eG
  have al := (Below.refl w6.heap.size w6).alloc (Nat.le_refl _) (.cells #[.slice AG ylG.length cG, .int .i64 ymG] 31)
  have q9 := heap_alloc_new w6 (.cells #[.slice AG ylG.length cG, .int .i64 ymG] 31)
  obtain ⟨W6, hW6⟩ : ∃ W, w6.alloc (.cells #[.slice AG ylG.length cG, .int .i64 ymG] 31) = W := ⟨_, rfl⟩
  rw [hW6] at al q9
  have sW6 := Lib.hid al.size
  replace hW6 := Lib.hid hW6
  replace q9 := Lib.hid q9
  replace B := Lib.hid (Below.trans B.out (Below.mono al (Below.size B.out)))
  replace Z := Lib.hid (PL.below Z.out al)
  replace q5 := Lib.hid (blk_below q5.out al)
  replace Hys := Lib.hid (HL.below Hys.out al)
  replace G := Lib.hid (PL.below G.out al)
  clear al
  have q9l := Lib.hid (blk_lt q9.out)
  go_upto_region 8 with fail
  rw [hW6.out]
  clear hW6
  have hc := Lib.hid (eq_self ((G.out).hl.srow) (Z.out).hl.srow hgz.out)
  go_wp2_with fail
  refine hc.out.mono ?_
  rintro e w7 ⟨rfl, bw⟩
  clear hc
  replace B := Lib.hid (Below.trans B.out (Below.mono bw (Below.size B.out)))
  replace Z := Lib.hid (PL.below Z.out bw)
  replace q5 := Lib.hid (blk_below q5.out bw)
  replace Hys := Lib.hid (HL.below Hys.out bw)
  replace G := Lib.hid (PL.below G.out bw)
  replace q9 := Lib.hid (blk_below q9.out bw)
  clear bw
  obtain ⟨q9_0, q9_1⟩ := blk2 q9.out
  have l_q9 := blk_lt q9.out
  obtain ⟨q5_0, q5_1⟩ := blk2 q5.out
  have l_q5 := blk_lt q5.out
  have hc := Lib.hid (eqState_self (show Row _ (.slice AG ylG.length cG) 1 ylG.length (ints ylG) from PL.vrow G.out) (show Row _ (.slice AZ ylG.length cZ) 1 ylG.length (ints ylG) from PL.vrow Z.out) ymG)
  go_wp2_with fail
  refine hc.out.mono ?_
  rintro e w8 ⟨rfl, bw⟩
  clear q9_0 q9_1 l_q9 q5_0 q5_1 l_q5
  clear hc
  replace B := Lib.hid (Below.trans B.out (Below.mono bw (Below.size B.out)))
  replace Z := Lib.hid (PL.below Z.out bw)
  replace q5 := Lib.hid (blk_below q5.out bw)
  replace Hys := Lib.hid (HL.below Hys.out bw)
  replace G := Lib.hid (PL.below G.out bw)
  replace q9 := Lib.hid (blk_below q9.out bw)
  clear bw
  have hc := Lib.hid (to_any (h0.out.below B.out) hlx hv8.out)
  go_wp2_with fail
  refine hc.out.mono ?_
  rintro e w9 ⟨us, rfl, hus, o, p, bw⟩
  clear hc
  replace B := Lib.hid (Below.trans B.out (Below.mono bw (Below.size B.out)))
  replace Z := Lib.hid (PL.below Z.out bw)
  replace q5 := Lib.hid (blk_below q5.out bw)
  replace Hys := Lib.hid (HL.below Hys.out bw)
  replace G := Lib.hid (PL.below G.out bw)
  replace q9 := Lib.hid (blk_below q9.out bw)
  clear bw
  have lus : us.length = xs.length := abs_len hus
  have U := Lib.hid (srow_of o lus p.rows)
  have hyu := Lib.hid (hys.out.trans hus.symm)
  replace lus := Lib.hid lus
  clear o p hus
  have hc := Lib.hid (eq_self Hys.out.srow U.out hyu.out)
  go_wp2_with fail
  refine hc.out.mono ?_
  rintro e w10 ⟨rfl, bw⟩
  clear hc
  replace B := Lib.hid (Below.trans B.out (Below.mono bw (Below.size B.out)))
  replace Z := Lib.hid (PL.below Z.out bw)
  replace q5 := Lib.hid (blk_below q5.out bw)
  replace Hys := Lib.hid (HL.below Hys.out bw)
  replace G := Lib.hid (PL.below G.out bw)
  replace q9 := Lib.hid (blk_below q9.out bw)
  replace U := Lib.hid (SRow.below U.out bw)
  clear bw
  clear U hyu lus
  obtain ⟨Ky, hKy⟩ : ∃ K, kAt 1 ys xs.length = K := ⟨_, rfl⟩
  have dy : decide ((Ky : Int) < 0) = false := decide_eq_false (by omega)
  have hc := markS_any (k := 1) Hys.out hyl0.out.1 hyl0.out.2 hyt.out
  rw [hKy] at hc
  replace hc := Lib.hid hc
  replace hKy := Lib.hid hKy
  go_wp2_with fail
  refine hc.out.mono ?_
  rintro e w11 ⟨rfl, -, tw, -⟩
  clear hc Hys
  replace B := Lib.hid (Betw.to_below B.out tw (by have := s2.out; have := sw3.out; have := sW3.out; have := q5l.out; have := sy.out; have := sw6.out; have := sW6.out; have := q9l.out; omega) (Below.size B.out))
  replace Z := Lib.hid (PL.betw_lo Z.out (Lts.mono zlt.out (by have := s2.out; have := sw3.out; have := sW3.out; have := q5l.out; have := sy.out; have := sw6.out; have := sW6.out; have := q9l.out; omega)) tw)
  replace q5 := Lib.hid (Betw.blk tw q5.out (.inl (by have := s2.out; have := sw3.out; have := sW3.out; have := q5l.out; have := sy.out; have := sw6.out; have := sW6.out; have := q9l.out; omega)))
  replace G := Lib.hid (PL.betw_hi G.out (by have := s2.out; have := sw3.out; have := sW3.out; have := q5l.out; have := sy.out; have := sw6.out; have := sW6.out; have := q9l.out; omega) tw)
  replace q9 := Lib.hid (Betw.blk tw q9.out (.inr (by have := s2.out; have := sw3.out; have := sW3.out; have := q5l.out; have := sy.out; have := sw6.out; have := sW6.out; have := q9l.out; omega)))
  clear tw
  have hc := Lib.hid (eq_self ((G.out).hl.srow) (Z.out).hl.srow hgz.out)
  go_wp2_with fail
  refine hc.out.mono ?_
  rintro e w12 ⟨rfl, bw⟩
  clear hc
  replace B := Lib.hid (Below.trans B.out (Below.mono bw (Below.size B.out)))
  replace Z := Lib.hid (PL.below Z.out bw)
  replace q5 := Lib.hid (blk_below q5.out bw)
  replace G := Lib.hid (PL.below G.out bw)
  replace q9 := Lib.hid (blk_below q9.out bw)
  clear bw
  obtain ⟨q9_0, q9_1⟩ := blk2 q9.out
  have l_q9 := blk_lt q9.out
  obtain ⟨q5_0, q5_1⟩ := blk2 q5.out
  have l_q5 := blk_lt q5.out
  have hc := Lib.hid (eqState_self (show Row _ (.slice AG ylG.length cG) 1 ylG.length (ints ylG) from PL.vrow G.out) (show Row _ (.slice AZ ylG.length cZ) 1 ylG.length (ints ylG) from PL.vrow Z.out) ymG)
  go_wp2_with fail
  refine hc.out.mono ?_
  rintro e w13 ⟨rfl, bw⟩
  clear q9_0 q9_1 l_q9 q5_0 q5_1 l_q5
  clear hc
  replace B := Lib.hid (Below.trans B.out (Below.mono bw (Below.size B.out)))
  replace Z := Lib.hid (PL.below Z.out bw)
  replace q5 := Lib.hid (blk_below q5.out bw)
  replace G := Lib.hid (PL.below G.out bw)
  replace q9 := Lib.hid (blk_below q9.out bw)
  clear bw
  obtain ⟨Kg, hKg⟩ : ∃ K, kAt 1 zG mG = K := ⟨_, rfl⟩
  have hc := markS_any (k := 1) (G.out).hl glt.out.1 glt.out.2 hgt.out
  rw [hKg] at hc
  have hKb := Lib.hid (show Kg ≤ 4000000 by have h1 := kAt_le 1 zG mG; have := hgt2.out.1; omega)
  have dg : decide ((Kg : Int) < 0) = false := decide_eq_false (by omega)
  replace hc := Lib.hid hc
  replace hKg := Lib.hid hKg
  go_wp2_with fail
  refine hc.out.mono ?_
  rintro e w14 ⟨rfl, G2, tw, st⟩
  clear hc
  have Y2 := Lib.hid ((G.out).stays st)
  replace G2 := Lib.hid G2
  clear st G
  replace B := Lib.hid (Betw.to_below B.out tw (by have := s2.out; have := sw3.out; have := sW3.out; have := q5l.out; have := sy.out; have := sw6.out; have := sW6.out; have := q9l.out; omega) (Below.size B.out))
  replace Z := Lib.hid (PL.betw_lo Z.out (Lts.mono zlt.out (by have := s2.out; have := sw3.out; have := sW3.out; have := q5l.out; have := sy.out; have := sw6.out; have := sW6.out; have := q9l.out; omega)) tw)
  replace q5 := Lib.hid (Betw.blk tw q5.out (.inl (by have := s2.out; have := sw3.out; have := sW3.out; have := q5l.out; have := sy.out; have := sw6.out; have := sW6.out; have := q9l.out; omega)))
  replace q9 := Lib.hid (Betw.blk tw q9.out (.inr (by have := s2.out; have := sw3.out; have := sW3.out; have := q5l.out; have := sy.out; have := sw6.out; have := sW6.out; have := q9l.out; omega)))
  clear tw
  obtain ⟨M, hM⟩ : ∃ M, Kg + ylG.length = M := ⟨_, rfl⟩
  have hc := markState_any (xl := ylG) (s := ymG) (k := Kg) Y2.out (by have := hKb.out; have := hgt2.out.2; omega)
  rw [hM] at hc
  have dM : decide ((M : Int) < 0) = false := decide_eq_false (by omega)
  have dm : ((M : Int) != (M : Int)) = false := by simp
  replace hM := Lib.hid hM
  replace hc := Lib.hid hc
  obtain ⟨q9_0, q9_1⟩ := blk2 q9.out
  have l_q9 := blk_lt q9.out
  go_wp2_with fail
  refine hc.out.mono ?_
  rintro e w15 ⟨rfl, Y3, gr⟩
  clear q9_0 q9_1 l_q9
  clear hc
  have G3 := Lib.hid (HL.beside G2.out Y2.out gr (fun x hx => by obtain ⟨x0, hx0, e0⟩ := mkTo_v hx; rw [← e0]; exact gap.out x0 hx0))
  have tw : Betw w5.heap.size w6.heap.size w14 w15 := betw_of gr (fun q hq => ⟨((Y2.out).lt q hq).1, gltp.out.2 _ (List.mem_append_right _ (List.mem_singleton.2 rfl)) q hq⟩)
  replace Y3 := Lib.hid Y3
  clear gr G2 Y2
  replace B := Lib.hid (Betw.to_below B.out tw (by have := s2.out; have := sw3.out; have := sW3.out; have := q5l.out; have := sy.out; have := sw6.out; have := sW6.out; have := q9l.out; omega) (Below.size B.out))
  replace Z := Lib.hid (PL.betw_lo Z.out (Lts.mono zlt.out (by have := s2.out; have := sw3.out; have := sW3.out; have := q5l.out; have := sy.out; have := sw6.out; have := sW6.out; have := q9l.out; omega)) tw)
  replace q5 := Lib.hid (Betw.blk tw q5.out (.inl (by have := s2.out; have := sw3.out; have := sW3.out; have := q5l.out; have := sy.out; have := sw6.out; have := sW6.out; have := q9l.out; omega)))
  replace q9 := Lib.hid (Betw.blk tw q9.out (.inr (by have := s2.out; have := sw3.out; have := sW3.out; have := q5l.out; have := sy.out; have := sw6.out; have := sW6.out; have := q9l.out; omega)))
  clear tw
  have hc := heldS_any (k := 1) (G3.out).srow glen.out hgt.out
  rw [hKg.out] at hc
  replace hc := Lib.hid hc
  go_wp2_with fail
  refine hc.out.mono ?_
  rintro e w16 ⟨rfl, bw⟩
  clear hc
  replace B := Lib.hid (Below.trans B.out (Below.mono bw (Below.size B.out)))
  replace Z := Lib.hid (PL.below Z.out bw)
  replace q5 := Lib.hid (blk_below q5.out bw)
  replace q9 := Lib.hid (blk_below q9.out bw)
  replace G3 := Lib.hid (HL.below G3.out bw)
  replace Y3 := Lib.hid (own_below Y3.out bw)
  clear bw
  have hc := heldState_any (n := ylG.length) (s := ymG) (k := Kg) (row_of_owns Y3.out) (by have := hKb.out; have := hgt2.out.2; omega)
  rw [hM.out] at hc
  replace hc := Lib.hid hc
  obtain ⟨q9_0, q9_1⟩ := blk2 q9.out
  have l_q9 := blk_lt q9.out
  go_wp2_with fail
  refine hc.out.mono ?_
  rintro e w17 ⟨rfl, bw⟩
  clear hc
  clear q9_0 q9_1 l_q9
  replace B := Lib.hid (Below.trans B.out (Below.mono bw (Below.size B.out)))
  replace Z := Lib.hid (PL.below Z.out bw)
  replace q5 := Lib.hid (blk_below q5.out bw)
  replace q9 := Lib.hid (blk_below q9.out bw)
  replace G3 := Lib.hid (HL.below G3.out bw)
  replace Y3 := Lib.hid (own_below Y3.out bw)
  clear bw
  have hc := Lib.hid (to_any (h0.out.below B.out) hlx hv8.out)
  go_wp2_with fail
  refine hc.out.mono ?_
  rintro e w18 ⟨hs, rfl, hhs, o, p, bw⟩
  clear hc
  replace B := Lib.hid (Below.trans B.out (Below.mono bw (Below.size B.out)))
  replace Z := Lib.hid (PL.below Z.out bw)
  replace q5 := Lib.hid (blk_below q5.out bw)
  replace q9 := Lib.hid (blk_below q9.out bw)
  replace G3 := Lib.hid (HL.below G3.out bw)
  replace Y3 := Lib.hid (own_below Y3.out bw)
  clear bw
  have lhs : hs.length = xs.length := abs_len hhs
  have Hhs := Lib.hid (hl_of o lhs p)
  replace hhs := Lib.hid hhs
  replace lhs := Lib.hid lhs
  clear o p
  have hc := Lib.hid (impl_Popped (Hhs.out).srow (by rw [lhs.out]; exact hn20.out) (fun y hy => by have h1 := tot_mem hy; rw [tot_abs, hhs.out, ← tot_abs] at h1; have := htot.out; omega))
  go_wp2_with fail
  refine hc.out.mono ?_
  rintro e w19 ⟨vY, mY, zY, yY, rfl, eY, LY, OY, bw⟩
  clear hc
  rw [hhs.out] at eY
  rw [lhs.out, hbo.out]
  have sw19 := Lib.hid bw.size
  have Y := PL.mk LY OY
  clear LY OY
  replace B := Lib.hid (Below.trans B.out (Below.mono bw (Below.size B.out)))
  replace Z := Lib.hid (PL.below Z.out bw)
  replace q5 := Lib.hid (blk_below q5.out bw)
  replace q9 := Lib.hid (blk_below q9.out bw)
  replace G3 := Lib.hid (HL.below G3.out bw)
  replace Y3 := Lib.hid (own_below Y3.out bw)
  replace Hhs := Lib.hid (HL.below Hhs.out bw)
  clear bw
  obtain ⟨AY, cY, hvY⟩ := lit (PL.vrow Y)
  rcases yY with ⟨yvY, ylY, ymY⟩
  obtain rfl : yvY = .slice AY ylY.length cY := hvY
  have eq1 := eY.trans eG.out.symm
  obtain ⟨hyg, hy2⟩ := Prod.mk.inj eq1
  obtain ⟨e1, e2⟩ := Prod.mk.inj hy2
  replace e1 : ylY = ylG := e1
  replace e2 : ymY = ymG := e2
  subst e1 e2
  have hyz := Lib.hid (hyg.trans hgz.out)
  clear eq1 hy2 hyg
  obtain ⟨Ah, ch, rfl, -⟩ := row_of_owns Y.hl.row
  replace Y := Lib.hid Y
  replace eY := Lib.hid eY
  have al := (Below.refl w19.heap.size w19).alloc (Nat.le_refl _) (.cells #[.slice AY ylY.length cY, .int .i64 ymY] 31)
  have q15 := heap_alloc_new w19 (.cells #[.slice AY ylY.length cY, .int .i64 ymY] 31)
  obtain ⟨W19, hW19⟩ : ∃ W, w19.alloc (.cells #[.slice AY ylY.length cY, .int .i64 ymY] 31) = W := ⟨_, rfl⟩
  rw [hW19] at al q15
  have sW19 := Lib.hid al.size
  replace hW19 := Lib.hid hW19
  replace q15 := Lib.hid q15
  replace B := Lib.hid (Below.trans B.out (Below.mono al (Below.size B.out)))
  replace Z := Lib.hid (PL.below Z.out al)
  replace q5 := Lib.hid (blk_below q5.out al)
  replace q9 := Lib.hid (blk_below q9.out al)
  replace G3 := Lib.hid (HL.below G3.out al)
  replace Y3 := Lib.hid (own_below Y3.out al)
  replace Hhs := Lib.hid (HL.below Hhs.out al)
  replace Y := Lib.hid (PL.below Y.out al)
  clear al
  go_upto_region 29 with fail
  rw [hW19.out]
  clear hW19
  have hc := Lib.hid (eq_self ((Y.out).hl.srow) (Z.out).hl.srow hyz.out)
  go_wp2_with fail
  refine hc.out.mono ?_
  rintro e w20 ⟨rfl, bw⟩
  clear hc
  replace B := Lib.hid (Below.trans B.out (Below.mono bw (Below.size B.out)))
  replace Z := Lib.hid (PL.below Z.out bw)
  replace q5 := Lib.hid (blk_below q5.out bw)
  replace q9 := Lib.hid (blk_below q9.out bw)
  replace G3 := Lib.hid (HL.below G3.out bw)
  replace Y3 := Lib.hid (own_below Y3.out bw)
  replace Hhs := Lib.hid (HL.below Hhs.out bw)
  replace Y := Lib.hid (PL.below Y.out bw)
  replace q15 := Lib.hid (blk_below q15.out bw)
  clear bw
  obtain ⟨q15_0, q15_1⟩ := blk2 q15.out
  have l_q15 := blk_lt q15.out
  obtain ⟨q5_0, q5_1⟩ := blk2 q5.out
  have l_q5 := blk_lt q5.out
  have hc := Lib.hid (eqState_self (show Row _ (.slice AY ylY.length cY) 1 ylY.length (ints ylY) from PL.vrow Y.out) (show Row _ (.slice AZ ylY.length cZ) 1 ylY.length (ints ylY) from PL.vrow Z.out) ymY)
  go_wp2_with fail
  refine hc.out.mono ?_
  rintro e w21 ⟨rfl, bw⟩
  clear q15_0 q15_1 l_q15 q5_0 q5_1 l_q5
  clear hc
  replace B := Lib.hid (Below.trans B.out (Below.mono bw (Below.size B.out)))
  replace Z := Lib.hid (PL.below Z.out bw)
  replace q5 := Lib.hid (blk_below q5.out bw)
  replace q9 := Lib.hid (blk_below q9.out bw)
  replace G3 := Lib.hid (HL.below G3.out bw)
  replace Y3 := Lib.hid (own_below Y3.out bw)
  replace Hhs := Lib.hid (HL.below Hhs.out bw)
  replace Y := Lib.hid (PL.below Y.out bw)
  replace q15 := Lib.hid (blk_below q15.out bw)
  clear bw
  have hc := heldS_any (k := 1) (G3.out).srow glen.out hgt.out
  rw [hKg.out] at hc
  replace hc := Lib.hid hc
  go_wp2_with fail
  refine hc.out.mono ?_
  rintro e w22 ⟨rfl, bw⟩
  clear hc
  replace B := Lib.hid (Below.trans B.out (Below.mono bw (Below.size B.out)))
  replace Z := Lib.hid (PL.below Z.out bw)
  replace q5 := Lib.hid (blk_below q5.out bw)
  replace q9 := Lib.hid (blk_below q9.out bw)
  replace G3 := Lib.hid (HL.below G3.out bw)
  replace Y3 := Lib.hid (own_below Y3.out bw)
  replace Hhs := Lib.hid (HL.below Hhs.out bw)
  replace Y := Lib.hid (PL.below Y.out bw)
  replace q15 := Lib.hid (blk_below q15.out bw)
  clear bw
  have hc := heldState_any (n := ylY.length) (s := ymY) (k := Kg) (row_of_owns Y3.out) (by have := hKb.out; have := hgt2.out.2; omega)
  rw [hM.out] at hc
  replace hc := Lib.hid hc
  obtain ⟨q9_0, q9_1⟩ := blk2 q9.out
  have l_q9 := blk_lt q9.out
  go_wp2_with fail
  refine hc.out.mono ?_
  rintro e w23 ⟨rfl, bw⟩
  clear hc
  clear q9_0 q9_1 l_q9
  replace B := Lib.hid (Below.trans B.out (Below.mono bw (Below.size B.out)))
  replace Z := Lib.hid (PL.below Z.out bw)
  replace q5 := Lib.hid (blk_below q5.out bw)
  replace q9 := Lib.hid (blk_below q9.out bw)
  replace G3 := Lib.hid (HL.below G3.out bw)
  replace Y3 := Lib.hid (own_below Y3.out bw)
  replace Hhs := Lib.hid (HL.below Hhs.out bw)
  replace Y := Lib.hid (PL.below Y.out bw)
  replace q15 := Lib.hid (blk_below q15.out bw)
  clear bw
  go_wp2
  go_ret
  exact ⟨rfl, B.out⟩
theorem walk (v0 : Value) {base : Nat} {w : World} (o0 : Value.okWide Try.prog w .any base 22 v0) {H : Type} {enc : TypeId × Value → H} {d0 : DataW H} {p0 : List MemPlace} (h0 : DataW.Trod enc Try.prog w 0 (fun _ => true) true 22 v0 d0 p0) :
    Calls Try.prog 4 #[v0] w fun e w' => e = .returned (.bool true) ∧ Below w.heap.size w w' := by
  obtain ⟨xs, hx⟩ := row_states o0 h0
  exact walkN hx
theorem own : ownKnob Try.prog.godebug = none := by kernel_rfl
theorem laidOut : laidOutB Try.prog = true := by kernel_rfl
set_option maxRecDepth 100000 in
theorem lifted (os : Os) (started : os.Started) (H : Type) (enc : TypeId × Value → H) :
    ReturnsInHanded {} Try.checked os 4 .any (Rows.fnExactPoppedSpec.pre6 enc Try.prog Try.f4 Rows.fnExactPoppedRow.domain false) (Rows.fnExactPoppedSpec.post enc Try.prog Try.f4 false true false false) := by
  refine returnsInHanded_of_change (C := Try.checked) own started (by kernel_rfl) Try.func4
    (ChangeSpec.witness6 (enc := enc) (C := Try.checked) false ⟨#[], #[.slice none 0 0], []⟩ 8 (by kernel_rfl) (by kernel_rfl) (by kernel_rfl) (by kernel_rfl)) ?_
  intro W base args ds gs before hval0 hW hcnd _
  have hval : ∀ (j : Nat) t v, Try.f4.params[j]? = some t → args[j]? = some v → Value.okWide Try.prog W .any base t v := hval0
  have hW' := hW
  obtain ⟨p, q, hA0, hV, rfl, hfz, hnd⟩ := hW
  have hA : DataW.TrodAll enc Try.prog W 0 (fun _ => true) true Try.f4.params.toList args.toList ds p := hA0
  rw [Try.params4] at hA hval
  obtain ⟨v0, vs0, d0, ds0, p0, q0, hargs, rfl, rfl, h0, r0⟩ := trodAll_cons hA
  obtain ⟨rfl, rfl, rfl⟩ := trodAll_nil r0
  obtain rfl : args = #[v0] := by cases args; simp_all
  obtain ⟨rfl, rfl⟩ := trodVars_none hV
  have k0 := h0
  have o0 := hval 0 22 v0 rfl rfl
  clear hA0 hval0
  simp only [List.append_nil] at hW'
  have hlt := fun x hx => DataW.Whole.lt hW' x hx
  refine (walk v0 o0 h0).mono fun e W' ⟨he, hg⟩ => ?_
  subst he
  exact ⟨_, rfl, Post.post_of_below (pa := p0 ++ ([])) (pv := []) hW' (fun _ _ _ => (trodAll_cons_mk (shut_bool Try.underlying4 _) trodAll_mk0)) (fun sp hsp => (trodAll_cons_mk (Post.stays laidOut (by kernel_rfl) (of_decide_eq_true (by kernel_rfl)) k0 hg (fun x hx => by first | (cases hx; done) | simp [hx]) hlt hsp) trodAll_mk0)) (fun _ _ => rfl) (by simp)
    hg (ok_one (by kernel_rfl) rfl (okWide_bool_mk Try.underlying4 _))⟩

theorem over : Rows.fnExactPoppedRow.holds Try.pinned (OpenSpec.ofChange Rows.fnExactPoppedSpec) :=
  OpenClaim.holds_of_wide 4 Try.f4 rfl rfl rfl rfl rfl rfl rfl ⟨rfl, rfl, rfl, rfl, rfl⟩ rfl rfl rfl rfl rfl (by kernel_rfl) Try.func4 (by kernel_rfl)
    (of_decide_eq_true (by kernel_rfl)) (by unfold Func.isWrapper; first | (rw [if_pos (by decide +kernel)]; kernel_rfl) | (rw [if_neg (by decide +kernel)]; exact ⟨rfl, rfl⟩))
    (fun os started H enc _ => lifted os started H enc)

/-- THE STATEMENT -/
theorem proved : Rows.FnExactPoppedSaid :=
  over
end Go.Proofs.Ytocplbhgklfgeaa.lawPopped
