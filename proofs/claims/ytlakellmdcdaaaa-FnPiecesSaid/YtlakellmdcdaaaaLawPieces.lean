/-
  FnPieces: all that may be split may be split at once: each tie holds then, and each chunk but the last ends a line.
  Conditions: none beyond the statement's own.
-/
import Derived.Test.YtlakellmdcdaaaaRows
import Derived.Test.YtlakellmdcdaaaaPair
import Derived.Test.YtlakellmdcdaaaaRt
import Derived.Test.YtlakellmdcdaaaaPc15
import Derived.Test.YtlakellmdcdaaaaArgs
import Derived.Test.YtlakellmdcdaaaaMix3
import Derived.Test.YtlakellmdcdaaaaPost
import Derived.WalkKit
import Derived.ProofKit
import Derived.OpenShut
namespace Go.Proofs.Ytlakellmdcdaaaa.lawPieces
open Go.ChangeShapes Go.WideShapes Go.ChangeAt Go.RowKit Go.Proofs.Ytlakellmdcdaaaa.Mix Go.Proofs.Ytlakellmdcdaaaa.Row Go.Proofs.Ytlakellmdcdaaaa.Mem Go.Proofs.Ytlakellmdcdaaaa.Owns Go.Proofs.Ytlakellmdcdaaaa.Blocks Go.Proofs.Ytlakellmdcdaaaa.Draw Go.Proofs.Ytlakellmdcdaaaa.Piece Go.Proofs.Ytlakellmdcdaaaa.Pc Go.Proofs.Ytlakellmdcdaaaa.Ints Go.Proofs.Ytlakellmdcdaaaa.All
set_option linter.unusedVariables false
theorem cellsB : Try.prog.cellsOf 5 = 1 := by kernel_rfl

set_option maxRecDepth 100000 in
set_option maxHeartbeats 12800000 in
theorem walkN {v : Value} {bs : List Int} {w : World} (h : Drawn w v bs) :
    Calls Try.prog 14 #[v] w fun e w' => e = .returned (.bool true) ∧ Below w.heap.size w w' := by
  obtain ⟨A0, c0, rfl, -⟩ := id h.1
  by_cases hb : bs.length ≤ 1048576
  · have d0 : decide ((1048576 : Int) < (bs.length : Int)) = false := by simp; omega
    replace h := Lib.hid h
    go_enter Try.func14, Try.ntmps14
    go_wp2_with fail
    refine (big_any h.out).mono ?_
    rintro e w0 ⟨rfl, rfl⟩
    have B := Lib.hid (Below.refl w.heap.size w)
    go_wp2_with fail
    refine (drawPiece_any (h.out.below B.out) hb).mono ?_
    rintro e w1 ⟨p, r, c, s, t, hR, rfl, hq, bw⟩
    replace B := Lib.hid (Below.trans B.out (Below.mono bw (Below.size B.out)))
    clear bw
    obtain ⟨A1p, m1p, rfl, -⟩ := row_of_owns (PQ.o1 hq)
    obtain ⟨A2p, m2p, rfl, -⟩ := row_of_owns (PQ.o2 hq)
    obtain ⟨A3p, m3p, rfl, -⟩ := row_of_owns (PQ.o3 hq)
    obtain ⟨A4p, m4p, rfl, -⟩ := row_of_owns (PQ.o4 hq)
    obtain ⟨n5, -, n1, n9, -, -, nt⟩ := rt_small hR
    have P := Lib.hid hq.row
    have hst : Hid (∀ x ∈ p.chunks, x.t.size ≤ 1099511627776) := Lib.hid fun x hx => by have := nt x hx; omega
    replace nt := Lib.hid nt
    clear hq
    have al := (Below.refl w1.heap.size w1).alloc (Nat.le_refl _) (.cells #[.int .i64 p.ind, .slice A1p p.rules.length m1p, .slice A2p p.chunks.length m2p, .slice A3p p.spans.length m3p, .slice A4p p.ties.length m4p] 35)
    have kp := heap_alloc_new w1 (.cells #[.int .i64 p.ind, .slice A1p p.rules.length m1p, .slice A2p p.chunks.length m2p, .slice A3p p.spans.length m3p, .slice A4p p.ties.length m4p] 35)
    obtain ⟨W1, hW1⟩ : ∃ W, w1.alloc (.cells #[.int .i64 p.ind, .slice A1p p.rules.length m1p, .slice A2p p.chunks.length m2p, .slice A3p p.spans.length m3p, .slice A4p p.ties.length m4p] 35) = W := ⟨_, rfl⟩
    rw [hW1] at al kp
    replace hW1 := Lib.hid hW1
    replace kp := Lib.hid kp
    replace B := Lib.hid (Below.trans B.out (Below.mono al (Below.size B.out)))
    replace P := Lib.hid (PRow.below P.out al)
    clear al
    go_upto_region 4 with fail
    rw [hW1.out]
    clear hW1
    obtain ⟨kp_0, kp_1, kp_2, kp_3, kp_4⟩ := blk5 kp.out
    have l_kp := blk_lt kp.out
    go_wp2_with fail
    refine (impl_AllSplit P.out (by omega)).mono ?_
    rintro e w2 ⟨vv, rfl, oV, bw⟩
    clear kp_0 kp_1 kp_2 kp_3 kp_4 l_kp
    replace B := Lib.hid (Below.trans B.out (Below.mono bw (Below.size B.out)))
    replace P := Lib.hid (PRow.below P.out bw)
    replace kp := Lib.hid (blk_below kp.out bw)
    clear bw
    obtain ⟨Av, mv, rfl, -⟩ := row_of_owns oV
    have V := Lib.hid (row_of_owns oV)
    clear oV
    have hlen : Hid ((allSplit p).length = p.rules.length) := Lib.hid (allSplit_len p)
    go_wp2
    go_loopw [5] (fun i wr => ∃ k : Nat, k + 1 ≤ p.chunks.length ∧ i = .int .i64 k ∧ Hid (Below w.heap.size w wr) ∧ Hid (PRow wr p (.slice A1p p.rules.length m1p) (.slice A2p p.chunks.length m2p) (.slice A3p p.spans.length m3p) (.slice A4p p.ties.length m4p)) ∧ Hid (wr.heap[w1.heap.size]? = some (.cells #[.int .i64 p.ind, .slice A1p p.rules.length m1p, .slice A2p p.chunks.length m2p, .slice A3p p.spans.length m3p, .slice A4p p.ties.length m4p] 35 (0, 0))) ∧ Hid (Row wr (.slice Av (allSplit p).length mv) 1 (allSplit p).length (ints (allSplit p)))) (fun i _ => p.chunks.length - (intOf i).toNat)
    case atStart => exact ⟨0, by omega, rfl, B, P, kp, V⟩
    case round =>
      clear B P kp V
      obtain ⟨k, hk, rfl, B, P, kp, V⟩ := hrel
      by_cases hlt : k + 1 < p.chunks.length
      · have d1 : decide ((k : Int) + 1 < (p.chunks.length : Int)) = true := decide_eq_true (by omega)
        have hsp := impl_SplitsAt P.out V.out hst.out (k : Int)
        rw [all_splits hR hlt] at hsp
        replace hsp := Lib.hid hsp
        obtain ⟨kp_0, kp_1, kp_2, kp_3, kp_4⟩ := blk5 kp.out
        have l_kp := blk_lt kp.out
        go_wp2_with fail
        refine (hsp.out).mono ?_
        rintro e w3 ⟨rfl, bw⟩
        clear kp_0 kp_1 kp_2 kp_3 kp_4 l_kp
        replace B := Lib.hid (Below.trans B.out (Below.mono bw (Below.size B.out)))
        replace P := Lib.hid (PRow.below P.out bw)
        replace kp := Lib.hid (blk_below kp.out bw)
        replace V := Lib.hid (Row.below V.out bw)
        clear bw
        clear hsp
        go_wp2
        go_roundw
        case rel => exact ⟨k + 1, by omega, by go_num, B, P, kp, V⟩
        case measure => simp [intOf]; omega
      · have d1 : decide ((k : Int) + 1 < (p.chunks.length : Int)) = false := decide_eq_false (by omega)
        obtain ⟨kp_0, kp_1, kp_2, kp_3, kp_4⟩ := blk5 kp.out
        have l_kp := blk_lt kp.out
        go_wp2_with fail
        refine (drawValuesOk_any (h.out.below B.out) hb).mono ?_
        rintro e w4 ⟨px, rx, cx, sx, tx, vx, xs, hX, nx, rfl, hq, ox, bw⟩
        clear kp_0 kp_1 kp_2 kp_3 kp_4 l_kp
        replace B := Lib.hid (Below.trans B.out (Below.mono bw (Below.size B.out)))
        replace P := Lib.hid (PRow.below P.out bw)
        replace kp := Lib.hid (blk_below kp.out bw)
        replace V := Lib.hid (Row.below V.out bw)
        clear bw
        obtain ⟨A1x, m1x, rfl, -⟩ := row_of_owns (PQ.o1 hq)
        obtain ⟨A2x, m2x, rfl, -⟩ := row_of_owns (PQ.o2 hq)
        obtain ⟨A3x, m3x, rfl, -⟩ := row_of_owns (PQ.o3 hq)
        obtain ⟨A4x, m4x, rfl, -⟩ := row_of_owns (PQ.o4 hq)
        obtain ⟨Ax, mx, rfl, -⟩ := row_of_owns ox
        have X := Lib.hid hq.row
        have XV := Lib.hid (row_of_owns ox)
        clear hq ox
        have al := (Below.refl w4.heap.size w4).alloc (Nat.le_refl _) (.cells #[.int .i64 px.ind, .slice A1x px.rules.length m1x, .slice A2x px.chunks.length m2x, .slice A3x px.spans.length m3x, .slice A4x px.ties.length m4x] 35)
        have kx := heap_alloc_new w4 (.cells #[.int .i64 px.ind, .slice A1x px.rules.length m1x, .slice A2x px.chunks.length m2x, .slice A3x px.spans.length m3x, .slice A4x px.ties.length m4x] 35)
        obtain ⟨W4, hW4⟩ : ∃ W, w4.alloc (.cells #[.int .i64 px.ind, .slice A1x px.rules.length m1x, .slice A2x px.chunks.length m2x, .slice A3x px.spans.length m3x, .slice A4x px.ties.length m4x] 35) = W := ⟨_, rfl⟩
        rw [hW4] at al kx
        replace hW4 := Lib.hid hW4
        replace kx := Lib.hid kx
        replace B := Lib.hid (Below.trans B.out (Below.mono al (Below.size B.out)))
        replace P := Lib.hid (PRow.below P.out al)
        replace kp := Lib.hid (blk_below kp.out al)
        replace V := Lib.hid (Row.below V.out al)
        replace X := Lib.hid (PRow.below X.out al)
        replace XV := Lib.hid (Row.below XV.out al)
        clear al
        go_upto_region 11 with fail
        rw [hW4.out]
        clear hW4
        go_wp2_with fail
        refine (drawSplitsAt_any (h.out.below B.out) hb).mono ?_
        rintro e w5 ⟨py, ry, cy, sy, ty, vy, ys, iy, hY, ny, rfl, hq, oy, bw⟩
        replace B := Lib.hid (Below.trans B.out (Below.mono bw (Below.size B.out)))
        replace P := Lib.hid (PRow.below P.out bw)
        replace kp := Lib.hid (blk_below kp.out bw)
        replace V := Lib.hid (Row.below V.out bw)
        replace X := Lib.hid (PRow.below X.out bw)
        replace XV := Lib.hid (Row.below XV.out bw)
        replace kx := Lib.hid (blk_below kx.out bw)
        clear bw
        obtain ⟨A1y, m1y, rfl, -⟩ := row_of_owns (PQ.o1 hq)
        obtain ⟨A2y, m2y, rfl, -⟩ := row_of_owns (PQ.o2 hq)
        obtain ⟨A3y, m3y, rfl, -⟩ := row_of_owns (PQ.o3 hq)
        obtain ⟨A4y, m4y, rfl, -⟩ := row_of_owns (PQ.o4 hq)
        obtain ⟨Ay, my, rfl, -⟩ := row_of_owns oy
        have Y := Lib.hid hq.row
        have YV := Lib.hid (row_of_owns oy)
        clear hq oy
        have al := (Below.refl w5.heap.size w5).alloc (Nat.le_refl _) (.cells #[.int .i64 py.ind, .slice A1y py.rules.length m1y, .slice A2y py.chunks.length m2y, .slice A3y py.spans.length m3y, .slice A4y py.ties.length m4y] 35)
        have ky := heap_alloc_new w5 (.cells #[.int .i64 py.ind, .slice A1y py.rules.length m1y, .slice A2y py.chunks.length m2y, .slice A3y py.spans.length m3y, .slice A4y py.ties.length m4y] 35)
        obtain ⟨W5, hW5⟩ : ∃ W, w5.alloc (.cells #[.int .i64 py.ind, .slice A1y py.rules.length m1y, .slice A2y py.chunks.length m2y, .slice A3y py.spans.length m3y, .slice A4y py.ties.length m4y] 35) = W := ⟨_, rfl⟩
        rw [hW5] at al ky
        replace hW5 := Lib.hid hW5
        replace ky := Lib.hid ky
        replace B := Lib.hid (Below.trans B.out (Below.mono al (Below.size B.out)))
        replace P := Lib.hid (PRow.below P.out al)
        replace kp := Lib.hid (blk_below kp.out al)
        replace V := Lib.hid (Row.below V.out al)
        replace X := Lib.hid (PRow.below X.out al)
        replace XV := Lib.hid (Row.below XV.out al)
        replace kx := Lib.hid (blk_below kx.out al)
        replace Y := Lib.hid (PRow.below Y.out al)
        replace YV := Lib.hid (Row.below YV.out al)
        clear al
        go_upto_region 12 with fail
        rw [hW5.out]
        clear hW5
        go_wp2_with fail
        refine (drawPieceOk_any (h.out.below B.out) hb).mono ?_
        rintro e w6 ⟨pz, rz, cz, sz, tz, hZ, rfl, hq, bw⟩
        replace B := Lib.hid (Below.trans B.out (Below.mono bw (Below.size B.out)))
        replace P := Lib.hid (PRow.below P.out bw)
        replace kp := Lib.hid (blk_below kp.out bw)
        replace V := Lib.hid (Row.below V.out bw)
        replace X := Lib.hid (PRow.below X.out bw)
        replace XV := Lib.hid (Row.below XV.out bw)
        replace kx := Lib.hid (blk_below kx.out bw)
        replace Y := Lib.hid (PRow.below Y.out bw)
        replace YV := Lib.hid (Row.below YV.out bw)
        replace ky := Lib.hid (blk_below ky.out bw)
        clear bw
        obtain ⟨A1z, m1z, rfl, -⟩ := row_of_owns (PQ.o1 hq)
        obtain ⟨A2z, m2z, rfl, -⟩ := row_of_owns (PQ.o2 hq)
        obtain ⟨A3z, m3z, rfl, -⟩ := row_of_owns (PQ.o3 hq)
        obtain ⟨A4z, m4z, rfl, -⟩ := row_of_owns (PQ.o4 hq)
        have Z := Lib.hid hq.row
        clear hq
        have al := (Below.refl w6.heap.size w6).alloc (Nat.le_refl _) (.cells #[.int .i64 pz.ind, .slice A1z pz.rules.length m1z, .slice A2z pz.chunks.length m2z, .slice A3z pz.spans.length m3z, .slice A4z pz.ties.length m4z] 35)
        have kz := heap_alloc_new w6 (.cells #[.int .i64 pz.ind, .slice A1z pz.rules.length m1z, .slice A2z pz.chunks.length m2z, .slice A3z pz.spans.length m3z, .slice A4z pz.ties.length m4z] 35)
        obtain ⟨W6, hW6⟩ : ∃ W, w6.alloc (.cells #[.int .i64 pz.ind, .slice A1z pz.rules.length m1z, .slice A2z pz.chunks.length m2z, .slice A3z pz.spans.length m3z, .slice A4z pz.ties.length m4z] 35) = W := ⟨_, rfl⟩
        rw [hW6] at al kz
        replace hW6 := Lib.hid hW6
        replace kz := Lib.hid kz
        replace B := Lib.hid (Below.trans B.out (Below.mono al (Below.size B.out)))
        replace P := Lib.hid (PRow.below P.out al)
        replace kp := Lib.hid (blk_below kp.out al)
        replace V := Lib.hid (Row.below V.out al)
        replace X := Lib.hid (PRow.below X.out al)
        replace XV := Lib.hid (Row.below XV.out al)
        replace kx := Lib.hid (blk_below kx.out al)
        replace Y := Lib.hid (PRow.below Y.out al)
        replace YV := Lib.hid (Row.below YV.out al)
        replace ky := Lib.hid (blk_below ky.out al)
        replace Z := Lib.hid (PRow.below Z.out al)
        clear al
        go_upto_region 13 with fail
        rw [hW6.out]
        clear hW6
        obtain ⟨kp_0, kp_1, kp_2, kp_3, kp_4⟩ := blk5 kp.out
        have l_kp := blk_lt kp.out
        have hmk : ∀ W : World, (Instr.makeSlice 39 (.int .i64 (p.rules.length : Int)) (.int .i64 (p.rules.length : Int))).run Try.prog W = .ok (.slice (some ⟨W.heap.size, 0, none⟩) p.rules.length p.rules.length) (W.alloc (.cells (madeCells #[.int .i64 0] p.rules.length) 3)) := fun W => by have := make_run EI p.rules.length p.rules.length (Nat.le_refl _) (by omega) (by simp only [maxLen]; omega) W; rwa [Nat.mul_one] at this
        have oz := zeros_made W6 3 p.rules.length (by omega)
        rw [Nat.mul_one] at oz
        obtain ⟨W7, hW7⟩ : ∃ W, W6.alloc (.cells (madeCells #[.int .i64 0] p.rules.length) 3) = W := ⟨_, rfl⟩
        have bm : Below W6.heap.size W6 W7 := by rw [← hW7]; exact (Below.refl W6.heap.size W6).alloc (Nat.le_refl _) _
        rw [hW7] at oz
        have N : Hid (Row W7 (.slice (some ⟨W6.heap.size, 0, none⟩) p.rules.length p.rules.length) 1 (List.replicate p.rules.length (0 : Int)).length (ints (List.replicate p.rules.length 0))) := Lib.hid (by rw [List.length_replicate]; exact row_of_owns oz)
        replace hW7 := Lib.hid hW7
        clear oz
        replace B := Lib.hid (Below.trans B.out (Below.mono bm (Below.size B.out)))
        replace P := Lib.hid (PRow.below P.out bm)
        replace kp := Lib.hid (blk_below kp.out bm)
        replace V := Lib.hid (Row.below V.out bm)
        replace X := Lib.hid (PRow.below X.out bm)
        replace XV := Lib.hid (Row.below XV.out bm)
        replace kx := Lib.hid (blk_below kx.out bm)
        replace Y := Lib.hid (PRow.below Y.out bm)
        replace YV := Lib.hid (Row.below YV.out bm)
        replace ky := Lib.hid (blk_below ky.out bm)
        replace Z := Lib.hid (PRow.below Z.out bm)
        replace kz := Lib.hid (blk_below kz.out bm)
        clear bm
        have hpo := Lib.hid (rt_ok hR)
        have hp1 := Lib.hid (all_ok hR)
        have hp2 := Lib.hid (all_ties hR)
        have hp3 := Lib.hid (none_ties hR)
        have hp4 := Lib.hid (count_two hR)
        have hsy : Hid (∀ x ∈ py.chunks, x.t.size ≤ 1099511627776) := Lib.hid fun x hx => by have := hY.texts x hx; omega
        have hsz : Hid (∀ x ∈ pz.chunks, x.t.size ≤ 1099511627776) := Lib.hid fun x hx => by have := hZ.texts x hx; omega
        have hz10 : pz.rules.length ≤ 1048576 := by have := hZ.rules; omega
        replace hR := Lib.hid hR
        replace hX := Lib.hid hX
        replace hY := Lib.hid hY
        replace hZ := Lib.hid hZ
        obtain ⟨g1, hg1⟩ : ∃ b, valuesOk px xs = b := ⟨_, rfl⟩
        have dg1 : (g1 == g1) = true := by simp
        replace hg1 := Lib.hid hg1
        obtain ⟨g2, hg2⟩ : ∃ b, tiesHold px xs = b := ⟨_, rfl⟩
        have dg2 : (g2 == g2) = true := by simp
        replace hg2 := Lib.hid hg2
        obtain ⟨g3, hg3⟩ : ∃ b, splitsAt py ys iy = b := ⟨_, rfl⟩
        have dg3 : (g3 == g3) = true := by simp
        replace hg3 := Lib.hid hg3
        obtain ⟨g4, hg4⟩ : ∃ b, pieceOk pz = b := ⟨_, rfl⟩
        have dg4 : (g4 == g4) = true := by simp
        replace hg4 := Lib.hid hg4
        obtain ⟨g5, hg5⟩ : ∃ b, countOf pz = b := ⟨_, rfl⟩
        have dg5 : (g5 == g5) = true := by simp
        replace hg5 := Lib.hid hg5
        obtain ⟨g6, hg6⟩ : ∃ b, countOf p = b := ⟨_, rfl⟩
        rw [hg6] at hp4
        have d6 : decide ((2 : Int) ≤ g6) = true := decide_eq_true hp4.out
        have d6b : decide (g6 ≥ (2 : Int)) = true := decide_eq_true hp4.out
        replace hg6 := Lib.hid hg6
        go_upto_region 14 with fail
        rw [hW7.out]
        clear hW7 hmk
        clear kp_0 kp_1 kp_2 kp_3 kp_4 l_kp
        obtain ⟨kp_0, kp_1, kp_2, kp_3, kp_4⟩ := blk5 kp.out
        have l_kp := blk_lt kp.out
        obtain ⟨kx_0, kx_1, kx_2, kx_3, kx_4⟩ := blk5 kx.out
        have l_kx := blk_lt kx.out
        obtain ⟨ky_0, ky_1, ky_2, ky_3, ky_4⟩ := blk5 ky.out
        have l_ky := blk_lt ky.out
        obtain ⟨kz_0, kz_1, kz_2, kz_3, kz_4⟩ := blk5 kz.out
        have l_kz := blk_lt kz.out
        refine wp_region_below3 [(0, true), (1, false), (2, true), (3, true), (4, true), (5, false), (6, true), (7, true), (8, true), (9, true), (10, false), (11, true), (12, true), (13, true), (14, true), (15, false), (16, true), (17, true), (18, true), (19, true), (21, true), (22, true), (20, false), (23, false), (24, true), (25, true), (26, true), (27, true), (28, true), (30, true), (31, true), (29, false), (32, false), (33, true), (34, true), (35, true), (36, true), (37, true), (38, true), (40, true), (41, true), (42, true), (39, false), (43, false), (44, true), (45, true), (46, true), (47, true), (49, true), (48, false), (50, false), (51, true), (52, true), (53, true), (54, true), (56, true), (55, false), (57, false), (58, true), (59, true), (60, true), (61, true), (62, false), (63, true), (64, true), (65, true), (66, true), (68, true), (67, false), (69, false), (70, false), (71, false), (72, false)] (by kernel_rfl) (by kernel_rfl) (fun d _ _ _ _ h => by cases d <;> exact h) ?_
        have b0 := to_drew W7 W7.heap.size
        repeat
         (refine mix3_still rfl (by rfl) ?_
          apply Exists.intro
          refine ⟨fun w' hS => ?_, ?_⟩
          · (have hS' := cells_of hS; clear hS; go_simp; (try go_bits); first | with_reducible rfl | (refine (if_pos ?_).trans ?_; omega; with_reducible rfl))
          (go_simp; (try go_bits)))
        have hc := impl_PieceOk (P.out.below b0) hst.out
        rw [hpo.out] at hc
        refine mix3_loud rfl (fun K hK => ?_)
        (go_simp; (try go_bits))
        refine hc.mono ?_
        clear hc
        rintro _ v1 ⟨rfl, r1⟩
        have b1 := b0.trans (r1.mono b0.size)
        refine hK _ _ b1 ?_
        clear hK K
        (go_simp; (try go_bits))
        repeat
         (refine mix3_still rfl (by rfl) ?_
          apply Exists.intro
          refine ⟨fun w' hS => ?_, ?_⟩
          · (have hS' := cells_of hS; clear hS; go_simp; (try go_bits); first | with_reducible rfl | (refine (if_pos ?_).trans ?_; omega; with_reducible rfl))
          (go_simp; (try go_bits)))
        have hc := impl_ValuesOk (P.out.below b1) (V.out.below b1)
        rw [hp1.out] at hc
        refine mix3_loud rfl (fun K hK => ?_)
        (go_simp; (try go_bits))
        refine hc.mono ?_
        clear hc
        rintro _ v2 ⟨rfl, r2⟩
        have b2 := b1.trans (r2.mono b1.size)
        refine hK _ _ b2 ?_
        clear hK K
        (go_simp; (try go_bits))
        repeat
         (refine mix3_still rfl (by rfl) ?_
          apply Exists.intro
          refine ⟨fun w' hS => ?_, ?_⟩
          · (have hS' := cells_of hS; clear hS; go_simp; (try go_bits); first | with_reducible rfl | (refine (if_pos ?_).trans ?_; omega; with_reducible rfl))
          (go_simp; (try go_bits)))
        have hc := impl_TiesHold (P.out.below b2) (V.out.below b2)
        rw [hp2.out] at hc
        refine mix3_loud rfl (fun K hK => ?_)
        (go_simp; (try go_bits))
        refine hc.mono ?_
        clear hc
        rintro _ v3 ⟨rfl, r3⟩
        have b3 := b2.trans (r3.mono b2.size)
        refine hK _ _ b3 ?_
        clear hK K
        (go_simp; (try go_bits))
        repeat
         (refine mix3_still rfl (by rfl) ?_
          apply Exists.intro
          refine ⟨fun w' hS => ?_, ?_⟩
          · (have hS' := cells_of hS; clear hS; go_simp; (try go_bits); first | with_reducible rfl | (refine (if_pos ?_).trans ?_; omega; with_reducible rfl))
          (go_simp; (try go_bits)))
        have hc := impl_TiesHold (P.out.below b3) (N.out.below b3)
        rw [hp3.out] at hc
        refine mix3_loud rfl (fun K hK => ?_)
        (go_simp; (try go_bits))
        refine hc.mono ?_
        clear hc
        rintro _ v4 ⟨rfl, r4⟩
        have b4 := b3.trans (r4.mono b3.size)
        refine hK _ _ b4 ?_
        clear hK K
        (go_simp; (try go_bits))
        repeat
         (refine mix3_still rfl (by rfl) ?_
          apply Exists.intro
          refine ⟨fun w' hS => ?_, ?_⟩
          · (have hS' := cells_of hS; clear hS; go_simp; (try go_bits); first | with_reducible rfl | (refine (if_pos ?_).trans ?_; omega; with_reducible rfl))
          (go_simp; (try go_bits)))
        have hc := impl_ValuesOk (X.out.below b4) (XV.out.below b4)
        rw [hg1.out] at hc
        refine mix3_loud rfl (fun K hK => ?_)
        (go_simp; (try go_bits))
        refine hc.mono ?_
        clear hc
        rintro _ v5 ⟨rfl, r5⟩
        have b5 := b4.trans (r5.mono b4.size)
        refine hK _ _ b5 ?_
        clear hK K
        (go_simp; (try go_bits))
        repeat
         (refine mix3_still rfl (by rfl) ?_
          apply Exists.intro
          refine ⟨fun w' hS => ?_, ?_⟩
          · (have hS' := cells_of hS; clear hS; go_simp; (try go_bits); first | with_reducible rfl | (refine (if_pos ?_).trans ?_; omega; with_reducible rfl))
          (go_simp; (try go_bits)))
        have hc := spec_ValuesOk (X.out.below b5) (XV.out.below b5)
        rw [hg1.out] at hc
        refine mix3_loud rfl (fun K hK => ?_)
        (go_simp; (try go_bits))
        refine hc.mono ?_
        clear hc
        rintro _ v6 ⟨rfl, r6⟩
        have b6 := b5.trans (r6.mono b5.size)
        refine hK _ _ b6 ?_
        clear hK K
        (go_simp; (try go_bits))
        repeat
         (refine mix3_still rfl (by rfl) ?_
          apply Exists.intro
          refine ⟨fun w' hS => ?_, ?_⟩
          · (have hS' := cells_of hS; clear hS; go_simp; (try go_bits); first | with_reducible rfl | (refine (if_pos ?_).trans ?_; omega; with_reducible rfl))
          (go_simp; (try go_bits)))
        have hc := impl_TiesHold (X.out.below b6) (XV.out.below b6)
        rw [hg2.out] at hc
        refine mix3_loud rfl (fun K hK => ?_)
        (go_simp; (try go_bits))
        refine hc.mono ?_
        clear hc
        rintro _ v7 ⟨rfl, r7⟩
        have b7 := b6.trans (r7.mono b6.size)
        refine hK _ _ b7 ?_
        clear hK K
        (go_simp; (try go_bits))
        repeat
         (refine mix3_still rfl (by rfl) ?_
          apply Exists.intro
          refine ⟨fun w' hS => ?_, ?_⟩
          · (have hS' := cells_of hS; clear hS; go_simp; (try go_bits); first | with_reducible rfl | (refine (if_pos ?_).trans ?_; omega; with_reducible rfl))
          (go_simp; (try go_bits)))
        have hc := spec_TiesHold (X.out.below b7) (XV.out.below b7)
        rw [hg2.out] at hc
        refine mix3_loud rfl (fun K hK => ?_)
        (go_simp; (try go_bits))
        refine hc.mono ?_
        clear hc
        rintro _ v8 ⟨rfl, r8⟩
        have b8 := b7.trans (r8.mono b7.size)
        refine hK _ _ b8 ?_
        clear hK K
        (go_simp; (try go_bits))
        repeat
         (refine mix3_still rfl (by rfl) ?_
          apply Exists.intro
          refine ⟨fun w' hS => ?_, ?_⟩
          · (have hS' := cells_of hS; clear hS; go_simp; (try go_bits); first | with_reducible rfl | (refine (if_pos ?_).trans ?_; omega; with_reducible rfl))
          (go_simp; (try go_bits)))
        have hc := impl_SplitsAt (Y.out.below b8) (YV.out.below b8) hsy.out iy
        rw [hg3.out] at hc
        refine mix3_loud rfl (fun K hK => ?_)
        (go_simp; (try go_bits))
        refine hc.mono ?_
        clear hc
        rintro _ v9 ⟨rfl, r9⟩
        have b9 := b8.trans (r9.mono b8.size)
        refine hK _ _ b9 ?_
        clear hK K
        (go_simp; (try go_bits))
        repeat
         (refine mix3_still rfl (by rfl) ?_
          apply Exists.intro
          refine ⟨fun w' hS => ?_, ?_⟩
          · (have hS' := cells_of hS; clear hS; go_simp; (try go_bits); first | with_reducible rfl | (refine (if_pos ?_).trans ?_; omega; with_reducible rfl))
          (go_simp; (try go_bits)))
        have hc := spec_SplitsAt (Y.out.below b9) (YV.out.below b9) hsy.out iy
        rw [hg3.out] at hc
        refine mix3_loud rfl (fun K hK => ?_)
        (go_simp; (try go_bits))
        refine hc.mono ?_
        clear hc
        rintro _ v10 ⟨rfl, r10⟩
        have b10 := b9.trans (r10.mono b9.size)
        refine hK _ _ b10 ?_
        clear hK K
        (go_simp; (try go_bits))
        repeat
         (refine mix3_still rfl (by rfl) ?_
          apply Exists.intro
          refine ⟨fun w' hS => ?_, ?_⟩
          · (have hS' := cells_of hS; clear hS; go_simp; (try go_bits); first | with_reducible rfl | (refine (if_pos ?_).trans ?_; omega; with_reducible rfl))
          (go_simp; (try go_bits)))
        have hc := impl_PieceOk (Z.out.below b10) hsz.out
        rw [hg4.out] at hc
        refine mix3_loud rfl (fun K hK => ?_)
        (go_simp; (try go_bits))
        refine hc.mono ?_
        clear hc
        rintro _ v11 ⟨rfl, r11⟩
        have b11 := b10.trans (r11.mono b10.size)
        refine hK _ _ b11 ?_
        clear hK K
        (go_simp; (try go_bits))
        repeat
         (refine mix3_still rfl (by rfl) ?_
          apply Exists.intro
          refine ⟨fun w' hS => ?_, ?_⟩
          · (have hS' := cells_of hS; clear hS; go_simp; (try go_bits); first | with_reducible rfl | (refine (if_pos ?_).trans ?_; omega; with_reducible rfl))
          (go_simp; (try go_bits)))
        have hc := spec_PieceOk (Z.out.below b11) hsz.out
        rw [hg4.out] at hc
        refine mix3_loud rfl (fun K hK => ?_)
        (go_simp; (try go_bits))
        refine hc.mono ?_
        clear hc
        rintro _ v12 ⟨rfl, r12⟩
        have b12 := b11.trans (r12.mono b11.size)
        refine hK _ _ b12 ?_
        clear hK K
        (go_simp; (try go_bits))
        repeat
         (refine mix3_still rfl (by rfl) ?_
          apply Exists.intro
          refine ⟨fun w' hS => ?_, ?_⟩
          · (have hS' := cells_of hS; clear hS; go_simp; (try go_bits); first | with_reducible rfl | (refine (if_pos ?_).trans ?_; omega; with_reducible rfl))
          (go_simp; (try go_bits)))
        have hc := impl_CountOf (Z.out.below b12)
        rw [hg5.out] at hc
        refine mix3_loud rfl (fun K hK => ?_)
        (go_simp; (try go_bits))
        refine hc.mono ?_
        clear hc
        rintro _ v13 ⟨rfl, r13⟩
        have b13 := b12.trans (r13.mono b12.size)
        refine hK _ _ b13 ?_
        clear hK K
        (go_simp; (try go_bits))
        repeat
         (refine mix3_still rfl (by rfl) ?_
          apply Exists.intro
          refine ⟨fun w' hS => ?_, ?_⟩
          · (have hS' := cells_of hS; clear hS; go_simp; (try go_bits); first | with_reducible rfl | (refine (if_pos ?_).trans ?_; omega; with_reducible rfl))
          (go_simp; (try go_bits)))
        have hc := spec_CountOf (Z.out.below b13)
        rw [hg5.out] at hc
        refine mix3_loud rfl (fun K hK => ?_)
        (go_simp; (try go_bits))
        refine hc.mono ?_
        clear hc
        rintro _ v14 ⟨rfl, r14⟩
        have b14 := b13.trans (r14.mono b13.size)
        refine hK _ _ b14 ?_
        clear hK K
        (go_simp; (try go_bits))
        repeat
         (refine mix3_still rfl (by rfl) ?_
          apply Exists.intro
          refine ⟨fun w' hS => ?_, ?_⟩
          · (have hS' := cells_of hS; clear hS; go_simp; (try go_bits); first | with_reducible rfl | (refine (if_pos ?_).trans ?_; omega; with_reducible rfl))
          (go_simp; (try go_bits)))
        have hc := impl_CountOf (P.out.below b14)
        rw [hg6.out] at hc
        refine mix3_loud rfl (fun K hK => ?_)
        (go_simp; (try go_bits))
        refine hc.mono ?_
        clear hc
        rintro _ v15 ⟨rfl, r15⟩
        have b15 := b14.trans (r15.mono b14.size)
        refine hK _ _ b15 ?_
        clear hK K
        (go_simp; (try go_bits))
        repeat
         (refine mix3_still rfl (by rfl) ?_
          apply Exists.intro
          refine ⟨fun w' hS => ?_, ?_⟩
          · (have hS' := cells_of hS; clear hS; go_simp; (try go_bits); first | with_reducible rfl | (refine (if_pos ?_).trans ?_; omega; with_reducible rfl))
          (go_simp; (try go_bits)))
        have hc := impl_AllSplit (Z.out.below b15) hz10
        refine mix3_loud rfl (fun K hK => ?_)
        (go_simp; (try go_bits))
        refine hc.mono ?_
        clear hc
        rintro _ v16 ⟨v1, rfl, o1, r16⟩
        have b16 := b15.trans (r16.mono b15.size)
        refine hK _ _ b16 ?_
        clear hK K
        (go_simp; (try go_bits))
        repeat
         (refine mix3_still rfl (by rfl) ?_
          apply Exists.intro
          refine ⟨fun w' hS => ?_, ?_⟩
          · (have hS' := cells_of hS; clear hS; go_simp; (try go_bits); first | with_reducible rfl | (refine (if_pos ?_).trans ?_; omega; with_reducible rfl))
          (go_simp; (try go_bits)))
        have hc := spec_AllSplit (Z.out.below b16) hz10
        refine mix3_loud rfl (fun K hK => ?_)
        (go_simp; (try go_bits))
        refine hc.mono ?_
        clear hc
        rintro _ v17 ⟨v2, rfl, o2, r17⟩
        have b17 := b16.trans (r17.mono b16.size)
        refine hK _ _ b17 ?_
        clear hK K
        (go_simp; (try go_bits))
        repeat
         (refine mix3_still rfl (by rfl) ?_
          apply Exists.intro
          refine ⟨fun w' hS => ?_, ?_⟩
          · (have hS' := cells_of hS; clear hS; go_simp; (try go_bits); first | with_reducible rfl | (refine (if_pos ?_).trans ?_; omega; with_reducible rfl))
          (go_simp; (try go_bits)))
        have hc := same_self (row_of_owns (own_below o1 r17)) (row_of_owns o2)
        refine mix3_loud rfl (fun K hK => ?_)
        (go_simp; (try go_bits))
        refine hc.mono ?_
        clear hc
        rintro _ v18 ⟨rfl, r18⟩
        have b18 := b17.trans (r18.mono b17.size)
        refine hK _ _ b18 ?_
        clear hK K
        (go_simp; (try go_bits))
        refine mix3_loud rfl (fun K hK => ?_)
        (go_simp; (try go_bits))
        refine hK _ _ b18 ?_
        clear hK K
        try (go_simp; (try go_bits))
        refine mix3_loud rfl (fun K hK => ?_)
        (go_simp; (try go_bits))
        refine hK _ _ b18 ?_
        clear hK K
        try (go_simp; (try go_bits))
        refine mix3_nil ?_
        go_wp2
        go_ret
        exact ⟨rfl, B.out.trans (b18.mono B.out.size)⟩
  · have d0 : decide ((1048576 : Int) < (bs.length : Int)) = true := by simp; omega
    go_enter Try.func14, Try.ntmps14
    go_wp2_with fail
    refine (big_any h).mono ?_
    rintro e w0 ⟨rfl, rfl⟩
    go_wp2
    go_ret
    exact ⟨rfl, Below.refl _ _⟩
set_option maxRecDepth 100000 in
theorem walk (v0 : Value) {base : Nat} {w : World} (o0 : Value.okWide Try.prog w .any base 63 v0) {H : Type} {enc : TypeId × Value → H} {d0 : DataW H} {p0 : List MemPlace} (h0 : DataW.Trod enc Try.prog w 0 (fun _ => true) true 63 v0 d0 p0) :
    Calls Try.prog 14 #[v0] w fun e w' => e = .returned (.bool true) ∧ Below w.heap.size w w' := by
  obtain ⟨xs, hx, hw⟩ := Args.row_ints Try.underlying63 Try.underlying5 cellsB o0 h0
  exact walkN ⟨hx, fun x hx => by have := hw x hx; simp [Lit.wf, IntKind.min, IntKind.max, IntKind.signed, IntKind.bits] at this; omega⟩
theorem own : ownKnob Try.prog.godebug = none := by kernel_rfl
theorem laidOut : laidOutB Try.prog = true := by kernel_rfl
set_option maxRecDepth 100000 in
theorem lifted (os : Os) (started : os.Started) (H : Type) (enc : TypeId × Value → H) :
    ReturnsInHanded {} Try.checked os 14 .any (Rows.fnPiecesSpec.pre6 enc Try.prog Try.f14 Rows.fnPiecesRow.domain false) (Rows.fnPiecesSpec.post enc Try.prog Try.f14 false true false false) := by
  refine returnsInHanded_of_change (C := Try.checked) own started (by kernel_rfl) Try.func14
    (ChangeSpec.witness6 (enc := enc) (C := Try.checked) false ⟨#[], #[.slice none 0 0], []⟩ 8 (by kernel_rfl) (by kernel_rfl) (by kernel_rfl) (by kernel_rfl)) ?_
  intro W base args ds gs before hval0 hW hcnd _
  have hval : ∀ (j : Nat) t v, Try.f14.params[j]? = some t → args[j]? = some v → Value.okWide Try.prog W .any base t v := hval0
  have hW' := hW
  obtain ⟨p, q, hA0, hV, rfl, hfz, hnd⟩ := hW
  have hA : DataW.TrodAll enc Try.prog W 0 (fun _ => true) true Try.f14.params.toList args.toList ds p := hA0
  rw [Try.params14] at hA hval
  obtain ⟨v0, vs0, d0, ds0, p0, q0, hargs, rfl, rfl, h0, r0⟩ := trodAll_cons hA
  obtain ⟨rfl, rfl, rfl⟩ := trodAll_nil r0
  obtain rfl : args = #[v0] := by cases args; simp_all
  obtain ⟨rfl, rfl⟩ := trodVars_none hV
  have k0 := h0
  have o0 := hval 0 63 v0 rfl rfl
  clear hA0 hval0
  simp only [List.append_nil] at hW'
  have hlt := fun x hx => DataW.Whole.lt hW' x hx
  refine (walk v0 o0 h0).mono fun e W' ⟨he, hg⟩ => ?_
  subst he
  exact ⟨_, rfl, Post.post_of_below (pa := p0 ++ ([])) (pv := []) hW' (fun _ _ _ => (trodAll_cons_mk (shut_bool Try.underlying4 _) trodAll_mk0)) (fun sp hsp => (trodAll_cons_mk (Post.stays laidOut (by kernel_rfl) (of_decide_eq_true (by kernel_rfl)) k0 hg (fun x hx => by first | (cases hx; done) | simp [hx]) hlt hsp) trodAll_mk0)) (fun _ _ => rfl) (by simp)
    hg (ok_one (by kernel_rfl) rfl (okWide_bool_mk Try.underlying4 _))⟩

theorem over : Rows.fnPiecesRow.holds Try.pinned (OpenSpec.ofChange Rows.fnPiecesSpec) :=
  OpenClaim.holds_of_wide 14 Try.f14 rfl rfl rfl rfl rfl rfl rfl ⟨rfl, rfl, rfl, rfl, rfl⟩ rfl rfl rfl rfl rfl (by kernel_rfl) Try.func14 (by kernel_rfl)
    (of_decide_eq_true (by kernel_rfl)) (by unfold Func.isWrapper; first | (rw [if_pos (by decide +kernel)]; kernel_rfl) | (rw [if_neg (by decide +kernel)]; exact ⟨rfl, rfl⟩))
    (fun os started H enc _ => lifted os started H enc)

/-- THE STATEMENT -/
theorem proved : Rows.FnPiecesSaid :=
  over
end Go.Proofs.Ytlakellmdcdaaaa.lawPieces
