/-
  FnBest: the cheapest is no dearer than any that may be, and stands ahead of all that are alike.
  Conditions: none beyond the statement's own.
-/
import Derived.Test.YtlakellmdcdaaaaRows
import Derived.Test.YtlakellmdcdaaaaPair
import Derived.Test.YtlakellmdcdaaaaRt
import Derived.Test.YtlakellmdcdaaaaPc15
import Derived.Test.YtlakellmdcdaaaaArgs
import Derived.Test.YtlakellmdcdaaaaMix3
import Derived.Test.YtlakellmdcdaaaaPost
import Derived.WalkKit
import Derived.ProofKit
import Derived.OpenShut
namespace Go.Proofs.Ytlakellmdcdaaaa.lawBest
open Go.ChangeShapes Go.WideShapes Go.ChangeAt Go.RowKit Go.Proofs.Ytlakellmdcdaaaa.Mix Go.Proofs.Ytlakellmdcdaaaa.Row Go.Proofs.Ytlakellmdcdaaaa.Mem Go.Proofs.Ytlakellmdcdaaaa.Owns Go.Proofs.Ytlakellmdcdaaaa.Blocks Go.Proofs.Ytlakellmdcdaaaa.Draw Go.Proofs.Ytlakellmdcdaaaa.Piece Go.Proofs.Ytlakellmdcdaaaa.Pc Go.Proofs.Ytlakellmdcdaaaa.Ints Go.Proofs.Ytlakellmdcdaaaa.All Go.Proofs.Ytlakellmdcdaaaa.Compare
set_option linter.unusedVariables false
theorem cellsB : Try.prog.cellsOf 5 = 1 := by kernel_rfl

theorem tot_small {p : P} (hc : p.chunks.length ≤ 9) (ht : ∀ x ∈ p.chunks, x.t.size ≤ 11) : Strs.tot (Chunk.texts p.chunks) ≤ 1048576 := by
  have h : ∀ l : List Chunk.T, (∀ x ∈ l, x.t.size ≤ 11) → Strs.tot (Chunk.texts l) ≤ 11 * l.length := by
    intro l
    induction l with
    | nil => intro _; simp [Strs.tot]
    | cons a l ih =>
      intro hl
      have h1 := ih fun x hx => hl x (List.mem_cons_of_mem _ hx)
      have h2 := hl a (List.mem_cons_self ..)
      simp only [Strs.tot, Chunk.texts, List.map_cons, List.sum_cons, List.length_cons] at h1 ⊢
      omega
  have := h _ ht
  omega
theorem cost_at {p : P} (h : Rt p) {i : Nat} (hi : i < allN p) (x : Int) : cO p (seqv p i) x = overC p x (seqv p i) ∧ cS p (seqv p i) = sumOf p (seqv p i) :=
  ⟨if_pos ⟨rt_ok h, seqv_ok (rt_right h) hi⟩, if_pos ⟨rt_ok h, seqv_ok (rt_right h) hi⟩⟩
theorem ties_at {p : P} (h : Rt p) {i : Nat} (hi : i < allN p) : tiesHold p (seqv p i) = tiesOk p (seqv p i) := by
  unfold tiesHold
  rw [seqv_ok (rt_right h) hi]
  rfl
theorem next_at {p : P} (h : Rt p) {i : Nat} (hi : i < allN p) : nextOf p (seqv p i) = if i + 1 < allN p then (seqv p (i + 1), true) else ([], false) := by
  have hf := seqv_flag (rt_right h) hi
  unfold nextOf
  rw [seqv_len, hf, seqv_ok (rt_right h) hi]
  by_cases h1 : i + 1 < allN p
  · rw [if_pos ⟨rfl, decide_eq_true h1⟩, if_pos h1]; rfl
  · rw [if_neg (fun h2 => h1 (of_decide_eq_true h2.2)), if_neg h1]
theorem best_at {p : P} (h : Rt p) (x : Int) : ∃ b, b < allN p ∧ tiesOk p (seqv p b) = true ∧ bestOf p x = ⟨seqv p b, overC p x (seqv p b), sumOf p (seqv p b), true⟩ ∧
    ∀ j, j < allN p → (tiesOk p (seqv p j) && (Cost.less (overC p x (seqv p j)) (sumOf p (seqv p j)) (overC p x (seqv p b)) (sumOf p (seqv p b)) ||
      ((overC p x (seqv p j) == overC p x (seqv p b)) && (sumOf p (seqv p j) == sumOf p (seqv p b))) && decide (cmp (seqv p j) (seqv p b) < 0))) = false := by
  unfold bestOf
  rw [if_pos (rt_ok h)]
  exact best_all (rt_right h) x
set_option maxRecDepth 100000 in
set_option maxHeartbeats 12800000 in
theorem walkN {v : Value} {bs : List Int} {w : World} (h : Drawn w v bs) :
    Calls Try.prog 13 #[v] w fun e w' => e = .returned (.bool true) ∧ Below w.heap.size w w' := by
  obtain ⟨A0, c0, rfl, -⟩ := id h.1
  by_cases hb : bs.length ≤ 1048576
  · have d0 : decide ((1048576 : Int) < (bs.length : Int)) = false := by simp; omega
    replace h := Lib.hid h
    go_enter Try.func13, Try.ntmps13
    go_wp2_with fail
    refine (big_any h.out).mono ?_
    rintro e w0 ⟨rfl, rfl⟩
    have B := Lib.hid (Below.refl w.heap.size w)
    go_wp2_with fail
    refine (drawPiece_any (h.out.below B.out) hb).mono ?_
    rintro e w1 ⟨p, r, c, s, t, hR, rfl, hq, bw⟩
    replace B := Lib.hid (Below.trans B.out (Below.mono bw (Below.size B.out)))
    clear bw
    obtain ⟨A1p, m1p, rfl, -⟩ := row_of_owns (PQ.o1 hq)
    obtain ⟨A2p, m2p, rfl, -⟩ := row_of_owns (PQ.o2 hq)
    obtain ⟨A3p, m3p, rfl, -⟩ := row_of_owns (PQ.o3 hq)
    obtain ⟨A4p, m4p, rfl, -⟩ := row_of_owns (PQ.o4 hq)
    obtain ⟨n5, -, n1, n9, -, -, nt⟩ := rt_small hR
    have P := Lib.hid hq.row
    have htot := Lib.hid (tot_small n9 nt)
    clear hq nt n1 n9
    have al := (Below.refl w1.heap.size w1).alloc (Nat.le_refl _) (.cells #[.int .i64 p.ind, .slice A1p p.rules.length m1p, .slice A2p p.chunks.length m2p, .slice A3p p.spans.length m3p, .slice A4p p.ties.length m4p] 35)
    have kp := heap_alloc_new w1 (.cells #[.int .i64 p.ind, .slice A1p p.rules.length m1p, .slice A2p p.chunks.length m2p, .slice A3p p.spans.length m3p, .slice A4p p.ties.length m4p] 35)
    obtain ⟨W1, hW1⟩ : ∃ W, w1.alloc (.cells #[.int .i64 p.ind, .slice A1p p.rules.length m1p, .slice A2p p.chunks.length m2p, .slice A3p p.spans.length m3p, .slice A4p p.ties.length m4p] 35) = W := ⟨_, rfl⟩
    rw [hW1] at al kp
    replace hW1 := Lib.hid hW1
    replace kp := Lib.hid kp
    replace B := Lib.hid (Below.trans B.out (Below.mono al (Below.size B.out)))
    replace P := Lib.hid (PRow.below P.out al)
    clear al
    go_upto_region 4 with fail
    rw [hW1.out]
    clear hW1
    go_wp2_with fail
    refine (drawWidth_any (h.out.below B.out) hb).mono ?_
    rintro e w2 ⟨x, rfl, bw⟩
    replace B := Lib.hid (Below.trans B.out (Below.mono bw (Below.size B.out)))
    replace P := Lib.hid (PRow.below P.out bw)
    replace kp := Lib.hid (blk_below kp.out bw)
    clear bw
    obtain ⟨b0, hb0, htb, hbest, hall⟩ := best_at hR x
    have hc := impl_BestOf P.out htot.out x
    rw [hbest] at hc
    dsimp only at hc
    have hcb := cost_at hR hb0 x
    have htb2 := (ties_at hR hb0).trans htb
    have hly := seqv_len p b0
    obtain ⟨ys, hys⟩ : ∃ ys, seqv p b0 = ys := ⟨_, rfl⟩
    rw [hys] at hc hall hcb htb2 hly
    obtain ⟨ob, hob⟩ : ∃ o, overC p x ys = o := ⟨_, rfl⟩
    obtain ⟨sb, hsb⟩ : ∃ s, sumOf p ys = s := ⟨_, rfl⟩
    rw [hob, hsb] at hc hcb
    rw [hob, hsb] at hall
    replace hall := Lib.hid hall
    replace hcb := Lib.hid hcb
    replace htb2 := Lib.hid htb2
    replace hly := Lib.hid hly
    replace hob := Lib.hid hob
    replace hsb := Lib.hid hsb
    replace hys := Lib.hid hys
    clear hbest htb hb0
    replace hc := Lib.hid hc
    obtain ⟨kp_0, kp_1, kp_2, kp_3, kp_4⟩ := blk5 kp.out
    have l_kp := blk_lt kp.out
    go_wp2_with fail
    refine hc.out.mono ?_
    rintro e w3 ⟨vb, rfl, oB, bw⟩
    clear hc
    clear kp_0 kp_1 kp_2 kp_3 kp_4 l_kp
    replace B := Lib.hid (Below.trans B.out (Below.mono bw (Below.size B.out)))
    replace P := Lib.hid (PRow.below P.out bw)
    replace kp := Lib.hid (blk_below kp.out bw)
    clear bw
    obtain ⟨Ab, cb, rfl, -⟩ := row_of_owns oB
    have VB := Lib.hid (row_of_owns oB)
    clear oB
    have al := (Below.refl w3.heap.size w3).alloc (Nat.le_refl _) (.cells #[.int .i64 ob, .int .i64 sb] 57)
    have q6 := heap_alloc_new w3 (.cells #[.int .i64 ob, .int .i64 sb] 57)
    obtain ⟨W3, hW3⟩ : ∃ W, w3.alloc (.cells #[.int .i64 ob, .int .i64 sb] 57) = W := ⟨_, rfl⟩
    rw [hW3] at al q6
    replace hW3 := Lib.hid hW3
    replace q6 := Lib.hid q6
    replace B := Lib.hid (Below.trans B.out (Below.mono al (Below.size B.out)))
    replace P := Lib.hid (PRow.below P.out al)
    replace kp := Lib.hid (blk_below kp.out al)
    replace VB := Lib.hid (Row.below VB.out al)
    clear al
    go_upto_region 6 with fail
    rw [hW3.out]
    clear hW3
    have hal := allN_le hR
    have hpos := allN_pos (rt_right hR)
    obtain ⟨N, hN⟩ : ∃ N, allN p = N := ⟨_, rfl⟩
    have hcN : Hid (countOf p = (N : Int)) := Lib.hid (by rw [← hN]; exact count_all (rt_right hR))
    rw [hN] at hal hpos
    replace hN := Lib.hid hN
    obtain ⟨kp_0, kp_1, kp_2, kp_3, kp_4⟩ := blk5 kp.out
    have l_kp := blk_lt kp.out
    have hmk : ∀ W : World, (Instr.makeSlice 39 (.int .i64 (p.rules.length : Int)) (.int .i64 (p.rules.length : Int))).run Try.prog W = .ok (.slice (some ⟨W.heap.size, 0, none⟩) p.rules.length p.rules.length) (W.alloc (.cells (madeCells #[.int .i64 0] p.rules.length) 3)) := fun W => by have := make_run EI p.rules.length p.rules.length (Nat.le_refl _) (by omega) (by simp only [maxLen]; omega) W; rwa [Nat.mul_one] at this
    have oz := zeros_made W3 3 p.rules.length (by omega)
    rw [Nat.mul_one] at oz
    obtain ⟨W7, hW7⟩ : ∃ W, W3.alloc (.cells (madeCells #[.int .i64 0] p.rules.length) 3) = W := ⟨_, rfl⟩
    have bm : Below W3.heap.size W3 W7 := by rw [← hW7]; exact (Below.refl W3.heap.size W3).alloc (Nat.le_refl _) _
    rw [hW7] at oz
    have V : Hid (Row W7 (.slice (some ⟨W3.heap.size, 0, none⟩) (seqv p 0).length p.rules.length) 1 (seqv p 0).length (ints (seqv p 0))) := Lib.hid (by rw [seqv_len]; exact row_of_owns oz)
    have hl0 : Hid ((seqv p 0).length = p.rules.length) := Lib.hid (seqv_len p 0)
    replace hW7 := Lib.hid hW7
    clear oz
    replace B := Lib.hid (Below.trans B.out (Below.mono bm (Below.size B.out)))
    replace P := Lib.hid (PRow.below P.out bm)
    replace kp := Lib.hid (blk_below kp.out bm)
    replace VB := Lib.hid (Row.below VB.out bm)
    replace q6 := Lib.hid (blk_below q6.out bm)
    clear bm
    go_wp2
    rw [hW7.out]
    clear hW7 hmk
    clear kp_0 kp_1 kp_2 kp_3 kp_4 l_kp
    go_loopw [8, 9, 10] (fun v n m wr => ∃ (i : Nat) (us : List Int) (A : Option Addr) (c : Nat) (b : Bool), i ≤ N ∧ n = .int .i64 i ∧ m = .bool b ∧ v = .slice A us.length c ∧ Hid (b = decide (i < N)) ∧ Hid (i < N → us = seqv p i) ∧ Hid (Row wr (.slice A us.length c) 1 us.length (ints us)) ∧ Hid (Below w.heap.size w wr) ∧ Hid (PRow wr p (.slice A1p p.rules.length m1p) (.slice A2p p.chunks.length m2p) (.slice A3p p.spans.length m3p) (.slice A4p p.ties.length m4p)) ∧ Hid (wr.heap[w1.heap.size]? = some (.cells #[.int .i64 p.ind, .slice A1p p.rules.length m1p, .slice A2p p.chunks.length m2p, .slice A3p p.spans.length m3p, .slice A4p p.ties.length m4p] 35 (0, 0))) ∧ Hid (Row wr (.slice Ab ys.length cb) 1 ys.length (ints ys)) ∧ Hid (wr.heap[w3.heap.size]? = some (.cells #[.int .i64 ob, .int .i64 sb] 57 (0, 0)))) (fun _ n _ _ => N + 1 - (intOf n).toNat)
    case atStart => exact ⟨0, seqv p 0, _, _, true, by omega, rfl, rfl, by rw [hl0.out], Lib.hid (decide_eq_true hpos).symm, Lib.hid fun _ => rfl, V, B, P, kp, VB, q6⟩
    case round =>
      clear B P kp VB q6 V
      obtain ⟨i, us, A, c, b, hi, rfl, rfl, rfl, hbd, hus, V, B, P, kp, VB, q6⟩ := hrel
      cases b
      · skip
        have hiN : i = N := by have h0 := hbd.out; have h1 := of_decide_eq_false h0.symm; omega
        subst hiN
        clear hus V hbd
        go_wp2_with fail
        refine (drawBestOf_any (h.out.below B.out) hb).mono ?_
        rintro e w4 ⟨py, ry, cy, sy, ty, m, hY, rfl, hq, bw⟩
        replace B := Lib.hid (Below.trans B.out (Below.mono bw (Below.size B.out)))
        replace P := Lib.hid (PRow.below P.out bw)
        replace kp := Lib.hid (blk_below kp.out bw)
        replace VB := Lib.hid (Row.below VB.out bw)
        replace q6 := Lib.hid (blk_below q6.out bw)
        clear bw
        obtain ⟨A1y, m1y, rfl, -⟩ := row_of_owns (PQ.o1 hq)
        obtain ⟨A2y, m2y, rfl, -⟩ := row_of_owns (PQ.o2 hq)
        obtain ⟨A3y, m3y, rfl, -⟩ := row_of_owns (PQ.o3 hq)
        obtain ⟨A4y, m4y, rfl, -⟩ := row_of_owns (PQ.o4 hq)
        have Y := Lib.hid hq.row
        have hty := Lib.hid (tot_small hY.chunks hY.texts)
        clear hq hY
        have al := (Below.refl w4.heap.size w4).alloc (Nat.le_refl _) (.cells #[.int .i64 py.ind, .slice A1y py.rules.length m1y, .slice A2y py.chunks.length m2y, .slice A3y py.spans.length m3y, .slice A4y py.ties.length m4y] 35)
        have ky := heap_alloc_new w4 (.cells #[.int .i64 py.ind, .slice A1y py.rules.length m1y, .slice A2y py.chunks.length m2y, .slice A3y py.spans.length m3y, .slice A4y py.ties.length m4y] 35)
        obtain ⟨W4, hW4⟩ : ∃ W, w4.alloc (.cells #[.int .i64 py.ind, .slice A1y py.rules.length m1y, .slice A2y py.chunks.length m2y, .slice A3y py.spans.length m3y, .slice A4y py.ties.length m4y] 35) = W := ⟨_, rfl⟩
        rw [hW4] at al ky
        replace hW4 := Lib.hid hW4
        replace ky := Lib.hid ky
        replace B := Lib.hid (Below.trans B.out (Below.mono al (Below.size B.out)))
        replace P := Lib.hid (PRow.below P.out al)
        replace kp := Lib.hid (blk_below kp.out al)
        replace VB := Lib.hid (Row.below VB.out al)
        replace q6 := Lib.hid (blk_below q6.out al)
        replace Y := Lib.hid (PRow.below Y.out al)
        clear al
        go_upto_region 18 with fail
        rw [hW4.out]
        clear hW4
        obtain ⟨⟨yv, yo, yz, yf⟩, hyb⟩ : ∃ z, bestOf py m = z := ⟨_, rfl⟩
        replace hyb := Lib.hid hyb
        have hc := impl_BestOf Y.out hty.out m
        rw [hyb.out] at hc
        dsimp only at hc
        replace hc := Lib.hid hc
        obtain ⟨ky_0, ky_1, ky_2, ky_3, ky_4⟩ := blk5 ky.out
        have l_ky := blk_lt ky.out
        go_wp2_with fail
        refine hc.out.mono ?_
        rintro e w9 ⟨va, rfl, oa, bw⟩
        clear hc
        clear ky_0 ky_1 ky_2 ky_3 ky_4 l_ky
        replace B := Lib.hid (Below.trans B.out (Below.mono bw (Below.size B.out)))
        replace P := Lib.hid (PRow.below P.out bw)
        replace kp := Lib.hid (blk_below kp.out bw)
        replace VB := Lib.hid (Row.below VB.out bw)
        replace q6 := Lib.hid (blk_below q6.out bw)
        replace Y := Lib.hid (PRow.below Y.out bw)
        replace ky := Lib.hid (blk_below ky.out bw)
        clear bw
        obtain ⟨Aa, ca, rfl, -⟩ := row_of_owns oa
        have Va := Lib.hid (row_of_owns oa)
        clear oa
        have al := (Below.refl w9.heap.size w9).alloc (Nat.le_refl _) (.cells #[.int .i64 yo, .int .i64 yz] 57)
        have q17 := heap_alloc_new w9 (.cells #[.int .i64 yo, .int .i64 yz] 57)
        obtain ⟨W9, hW9⟩ : ∃ W, w9.alloc (.cells #[.int .i64 yo, .int .i64 yz] 57) = W := ⟨_, rfl⟩
        rw [hW9] at al q17
        replace hW9 := Lib.hid hW9
        replace q17 := Lib.hid q17
        replace B := Lib.hid (Below.trans B.out (Below.mono al (Below.size B.out)))
        replace P := Lib.hid (PRow.below P.out al)
        replace kp := Lib.hid (blk_below kp.out al)
        replace VB := Lib.hid (Row.below VB.out al)
        replace q6 := Lib.hid (blk_below q6.out al)
        replace Y := Lib.hid (PRow.below Y.out al)
        replace ky := Lib.hid (blk_below ky.out al)
        replace Va := Lib.hid (Row.below Va.out al)
        clear al
        go_upto_region 19 with fail
        rw [hW9.out]
        clear hW9
        have hc := spec_BestOf Y.out hty.out m
        rw [hyb.out] at hc
        dsimp only at hc
        replace hc := Lib.hid hc
        obtain ⟨ky_0, ky_1, ky_2, ky_3, ky_4⟩ := blk5 ky.out
        have l_ky := blk_lt ky.out
        go_wp2_with fail
        refine hc.out.mono ?_
        rintro e u9 ⟨vc, rfl, oc, bw⟩
        clear hc
        clear ky_0 ky_1 ky_2 ky_3 ky_4 l_ky
        replace B := Lib.hid (Below.trans B.out (Below.mono bw (Below.size B.out)))
        replace P := Lib.hid (PRow.below P.out bw)
        replace kp := Lib.hid (blk_below kp.out bw)
        replace VB := Lib.hid (Row.below VB.out bw)
        replace q6 := Lib.hid (blk_below q6.out bw)
        replace Y := Lib.hid (PRow.below Y.out bw)
        replace ky := Lib.hid (blk_below ky.out bw)
        replace Va := Lib.hid (Row.below Va.out bw)
        replace q17 := Lib.hid (blk_below q17.out bw)
        clear bw
        obtain ⟨Ac, cc, rfl, -⟩ := row_of_owns oc
        have Vc := Lib.hid (row_of_owns oc)
        clear oc
        have al := (Below.refl u9.heap.size u9).alloc (Nat.le_refl _) (.cells #[.int .i64 yo, .int .i64 yz] 57)
        have q20 := heap_alloc_new u9 (.cells #[.int .i64 yo, .int .i64 yz] 57)
        obtain ⟨U9, hU9⟩ : ∃ W, u9.alloc (.cells #[.int .i64 yo, .int .i64 yz] 57) = W := ⟨_, rfl⟩
        rw [hU9] at al q20
        replace hU9 := Lib.hid hU9
        replace q20 := Lib.hid q20
        replace B := Lib.hid (Below.trans B.out (Below.mono al (Below.size B.out)))
        replace P := Lib.hid (PRow.below P.out al)
        replace kp := Lib.hid (blk_below kp.out al)
        replace VB := Lib.hid (Row.below VB.out al)
        replace q6 := Lib.hid (blk_below q6.out al)
        replace Y := Lib.hid (PRow.below Y.out al)
        replace ky := Lib.hid (blk_below ky.out al)
        replace Va := Lib.hid (Row.below Va.out al)
        replace q17 := Lib.hid (blk_below q17.out al)
        replace Vc := Lib.hid (Row.below Vc.out al)
        clear al
        go_upto_region 20 with fail
        rw [hU9.out]
        clear hU9
        go_wp2_with fail
        refine (drawNextOf_any (h.out.below B.out) hb).mono ?_
        rintro e w10 ⟨pz, rz, cz, sz, tz, vz, zs, hZ, nz, rfl, hq, oz, bw⟩
        replace B := Lib.hid (Below.trans B.out (Below.mono bw (Below.size B.out)))
        replace P := Lib.hid (PRow.below P.out bw)
        replace kp := Lib.hid (blk_below kp.out bw)
        replace VB := Lib.hid (Row.below VB.out bw)
        replace q6 := Lib.hid (blk_below q6.out bw)
        replace Y := Lib.hid (PRow.below Y.out bw)
        replace ky := Lib.hid (blk_below ky.out bw)
        replace Va := Lib.hid (Row.below Va.out bw)
        replace q17 := Lib.hid (blk_below q17.out bw)
        replace Vc := Lib.hid (Row.below Vc.out bw)
        replace q20 := Lib.hid (blk_below q20.out bw)
        clear bw
        obtain ⟨A1z, m1z, rfl, -⟩ := row_of_owns (PQ.o1 hq)
        obtain ⟨A2z, m2z, rfl, -⟩ := row_of_owns (PQ.o2 hq)
        obtain ⟨A3z, m3z, rfl, -⟩ := row_of_owns (PQ.o3 hq)
        obtain ⟨A4z, m4z, rfl, -⟩ := row_of_owns (PQ.o4 hq)
        obtain ⟨Az, mz, rfl, -⟩ := row_of_owns oz
        have Z := Lib.hid hq.row
        have ZV := Lib.hid (row_of_owns oz)
        clear hq oz hZ
        have al := (Below.refl w10.heap.size w10).alloc (Nat.le_refl _) (.cells #[.int .i64 pz.ind, .slice A1z pz.rules.length m1z, .slice A2z pz.chunks.length m2z, .slice A3z pz.spans.length m3z, .slice A4z pz.ties.length m4z] 35)
        have kz := heap_alloc_new w10 (.cells #[.int .i64 pz.ind, .slice A1z pz.rules.length m1z, .slice A2z pz.chunks.length m2z, .slice A3z pz.spans.length m3z, .slice A4z pz.ties.length m4z] 35)
        obtain ⟨W10, hW10⟩ : ∃ W, w10.alloc (.cells #[.int .i64 pz.ind, .slice A1z pz.rules.length m1z, .slice A2z pz.chunks.length m2z, .slice A3z pz.spans.length m3z, .slice A4z pz.ties.length m4z] 35) = W := ⟨_, rfl⟩
        rw [hW10] at al kz
        replace hW10 := Lib.hid hW10
        replace kz := Lib.hid kz
        replace B := Lib.hid (Below.trans B.out (Below.mono al (Below.size B.out)))
        replace P := Lib.hid (PRow.below P.out al)
        replace kp := Lib.hid (blk_below kp.out al)
        replace VB := Lib.hid (Row.below VB.out al)
        replace q6 := Lib.hid (blk_below q6.out al)
        replace Y := Lib.hid (PRow.below Y.out al)
        replace ky := Lib.hid (blk_below ky.out al)
        replace Va := Lib.hid (Row.below Va.out al)
        replace q17 := Lib.hid (blk_below q17.out al)
        replace Vc := Lib.hid (Row.below Vc.out al)
        replace q20 := Lib.hid (blk_below q20.out al)
        replace Z := Lib.hid (PRow.below Z.out al)
        replace ZV := Lib.hid (Row.below ZV.out al)
        clear al
        go_upto_region 21 with fail
        rw [hW10.out]
        clear hW10
        obtain ⟨⟨nv, nf⟩, hnb⟩ : ∃ z, nextOf pz zs = z := ⟨_, rfl⟩
        replace hnb := Lib.hid hnb
        have hc := impl_NextOf Z.out ZV.out (by omega)
        rw [hnb.out] at hc
        dsimp only at hc
        replace hc := Lib.hid hc
        obtain ⟨kz_0, kz_1, kz_2, kz_3, kz_4⟩ := blk5 kz.out
        have l_kz := blk_lt kz.out
        go_wp2_with fail
        refine hc.out.mono ?_
        rintro e w11 ⟨vd, rfl, od, bw⟩
        clear hc
        clear kz_0 kz_1 kz_2 kz_3 kz_4 l_kz
        replace B := Lib.hid (Below.trans B.out (Below.mono bw (Below.size B.out)))
        replace P := Lib.hid (PRow.below P.out bw)
        replace kp := Lib.hid (blk_below kp.out bw)
        replace VB := Lib.hid (Row.below VB.out bw)
        replace q6 := Lib.hid (blk_below q6.out bw)
        replace Y := Lib.hid (PRow.below Y.out bw)
        replace ky := Lib.hid (blk_below ky.out bw)
        replace Va := Lib.hid (Row.below Va.out bw)
        replace q17 := Lib.hid (blk_below q17.out bw)
        replace Vc := Lib.hid (Row.below Vc.out bw)
        replace q20 := Lib.hid (blk_below q20.out bw)
        replace Z := Lib.hid (PRow.below Z.out bw)
        replace ZV := Lib.hid (Row.below ZV.out bw)
        replace kz := Lib.hid (blk_below kz.out bw)
        clear bw
        obtain ⟨Ad, cd, rfl, -⟩ := row_of_owns od
        have Vd := Lib.hid (row_of_owns od)
        clear od
        have hc := spec_NextOf Z.out ZV.out (by omega)
        rw [hnb.out] at hc
        dsimp only at hc
        replace hc := Lib.hid hc
        obtain ⟨kz_0, kz_1, kz_2, kz_3, kz_4⟩ := blk5 kz.out
        have l_kz := blk_lt kz.out
        go_wp2_with fail
        refine hc.out.mono ?_
        rintro e w12 ⟨ve, rfl, oe, bw⟩
        clear hc
        clear kz_0 kz_1 kz_2 kz_3 kz_4 l_kz
        replace B := Lib.hid (Below.trans B.out (Below.mono bw (Below.size B.out)))
        replace P := Lib.hid (PRow.below P.out bw)
        replace kp := Lib.hid (blk_below kp.out bw)
        replace VB := Lib.hid (Row.below VB.out bw)
        replace q6 := Lib.hid (blk_below q6.out bw)
        replace Y := Lib.hid (PRow.below Y.out bw)
        replace ky := Lib.hid (blk_below ky.out bw)
        replace Va := Lib.hid (Row.below Va.out bw)
        replace q17 := Lib.hid (blk_below q17.out bw)
        replace Vc := Lib.hid (Row.below Vc.out bw)
        replace q20 := Lib.hid (blk_below q20.out bw)
        replace Z := Lib.hid (PRow.below Z.out bw)
        replace ZV := Lib.hid (Row.below ZV.out bw)
        replace kz := Lib.hid (blk_below kz.out bw)
        replace Vd := Lib.hid (Row.below Vd.out bw)
        clear bw
        obtain ⟨Ae, ce, rfl, -⟩ := row_of_owns oe
        have Ve := Lib.hid (row_of_owns oe)
        clear oe
        have dd0 : ((i : Int) == (i : Int)) = true := by simp
        have dd1 : (ob == ob) = true := by simp
        have dd2 : (sb == sb) = true := by simp
        have dd3 : (yo == yo) = true := by simp
        have dd4 : (yz == yz) = true := by simp
        have dd5 : (yf == yf) = true := by simp
        have dd6 : (nf == nf) = true := by simp
        go_upto_region 23 with fail
        obtain ⟨kp_0, kp_1, kp_2, kp_3, kp_4⟩ := blk5 kp.out
        have l_kp := blk_lt kp.out
        obtain ⟨q6_0, q6_1⟩ := blk2 q6.out
        have l_q6 := blk_lt q6.out
        obtain ⟨q17_0, q17_1⟩ := blk2 q17.out
        have l_q17 := blk_lt q17.out
        obtain ⟨q20_0, q20_1⟩ := blk2 q20.out
        have l_q20 := blk_lt q20.out
        refine wp_region_below3 [(0, true), (1, true), (2, true), (3, true), (4, false), (5, true), (6, true), (7, true), (8, true), (9, true), (10, false), (11, true), (12, true), (13, true), (14, true), (15, true), (16, true), (17, false), (18, true), (19, true), (20, true), (21, true), (22, true), (23, true), (24, true), (25, true), (26, true), (27, true), (28, true), (29, true), (30, true), (31, true), (32, true), (33, false), (34, true), (35, true), (36, true), (37, true), (38, true), (39, true), (40, true), (41, true), (42, true), (43, false), (44, false), (45, false)] (by kernel_rfl) (by kernel_rfl) (fun d _ _ _ _ h => by cases d <;> exact h) ?_
        have b0 := to_drew w12 w12.heap.size
        repeat
         (refine mix3_still rfl (by rfl) ?_
          apply Exists.intro
          refine ⟨fun w' hS => ?_, ?_⟩
          · (have hS' := cells_of hS; clear hS; go_simp; (try go_bits); first | with_reducible rfl | (refine (if_pos ?_).trans ?_; omega; with_reducible rfl))
          (go_simp; (try go_bits)))
        have hc := spec_CountOf (P.out.below b0)
        rw [hcN.out] at hc
        refine mix3_loud rfl (fun K hK => ?_)
        (go_simp; (try go_bits))
        refine hc.mono ?_
        clear hc
        rintro _ v1 ⟨rfl, r1⟩
        have b1 := b0.trans (r1.mono b0.size)
        refine hK _ _ b1 ?_
        clear hK K
        (go_simp; (try go_bits))
        repeat
         (refine mix3_still rfl (by rfl) ?_
          apply Exists.intro
          refine ⟨fun w' hS => ?_, ?_⟩
          · (have hS' := cells_of hS; clear hS; go_simp; (try go_bits); first | with_reducible rfl | (refine (if_pos ?_).trans ?_; omega; with_reducible rfl))
          (go_simp; (try go_bits)))
        have hc := spec_TiesHold (P.out.below b1) (VB.out.below b1)
        rw [htb2.out] at hc
        refine mix3_loud rfl (fun K hK => ?_)
        (go_simp; (try go_bits))
        refine hc.mono ?_
        clear hc
        rintro _ v2 ⟨rfl, r2⟩
        have b2 := b1.trans (r2.mono b1.size)
        refine hK _ _ b2 ?_
        clear hK K
        (go_simp; (try go_bits))
        repeat
         (refine mix3_still rfl (by rfl) ?_
          apply Exists.intro
          refine ⟨fun w' hS => ?_, ?_⟩
          · (have hS' := cells_of hS; clear hS; go_simp; (try go_bits); first | with_reducible rfl | (refine (if_pos ?_).trans ?_; omega; with_reducible rfl))
          (go_simp; (try go_bits)))
        have hc := spec_CostOf (P.out.below b2) (VB.out.below b2) htot.out x
        rw [hcb.out.1, hcb.out.2] at hc
        refine mix3_loud rfl (fun K hK => ?_)
        (go_simp; (try go_bits))
        refine hc.mono ?_
        clear hc
        rintro _ v3 ⟨rfl, r3⟩
        have b3 := b2.trans (r3.mono b2.size)
        refine hK _ _ b3 ?_
        clear hK K
        (go_simp; (try go_bits))
        repeat
         (refine mix3_still rfl (by rfl) ?_
          apply Exists.intro
          refine ⟨fun w' hS => ?_, ?_⟩
          · (have hS' := cells_of hS; clear hS; go_simp; (try go_bits); first | with_reducible rfl | (refine (if_pos ?_).trans ?_; omega; with_reducible rfl))
          (go_simp; (try go_bits)))
        have hc := same_self (Va.out.below b3) (Vc.out.below b3)
        refine mix3_loud rfl (fun K hK => ?_)
        (go_simp; (try go_bits))
        refine hc.mono ?_
        clear hc
        rintro _ v4 ⟨rfl, r4⟩
        have b4 := b3.trans (r4.mono b3.size)
        refine hK _ _ b4 ?_
        clear hK K
        (go_simp; (try go_bits))
        repeat
         (refine mix3_still rfl (by rfl) ?_
          apply Exists.intro
          refine ⟨fun w' hS => ?_, ?_⟩
          · (have hS' := cells_of hS; clear hS; go_simp; (try go_bits); first | with_reducible rfl | (refine (if_pos ?_).trans ?_; omega; with_reducible rfl))
          (go_simp; (try go_bits)))
        have hc := same_self (Vd.out.below b4) (Ve.out.below b4)
        refine mix3_loud rfl (fun K hK => ?_)
        (go_simp; (try go_bits))
        refine hc.mono ?_
        clear hc
        rintro _ v5 ⟨rfl, r5⟩
        have b5 := b4.trans (r5.mono b4.size)
        refine hK _ _ b5 ?_
        clear hK K
        (go_simp; (try go_bits))
        refine mix3_loud rfl (fun K hK => ?_)
        (go_simp; (try go_bits))
        refine hK _ _ b5 ?_
        clear hK K
        try (go_simp; (try go_bits))
        refine mix3_loud rfl (fun K hK => ?_)
        (go_simp; (try go_bits))
        refine hK _ _ b5 ?_
        clear hK K
        try (go_simp; (try go_bits))
        refine mix3_nil ?_
        go_wp2
        go_ret
        exact ⟨rfl, B.out.trans (b5.mono B.out.size)⟩
      · skip
        have hlt : i < N := by have := hbd.out; exact of_decide_eq_true this.symm
        have hltA : i < allN p := by rw [hN.out]; exact hlt
        replace hus := Lib.hid (hus.out hlt)
        obtain ⟨o1, ho1⟩ : ∃ o, overC p x (seqv p i) = o := ⟨_, rfl⟩
        obtain ⟨s1, hs1⟩ : ∃ o, sumOf p (seqv p i) = o := ⟨_, rfl⟩
        obtain ⟨tb, htb⟩ : ∃ b, tiesOk p (seqv p i) = b := ⟨_, rfl⟩
        have hal1 := hall.out i hltA
        rw [ho1, hs1, htb] at hal1
        have e1 : cO p us x = o1 := by rw [hus.out, (cost_at hR hltA x).1]; exact ho1
        have e2 : cS p us = s1 := by rw [hus.out, (cost_at hR hltA x).2]; exact hs1
        have e3 : tiesHold p us = tb := by rw [hus.out, ties_at hR hltA]; exact htb
        have e4 : nextOf p us = if i + 1 < N then (seqv p (i + 1), true) else ([], false) := by rw [hus.out, next_at hR hltA, hN.out]
        rw [← hus.out] at hal1
        have hlu : us.length = p.rules.length := by rw [hus.out]; exact seqv_len p i
        replace e4 := Lib.hid e4
        replace hal1 := Lib.hid hal1
        replace e3 := Lib.hid e3
        replace hlu := Lib.hid hlu
        replace ho1 := Lib.hid ho1
        replace hs1 := Lib.hid hs1
        replace htb := Lib.hid htb
        replace hbd := Lib.hid hbd
        have d3 : decide ((300 : Int) < (i : Int) + 1) = false := decide_eq_false (by omega)
        have hc := spec_CostOf P.out V.out htot.out x
        rw [e1, e2] at hc
        replace hc := Lib.hid hc
        clear e1 e2
        obtain ⟨kp_0, kp_1, kp_2, kp_3, kp_4⟩ := blk5 kp.out
        have l_kp := blk_lt kp.out
        go_wp2_with fail
        refine hc.out.mono ?_
        rintro e w5 ⟨rfl, bw⟩
        clear hc
        clear kp_0 kp_1 kp_2 kp_3 kp_4 l_kp
        replace V := Lib.hid (Row.below V.out bw)
        replace B := Lib.hid (Below.trans B.out (Below.mono bw (Below.size B.out)))
        replace P := Lib.hid (PRow.below P.out bw)
        replace kp := Lib.hid (blk_below kp.out bw)
        replace VB := Lib.hid (Row.below VB.out bw)
        replace q6 := Lib.hid (blk_below q6.out bw)
        clear bw
        have al := (Below.refl w5.heap.size w5).alloc (Nat.le_refl _) (.cells #[.int .i64 o1, .int .i64 s1] 57)
        have q11 := heap_alloc_new w5 (.cells #[.int .i64 o1, .int .i64 s1] 57)
        obtain ⟨W5, hW5⟩ : ∃ W, w5.alloc (.cells #[.int .i64 o1, .int .i64 s1] 57) = W := ⟨_, rfl⟩
        rw [hW5] at al q11
        replace hW5 := Lib.hid hW5
        replace q11 := Lib.hid q11
        replace V := Lib.hid (Row.below V.out al)
        replace B := Lib.hid (Below.trans B.out (Below.mono al (Below.size B.out)))
        replace P := Lib.hid (PRow.below P.out al)
        replace kp := Lib.hid (blk_below kp.out al)
        replace VB := Lib.hid (Row.below VB.out al)
        replace q6 := Lib.hid (blk_below q6.out al)
        clear al
        go_upto_region 12 with fail
        rw [hW5.out]
        clear hW5
        have hc := spec_TiesHold P.out V.out
        rw [e3.out] at hc
        replace hc := Lib.hid hc
        obtain ⟨kp_0, kp_1, kp_2, kp_3, kp_4⟩ := blk5 kp.out
        have l_kp := blk_lt kp.out
        go_wp2_with fail
        refine hc.out.mono ?_
        rintro e w6 ⟨rfl, bw⟩
        clear hc
        clear kp_0 kp_1 kp_2 kp_3 kp_4 l_kp
        replace V := Lib.hid (Row.below V.out bw)
        replace B := Lib.hid (Below.trans B.out (Below.mono bw (Below.size B.out)))
        replace P := Lib.hid (PRow.below P.out bw)
        replace kp := Lib.hid (blk_below kp.out bw)
        replace VB := Lib.hid (Row.below VB.out bw)
        replace q6 := Lib.hid (blk_below q6.out bw)
        replace q11 := Lib.hid (blk_below q11.out bw)
        clear bw
        cases tb
        · skip
          by_cases hnx : i + 1 < N
          · skip
            have hc := impl_NextOf P.out V.out (by rw [hlu.out]; omega)
            rw [e4.out, if_pos hnx] at hc
            dsimp only at hc
            replace hc := Lib.hid hc
            obtain ⟨kp_0, kp_1, kp_2, kp_3, kp_4⟩ := blk5 kp.out
            have l_kp := blk_lt kp.out
            go_wp2_with fail
            refine hc.out.mono ?_
            rintro e w8 ⟨v8, rfl, o8, bw⟩
            clear hc
            clear kp_0 kp_1 kp_2 kp_3 kp_4 l_kp
            replace V := Lib.hid (Row.below V.out bw)
            replace B := Lib.hid (Below.trans B.out (Below.mono bw (Below.size B.out)))
            replace P := Lib.hid (PRow.below P.out bw)
            replace kp := Lib.hid (blk_below kp.out bw)
            replace VB := Lib.hid (Row.below VB.out bw)
            replace q6 := Lib.hid (blk_below q6.out bw)
            replace q11 := Lib.hid (blk_below q11.out bw)
            clear bw
            obtain ⟨A8, c8, rfl, -⟩ := row_of_owns o8
            have V8 := Lib.hid (row_of_owns o8)
            clear o8
            go_wp2
            go_roundw
            case rel => exact ⟨i + 1, _, A8, c8, true, by omega, by go_num, rfl, rfl, Lib.hid (decide_eq_true hnx).symm, Lib.hid fun _ => rfl, V8, B, P, kp, VB, q6⟩
            case measure => simp [intOf]; omega
          · skip
            have hc := impl_NextOf P.out V.out (by rw [hlu.out]; omega)
            rw [e4.out, if_neg hnx] at hc
            dsimp only at hc
            replace hc := Lib.hid hc
            obtain ⟨kp_0, kp_1, kp_2, kp_3, kp_4⟩ := blk5 kp.out
            have l_kp := blk_lt kp.out
            go_wp2_with fail
            refine hc.out.mono ?_
            rintro e w8 ⟨v8, rfl, o8, bw⟩
            clear hc
            clear kp_0 kp_1 kp_2 kp_3 kp_4 l_kp
            replace V := Lib.hid (Row.below V.out bw)
            replace B := Lib.hid (Below.trans B.out (Below.mono bw (Below.size B.out)))
            replace P := Lib.hid (PRow.below P.out bw)
            replace kp := Lib.hid (blk_below kp.out bw)
            replace VB := Lib.hid (Row.below VB.out bw)
            replace q6 := Lib.hid (blk_below q6.out bw)
            replace q11 := Lib.hid (blk_below q11.out bw)
            clear bw
            obtain ⟨A8, c8, rfl, -⟩ := row_of_owns o8
            have V8 := Lib.hid (row_of_owns o8)
            clear o8
            go_wp2
            go_roundw
            case rel => exact ⟨i + 1, _, A8, c8, false, by omega, by go_num, rfl, rfl, Lib.hid (decide_eq_false hnx).symm, Lib.hid fun h9 => absurd h9 hnx, V8, B, P, kp, VB, q6⟩
            case measure => simp [intOf]; omega
        · skip
          have hls : Cost.less o1 s1 ob sb = false := by have := hal1.out; simp only [Bool.true_and, Bool.or_eq_false_iff] at this; exact this.1
          have hc := fun W => Cost.spec_less o1 s1 ob sb W
          simp only [hls] at hc
          replace hc := Lib.hid hc
          clear hls
          obtain ⟨q11_0, q11_1⟩ := blk2 q11.out
          have l_q11 := blk_lt q11.out
          obtain ⟨q6_0, q6_1⟩ := blk2 q6.out
          have l_q6 := blk_lt q6.out
          by_cases heq : o1 = ob ∧ s1 = sb
          · skip
            obtain ⟨rfl, rfl⟩ := heq
            have hcm : decide (cmp us ys < 0) = false := by have := hal1.out; simp at this ⊢; exact this.2
            go_wp2_with fail
            refine (hc.out _).mono ?_
            rintro e w7 ⟨rfl, bw⟩
            clear hc
            clear q11_0 q11_1 l_q11 q6_0 q6_1 l_q6
            replace V := Lib.hid (Row.below V.out bw)
            replace B := Lib.hid (Below.trans B.out (Below.mono bw (Below.size B.out)))
            replace P := Lib.hid (PRow.below P.out bw)
            replace kp := Lib.hid (blk_below kp.out bw)
            replace VB := Lib.hid (Row.below VB.out bw)
            replace q6 := Lib.hid (blk_below q6.out bw)
            replace q11 := Lib.hid (blk_below q11.out bw)
            clear bw
            obtain ⟨q11_0, q11_1⟩ := blk2 q11.out
            have l_q11 := blk_lt q11.out
            obtain ⟨q6_0, q6_1⟩ := blk2 q6.out
            have l_q6 := blk_lt q6.out
            have hc := Compare.spec_Compare V.out VB.out
            obtain ⟨cm, hcmv⟩ : ∃ z, cmp us ys = z := ⟨_, rfl⟩
            rw [hcmv] at hc hcm
            replace hcmv := Lib.hid hcmv
            replace hc := Lib.hid hc
            go_wp2_with fail
            refine hc.out.mono ?_
            rintro e w7b ⟨rfl, bw⟩
            clear hc
            clear q11_0 q11_1 l_q11 q6_0 q6_1 l_q6
            replace V := Lib.hid (Row.below V.out bw)
            replace B := Lib.hid (Below.trans B.out (Below.mono bw (Below.size B.out)))
            replace P := Lib.hid (PRow.below P.out bw)
            replace kp := Lib.hid (blk_below kp.out bw)
            replace VB := Lib.hid (Row.below VB.out bw)
            replace q6 := Lib.hid (blk_below q6.out bw)
            replace q11 := Lib.hid (blk_below q11.out bw)
            clear bw
            by_cases hnx : i + 1 < N
            · skip
              have hc := impl_NextOf P.out V.out (by rw [hlu.out]; omega)
              rw [e4.out, if_pos hnx] at hc
              dsimp only at hc
              replace hc := Lib.hid hc
              obtain ⟨kp_0, kp_1, kp_2, kp_3, kp_4⟩ := blk5 kp.out
              have l_kp := blk_lt kp.out
              go_wp2_with fail
              refine hc.out.mono ?_
              rintro e w8 ⟨v8, rfl, o8, bw⟩
              clear hc
              clear kp_0 kp_1 kp_2 kp_3 kp_4 l_kp
              replace V := Lib.hid (Row.below V.out bw)
              replace B := Lib.hid (Below.trans B.out (Below.mono bw (Below.size B.out)))
              replace P := Lib.hid (PRow.below P.out bw)
              replace kp := Lib.hid (blk_below kp.out bw)
              replace VB := Lib.hid (Row.below VB.out bw)
              replace q6 := Lib.hid (blk_below q6.out bw)
              replace q11 := Lib.hid (blk_below q11.out bw)
              clear bw
              obtain ⟨A8, c8, rfl, -⟩ := row_of_owns o8
              have V8 := Lib.hid (row_of_owns o8)
              clear o8
              go_wp2
              go_roundw
              case rel => exact ⟨i + 1, _, A8, c8, true, by omega, by go_num, rfl, rfl, Lib.hid (decide_eq_true hnx).symm, Lib.hid fun _ => rfl, V8, B, P, kp, VB, q6⟩
              case measure => simp [intOf]; omega
            · skip
              have hc := impl_NextOf P.out V.out (by rw [hlu.out]; omega)
              rw [e4.out, if_neg hnx] at hc
              dsimp only at hc
              replace hc := Lib.hid hc
              obtain ⟨kp_0, kp_1, kp_2, kp_3, kp_4⟩ := blk5 kp.out
              have l_kp := blk_lt kp.out
              go_wp2_with fail
              refine hc.out.mono ?_
              rintro e w8 ⟨v8, rfl, o8, bw⟩
              clear hc
              clear kp_0 kp_1 kp_2 kp_3 kp_4 l_kp
              replace V := Lib.hid (Row.below V.out bw)
              replace B := Lib.hid (Below.trans B.out (Below.mono bw (Below.size B.out)))
              replace P := Lib.hid (PRow.below P.out bw)
              replace kp := Lib.hid (blk_below kp.out bw)
              replace VB := Lib.hid (Row.below VB.out bw)
              replace q6 := Lib.hid (blk_below q6.out bw)
              replace q11 := Lib.hid (blk_below q11.out bw)
              clear bw
              obtain ⟨A8, c8, rfl, -⟩ := row_of_owns o8
              have V8 := Lib.hid (row_of_owns o8)
              clear o8
              go_wp2
              go_roundw
              case rel => exact ⟨i + 1, _, A8, c8, false, by omega, by go_num, rfl, rfl, Lib.hid (decide_eq_false hnx).symm, Lib.hid fun h9 => absurd h9 hnx, V8, B, P, kp, VB, q6⟩
              case measure => simp [intOf]; omega
          · skip
            go_wp2_with fail
            refine (hc.out _).mono ?_
            rintro e w7 ⟨rfl, bw⟩
            clear hc
            clear q11_0 q11_1 l_q11 q6_0 q6_1 l_q6
            replace V := Lib.hid (Row.below V.out bw)
            replace B := Lib.hid (Below.trans B.out (Below.mono bw (Below.size B.out)))
            replace P := Lib.hid (PRow.below P.out bw)
            replace kp := Lib.hid (blk_below kp.out bw)
            replace VB := Lib.hid (Row.below VB.out bw)
            replace q6 := Lib.hid (blk_below q6.out bw)
            replace q11 := Lib.hid (blk_below q11.out bw)
            clear bw
            by_cases hnx : i + 1 < N
            · skip
              have hc := impl_NextOf P.out V.out (by rw [hlu.out]; omega)
              rw [e4.out, if_pos hnx] at hc
              dsimp only at hc
              replace hc := Lib.hid hc
              obtain ⟨q11_0, q11_1⟩ := blk2 q11.out
              have l_q11 := blk_lt q11.out
              obtain ⟨q6_0, q6_1⟩ := blk2 q6.out
              have l_q6 := blk_lt q6.out
              obtain ⟨kp_0, kp_1, kp_2, kp_3, kp_4⟩ := blk5 kp.out
              have l_kp := blk_lt kp.out
              go_wp2_with fail
              all_goals
                refine hc.out.mono ?_
                rintro e w8 ⟨v8, rfl, o8, bw⟩
                clear hc
                clear q11_0 q11_1 l_q11 q6_0 q6_1 l_q6 kp_0 kp_1 kp_2 kp_3 kp_4 l_kp
                replace V := Lib.hid (Row.below V.out bw)
                replace B := Lib.hid (Below.trans B.out (Below.mono bw (Below.size B.out)))
                replace P := Lib.hid (PRow.below P.out bw)
                replace kp := Lib.hid (blk_below kp.out bw)
                replace VB := Lib.hid (Row.below VB.out bw)
                replace q6 := Lib.hid (blk_below q6.out bw)
                replace q11 := Lib.hid (blk_below q11.out bw)
                clear bw
                obtain ⟨A8, c8, rfl, -⟩ := row_of_owns o8
                have V8 := Lib.hid (row_of_owns o8)
                clear o8
                go_wp2
                go_roundw
                case rel => exact ⟨i + 1, _, A8, c8, true, by omega, by go_num, rfl, rfl, Lib.hid (decide_eq_true hnx).symm, Lib.hid fun _ => rfl, V8, B, P, kp, VB, q6⟩
                case measure => simp [intOf]; omega
            · skip
              have hc := impl_NextOf P.out V.out (by rw [hlu.out]; omega)
              rw [e4.out, if_neg hnx] at hc
              dsimp only at hc
              replace hc := Lib.hid hc
              obtain ⟨q11_0, q11_1⟩ := blk2 q11.out
              have l_q11 := blk_lt q11.out
              obtain ⟨q6_0, q6_1⟩ := blk2 q6.out
              have l_q6 := blk_lt q6.out
              obtain ⟨kp_0, kp_1, kp_2, kp_3, kp_4⟩ := blk5 kp.out
              have l_kp := blk_lt kp.out
              go_wp2_with fail
              all_goals
                refine hc.out.mono ?_
                rintro e w8 ⟨v8, rfl, o8, bw⟩
                clear hc
                clear q11_0 q11_1 l_q11 q6_0 q6_1 l_q6 kp_0 kp_1 kp_2 kp_3 kp_4 l_kp
                replace V := Lib.hid (Row.below V.out bw)
                replace B := Lib.hid (Below.trans B.out (Below.mono bw (Below.size B.out)))
                replace P := Lib.hid (PRow.below P.out bw)
                replace kp := Lib.hid (blk_below kp.out bw)
                replace VB := Lib.hid (Row.below VB.out bw)
                replace q6 := Lib.hid (blk_below q6.out bw)
                replace q11 := Lib.hid (blk_below q11.out bw)
                clear bw
                obtain ⟨A8, c8, rfl, -⟩ := row_of_owns o8
                have V8 := Lib.hid (row_of_owns o8)
                clear o8
                go_wp2
                go_roundw
                case rel => exact ⟨i + 1, _, A8, c8, false, by omega, by go_num, rfl, rfl, Lib.hid (decide_eq_false hnx).symm, Lib.hid fun h9 => absurd h9 hnx, V8, B, P, kp, VB, q6⟩
                case measure => simp [intOf]; omega
  · have d0 : decide ((1048576 : Int) < (bs.length : Int)) = true := by simp; omega
    go_enter Try.func13, Try.ntmps13
    go_wp2_with fail
    refine (big_any h).mono ?_
    rintro e w0 ⟨rfl, rfl⟩
    go_wp2
    go_ret
    exact ⟨rfl, Below.refl _ _⟩
set_option maxRecDepth 100000 in
theorem walk (v0 : Value) {base : Nat} {w : World} (o0 : Value.okWide Try.prog w .any base 63 v0) {H : Type} {enc : TypeId × Value → H} {d0 : DataW H} {p0 : List MemPlace} (h0 : DataW.Trod enc Try.prog w 0 (fun _ => true) true 63 v0 d0 p0) :
    Calls Try.prog 13 #[v0] w fun e w' => e = .returned (.bool true) ∧ Below w.heap.size w w' := by
  obtain ⟨xs, hx, hw⟩ := Args.row_ints Try.underlying63 Try.underlying5 cellsB o0 h0
  exact walkN ⟨hx, fun x hx => by have := hw x hx; simp [Lit.wf, IntKind.min, IntKind.max, IntKind.signed, IntKind.bits] at this; omega⟩
theorem own : ownKnob Try.prog.godebug = none := by kernel_rfl
theorem laidOut : laidOutB Try.prog = true := by kernel_rfl
set_option maxRecDepth 100000 in
theorem lifted (os : Os) (started : os.Started) (H : Type) (enc : TypeId × Value → H) :
    ReturnsInHanded {} Try.checked os 13 .any (Rows.fnBestSpec.pre6 enc Try.prog Try.f13 Rows.fnBestRow.domain false) (Rows.fnBestSpec.post enc Try.prog Try.f13 false true false false) := by
  refine returnsInHanded_of_change (C := Try.checked) own started (by kernel_rfl) Try.func13
    (ChangeSpec.witness6 (enc := enc) (C := Try.checked) false ⟨#[], #[.slice none 0 0], []⟩ 8 (by kernel_rfl) (by kernel_rfl) (by kernel_rfl) (by kernel_rfl)) ?_
  intro W base args ds gs before hval0 hW hcnd _
  have hval : ∀ (j : Nat) t v, Try.f13.params[j]? = some t → args[j]? = some v → Value.okWide Try.prog W .any base t v := hval0
  have hW' := hW
  obtain ⟨p, q, hA0, hV, rfl, hfz, hnd⟩ := hW
  have hA : DataW.TrodAll enc Try.prog W 0 (fun _ => true) true Try.f13.params.toList args.toList ds p := hA0
  rw [Try.params13] at hA hval
  obtain ⟨v0, vs0, d0, ds0, p0, q0, hargs, rfl, rfl, h0, r0⟩ := trodAll_cons hA
  obtain ⟨rfl, rfl, rfl⟩ := trodAll_nil r0
  obtain rfl : args = #[v0] := by cases args; simp_all
  obtain ⟨rfl, rfl⟩ := trodVars_none hV
  have k0 := h0
  have o0 := hval 0 63 v0 rfl rfl
  clear hA0 hval0
  simp only [List.append_nil] at hW'
  have hlt := fun x hx => DataW.Whole.lt hW' x hx
  refine (walk v0 o0 h0).mono fun e W' ⟨he, hg⟩ => ?_
  subst he
  exact ⟨_, rfl, Post.post_of_below (pa := p0 ++ ([])) (pv := []) hW' (fun _ _ _ => (trodAll_cons_mk (shut_bool Try.underlying4 _) trodAll_mk0)) (fun sp hsp => (trodAll_cons_mk (Post.stays laidOut (by kernel_rfl) (of_decide_eq_true (by kernel_rfl)) k0 hg (fun x hx => by first | (cases hx; done) | simp [hx]) hlt hsp) trodAll_mk0)) (fun _ _ => rfl) (by simp)
    hg (ok_one (by kernel_rfl) rfl (okWide_bool_mk Try.underlying4 _))⟩

theorem over : Rows.fnBestRow.holds Try.pinned (OpenSpec.ofChange Rows.fnBestSpec) :=
  OpenClaim.holds_of_wide 13 Try.f13 rfl rfl rfl rfl rfl rfl rfl ⟨rfl, rfl, rfl, rfl, rfl⟩ rfl rfl rfl rfl rfl (by kernel_rfl) Try.func13 (by kernel_rfl)
    (of_decide_eq_true (by kernel_rfl)) (by unfold Func.isWrapper; first | (rw [if_pos (by decide +kernel)]; kernel_rfl) | (rw [if_neg (by decide +kernel)]; exact ⟨rfl, rfl⟩))
    (fun os started H enc _ => lifted os started H enc)

/-- THE STATEMENT -/
theorem proved : Rows.FnBestSaid :=
  over
end Go.Proofs.Ytlakellmdcdaaaa.lawBest
