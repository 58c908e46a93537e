/-
  FnExactBestOf: impl.BestOf and spec.BestOf return the same for every piece.
  Conditions: none beyond the statement's own.
-/
import Derived.Test.YtlakellmdcdaaaaRows
import Derived.Test.YtlakellmdcdaaaaPieceArgs
import Derived.Test.YtlakellmdcdaaaaPost
import Derived.Test.YtlakellmdcdaaaaPc15
import Derived.Test.YtlakellmdcdaaaaMarkInts
import Derived.WalkKit
import Derived.ProofKit
import Derived.OpenShut
namespace Go.Proofs.Ytlakellmdcdaaaa.lawBestOf
open Go.ChangeShapes Go.WideShapes Go.ChangeAt Go.RowKit Go.Proofs.Ytlakellmdcdaaaa.Mix Go.Proofs.Ytlakellmdcdaaaa.Row Go.Proofs.Ytlakellmdcdaaaa.Mem Go.Proofs.Ytlakellmdcdaaaa.Owns Go.Proofs.Ytlakellmdcdaaaa.Blocks Go.Proofs.Ytlakellmdcdaaaa.Ints Go.Proofs.Ytlakellmdcdaaaa.Piece Go.Proofs.Ytlakellmdcdaaaa.Pc
set_option linter.unusedVariables false
theorem cellsI : Try.prog.cellsOf 3 = 1 := by kernel_rfl
theorem eq_ints {v1 v2 : Value} {xs : List Int} {b1 b2 : Nat} {w : World} (h1 : w.ownsRow b1 3 1 v1 xs.length (ints xs)) (h2 : w.ownsRow b2 3 1 v2 xs.length (ints xs)) :
    Calls Try.prog 23 #[v1, v2] w fun e w' => e = .returned (.bool true) ∧ Below w.heap.size w w' :=
  (Ints.eq_any (row_of_owns h1) (row_of_owns h2)).mono fun e w' h => ⟨by rw [h.1]; simp, h.2⟩
theorem eq_intsO {v1 v2 : Value} {xs : List Int} {b1 b2 : Nat} {w : World} (h1 : Own w v1 3 1 b1 xs.length (ints xs)) (h2 : Own w v2 3 1 b2 xs.length (ints xs)) :
    Calls Try.prog 23 #[v1, v2] w fun e w' => e = .returned (.bool true) ∧ Below w.heap.size w w' := eq_ints (own_owns h1) (own_owns h2)
set_option maxRecDepth 100000 in
set_option maxHeartbeats 6400000 in
theorem walkN {p : P} {vr vc vs vt : Value} {w : World} (h : PRow w p vr vc vs vt) (hs : ∀ x ∈ p.chunks, x.t.size ≤ maxLen) (a1 : Int) :
    Calls Try.prog 12 #[pv p.ind vr vc vs vt, .int .i64 a1] w fun e w' => e = .returned (.bool true) ∧ Below w.heap.size w w' := by
  obtain ⟨⟨A1, m1, rfl⟩, ⟨A2, m2, rfl⟩, ⟨A3, m3, rfl⟩, ⟨A4, m4, rfl⟩⟩ := h.lits
  have ax := (Below.refl w.heap.size w).alloc (Nat.le_refl _) (.cells #[.int .i64 p.ind, .slice A1 p.rules.length m1, .slice A2 p.chunks.length m2, .slice A3 p.spans.length m3, .slice A4 p.ties.length m4] 27)
  have k := heap_alloc_new w (.cells #[.int .i64 p.ind, .slice A1 p.rules.length m1, .slice A2 p.chunks.length m2, .slice A3 p.spans.length m3, .slice A4 p.ties.length m4] 27)
  generalize hW : w.alloc (.cells #[.int .i64 p.ind, .slice A1 p.rules.length m1, .slice A2 p.chunks.length m2, .slice A3 p.spans.length m3, .slice A4 p.ties.length m4] 27) = W at ax k
  replace hW := Lib.hid hW
  replace h := Lib.hid h
  have z0 := Lib.hid (Piece.sz_any (h.out.below ax) hs 1048576 (by omega) (by omega))
  have hB := Lib.hid ax
  replace k := Lib.hid k
  clear ax hs
  go_enter Try.func12, Try.ntmps12
  go_wp2_with fail
  rw [hW.out]
  refine z0.out.mono ?_
  rintro e w1 ⟨hz, b1⟩
  obtain ⟨q, rfl, hq⟩ := hz
  clear hW z0
  replace hB := Lib.hid (hB.out.trans (b1.mono hB.out.size))
  replace k := Lib.hid (blk_below k.out b1)
  clear b1
  rcases hq with hq | ⟨q0, q1, sm⟩
  · have d0 : decide (q < 0) = true := by simpa using hq
    go_wp2
    go_ret
    exact ⟨rfl, hB.out⟩
  · have d0 : decide (q < 0) = false := by simp; omega
    have n1 : p.rules.length ≤ 1048576 := by have := sm.1; omega
    have n2 : p.chunks.length ≤ 1048576 := by have := sm.2.1; omega
    have n3 : p.spans.length ≤ 1048576 := by have := sm.2.2.1; omega
    have n4 : p.ties.length ≤ 1048576 := by have := sm.2.2.2; omega
    have n5 : Strs.tot (Chunk.texts p.chunks) ≤ 1048576 := by have := sm.2.1; omega
    clear sm q0 q1
    have hal : (bestOf p a1).v.length ≤ p.rules.length := bestOf_len p a1
    obtain ⟨K1, hK1⟩ : ∃ K, K = 1 + p.rules.length * 2 + p.chunks.length * 5 + p.spans.length * 3 + p.ties.length * 2 := ⟨_, rfl⟩
    have hk1 : 1 + p.rules.length * 2 + p.chunks.length * 5 + p.spans.length * 3 + p.ties.length * 2 ≤ 1099511627776 := by omega
    obtain ⟨Q, hQ⟩ : ∃ K, K = 1 + ((bestOf p a1).v).length := ⟨_, rfl⟩
    have hq1 : 1 + ((bestOf p a1).v).length ≤ 1099511627776 := by omega
    replace hK1 := Lib.hid hK1
    replace hk1 := Lib.hid hk1
    replace hQ := Lib.hid hQ
    replace hq1 := Lib.hid hq1
    clear hal
    obtain ⟨ck0, ck1, ck2, ck3, ck4⟩ := blk5 k.out
    have lk := blk_lt k.out
    go_wp2_with fail
    refine (Piece.to_any (h.out.below hB.out) n1 n2 n3 n4).mono ?_
    rintro e w2 ⟨ro2, co2, so2, to2, rfl, o2, bw2⟩
    clear ck0 ck1 ck2 ck3 ck4 lk
    replace hB := Lib.hid (hB.out.trans (bw2.mono hB.out.size))
    replace k := Lib.hid (blk_below k.out bw2)
    clear bw2
    obtain ⟨⟨A1o2, m1o2, rfl⟩, ⟨A2o2, m2o2, rfl⟩, ⟨A3o2, m3o2, rfl⟩, ⟨A4o2, m4o2, rfl⟩⟩ := o2.row.lits
    replace o2 := Lib.hid o2
    go_wp2_with fail
    refine (spec_BestOf o2.out.row n5 a1).mono ?_
    rintro e w4 ⟨vow, rfl, ow, bw4⟩
    replace hB := Lib.hid (hB.out.trans (bw4.mono hB.out.size))
    replace k := Lib.hid (blk_below k.out bw4)
    replace o2 := Lib.hid (o2.out.below bw4)
    clear bw4
    clear o2
    generalize hans1 : (bestOf p a1).o = ans1
    replace hans1 := Lib.hid hans1
    generalize hans2 : (bestOf p a1).s = ans2
    replace hans2 := Lib.hid hans2
    generalize hans3 : (bestOf p a1).f = ans3
    replace hans3 := Lib.hid hans3
    have dd3 : (ans3 != ans3) = false := by simp
    have sk := blk_lt k.out
    have lw := Lib.hid (fun q hq => (ow.lt q hq).2)
    replace ow := Lib.hid ow
    obtain ⟨ck0, ck1, ck2, ck3, ck4⟩ := blk5 k.out
    have lk := blk_lt k.out
    have akw := (Below.refl w4.heap.size w4).alloc (Nat.le_refl _) (.cells #[.int .i64 ans1, .int .i64 ans2] 57)
    have kw := heap_alloc_new w4 (.cells #[.int .i64 ans1, .int .i64 ans2] 57)
    obtain ⟨Wkw, hWkw⟩ : ∃ W, w4.alloc (.cells #[.int .i64 ans1, .int .i64 ans2] 57) = W := ⟨_, rfl⟩
    rw [hWkw] at akw kw
    replace hWkw := Lib.hid hWkw
    have skw := akw.size
    have zkw := blk_lt kw
    replace kw := Lib.hid kw
    go_wp2_with fail
    rw [hWkw.out]
    clear hWkw
    clear ck0 ck1 ck2 ck3 ck4 lk
    replace hB := Lib.hid (hB.out.trans (akw.mono hB.out.size))
    replace k := Lib.hid (blk_below k.out akw)
    replace ow := Lib.hid (own_below ow.out akw)
    clear akw
    refine (Piece.to_any (h.out.below hB.out) n1 n2 n3 n4).mono ?_
    rintro e w5 ⟨ro5, co5, so5, to5, rfl, o5, bw5⟩
    have s5 := bw5.size
    replace hB := Lib.hid (hB.out.trans (bw5.mono hB.out.size))
    replace k := Lib.hid (blk_below k.out bw5)
    replace ow := Lib.hid (own_below ow.out bw5)
    replace kw := Lib.hid (blk_below kw.out bw5)
    clear bw5
    obtain ⟨⟨A1o5, m1o5, rfl⟩, ⟨A2o5, m2o5, rfl⟩, ⟨A3o5, m3o5, rfl⟩, ⟨A4o5, m4o5, rfl⟩⟩ := o5.row.lits
    replace o5 := Lib.hid o5
    have ax := (Below.refl w5.heap.size w5).alloc (Nat.le_refl _) (.cells #[.int .i64 p.ind, .slice A1o5 p.rules.length m1o5, .slice A2o5 p.chunks.length m2o5, .slice A3o5 p.spans.length m3o5, .slice A4o5 p.ties.length m4o5] 35)
    have kx := heap_alloc_new w5 (.cells #[.int .i64 p.ind, .slice A1o5 p.rules.length m1o5, .slice A2o5 p.chunks.length m2o5, .slice A3o5 p.spans.length m3o5, .slice A4o5 p.ties.length m4o5] 35)
    generalize hW6 : w5.alloc (.cells #[.int .i64 p.ind, .slice A1o5 p.rules.length m1o5, .slice A2o5 p.chunks.length m2o5, .slice A3o5 p.spans.length m3o5, .slice A4o5 p.ties.length m4o5] 35) = W6 at ax kx
    replace hW6 := Lib.hid hW6
    have s6 := ax.size
    have ko := Lib.hid k.out
    replace hB := Lib.hid (hB.out.trans (ax.mono hB.out.size))
    replace k := Lib.hid (blk_below k.out ax)
    replace ow := Lib.hid (own_below ow.out ax)
    replace kw := Lib.hid (blk_below kw.out ax)
    replace o5 := Lib.hid (o5.out.below ax)
    clear ax
    replace kx := Lib.hid kx
    go_wp2_with fail
    rw [hW6.out]
    clear hW6 ko
    refine (impl_BestOf o5.out.row n5 a1).mono ?_
    rintro e w8 ⟨vog, rfl, og, bw8⟩
    have s8b := bw8.size
    replace hB := Lib.hid (hB.out.trans (bw8.mono hB.out.size))
    replace k := Lib.hid (blk_below k.out bw8)
    replace ow := Lib.hid (own_below ow.out bw8)
    replace kw := Lib.hid (blk_below kw.out bw8)
    replace o5 := Lib.hid (o5.out.below bw8)
    replace kx := Lib.hid (blk_below kx.out bw8)
    clear bw8
    rw [hans1.out]
    rw [hans2.out]
    rw [hans3.out]
    have lg := Lib.hid (fun q hq => (og.lt q hq).1)
    replace og := Lib.hid og
    have lg2 := Lib.hid (fun q hq => (og.out.lt q hq).2)
    have s8 := hB.out.size
    have akg := (Below.refl w8.heap.size w8).alloc (Nat.le_refl _) (.cells #[.int .i64 ans1, .int .i64 ans2] 57)
    have kg := heap_alloc_new w8 (.cells #[.int .i64 ans1, .int .i64 ans2] 57)
    obtain ⟨Wkg, hWkg⟩ : ∃ W, w8.alloc (.cells #[.int .i64 ans1, .int .i64 ans2] 57) = W := ⟨_, rfl⟩
    rw [hWkg] at akg kg
    replace hWkg := Lib.hid hWkg
    have skg := akg.size
    have zkg := blk_lt kg
    replace kg := Lib.hid kg
    go_wp2_with fail
    rw [hWkg.out]
    clear hWkg
    replace hB := Lib.hid (hB.out.trans (akg.mono hB.out.size))
    replace k := Lib.hid (blk_below k.out akg)
    replace ow := Lib.hid (own_below ow.out akg)
    replace kw := Lib.hid (blk_below kw.out akg)
    replace o5 := Lib.hid (o5.out.below akg)
    replace kx := Lib.hid (blk_below kx.out akg)
    replace og := Lib.hid (own_below og.out akg)
    clear akg
    refine (eq_ints og.out ow.out).mono ?_
    rintro e w9 ⟨rfl, bw9⟩
    replace hB := Lib.hid (hB.out.trans (bw9.mono hB.out.size))
    replace k := Lib.hid (blk_below k.out bw9)
    replace ow := Lib.hid (own_below ow.out bw9)
    replace kw := Lib.hid (blk_below kw.out bw9)
    replace o5 := Lib.hid (o5.out.below bw9)
    replace kx := Lib.hid (blk_below kx.out bw9)
    replace og := Lib.hid (own_below og.out bw9)
    replace kg := Lib.hid (blk_below kg.out bw9)
    clear bw9
    obtain ⟨ckg0, ckg1⟩ := blk2 kg.out
    have lkg := blk_lt kg.out
    obtain ⟨ckw0, ckw1⟩ := blk2 kw.out
    have lkw := blk_lt kw.out
    go_wp2_with fail
    refine (Cost.eq_self ans1 ans2 _).mono ?_
    rintro e w9c ⟨rfl, bw9c⟩
    clear ckg0 ckg1 lkg ckw0 ckw1 lkw
    replace hB := Lib.hid (hB.out.trans (bw9c.mono hB.out.size))
    replace k := Lib.hid (blk_below k.out bw9c)
    replace ow := Lib.hid (own_below ow.out bw9c)
    replace kw := Lib.hid (blk_below kw.out bw9c)
    replace o5 := Lib.hid (o5.out.below bw9c)
    replace kx := Lib.hid (blk_below kx.out bw9c)
    replace og := Lib.hid (own_below og.out bw9c)
    replace kg := Lib.hid (blk_below kg.out bw9c)
    clear bw9c
    obtain ⟨ck0, ck1, ck2, ck3, ck4⟩ := blk5 k.out
    have lk := blk_lt k.out
    obtain ⟨ckx0, ckx1, ckx2, ckx3, ckx4⟩ := blk5 kx.out
    have lkx := blk_lt kx.out
    go_wp2
    refine wp_region_below [(0, true), (1, true), (2, false), (3, false), (4, false)] (by kernel_rfl) (by kernel_rfl) (fun d _ _ _ _ h => by cases d <;> exact h) ?_
    repeat
     (refine mix_still rfl (by rfl) ?_
      apply Exists.intro
      refine ⟨fun w' hS => ?_, ?_⟩
      · (have hS' := cells_of hS; clear hS; go_simp; (try go_bits); first | with_reducible rfl | (refine (if_pos ?_).trans ?_; omega; with_reducible rfl))
      (go_simp; (try go_bits)))
    refine mix_loud rfl (fun K hK => ?_)
    (go_simp; (try go_bits))
    refine (Piece.to_any (h.out.below hB.out).drew n1 n2 n3 n4).mono ?_
    rintro _ wA ⟨rA, cA, sA, tA, rfl, oA, bA⟩
    have bAx := bA
    replace bA := of_drew bA
    refine hK _ _ (fun _ => bA) ?_
    clear hK K
    (go_simp; (try go_bits))
    refine mix_loud rfl (fun K hK => ?_)
    (go_simp; (try go_bits))
    refine (Piece.eq_self (o5.out.drew.below bAx).row oA.row).mono ?_
    rintro _ wC ⟨rfl, bC⟩
    have bCx := bC
    replace bC := thenBelow bA bC
    refine hK _ _ (fun _ => bC) ?_
    clear hK K
    (go_simp; (try go_bits))
    refine mix_loud rfl (fun K hK => ?_)
    (go_simp; (try go_bits))
    refine hK _ _ (no_need (by kernel_rfl)) ?_
    clear hK K
    try (go_simp; (try go_bits))
    refine mix_nil ?_
    clear bA bAx bCx oA
    clear ck0 ck1 ck2 ck3 ck4 lk ckx0 ckx1 ckx2 ckx3 ckx4 lkx
    replace hB := Lib.hid (hB.out.trans (bC.mono hB.out.size))
    replace k := Lib.hid (blk_below k.out bC)
    replace ow := Lib.hid (own_below ow.out bC)
    replace kw := Lib.hid (blk_below kw.out bC)
    replace o5 := Lib.hid (o5.out.below bC)
    replace kx := Lib.hid (blk_below kx.out bC)
    replace og := Lib.hid (own_below og.out bC)
    replace kg := Lib.hid (blk_below kg.out bC)
    clear bC
    obtain ⟨ckx0, ckx1, ckx2, ckx3, ckx4⟩ := blk5 kx.out
    have lkx := blk_lt kx.out
    go_wp2_with fail
    refine (Piece.mark_any (k := 1) o5.out (by omega) hk1.out).mono ?_
    rintro e w13 ⟨rfl, tw⟩
    rw [← hK1.out]
    clear ckx0 ckx1 ckx2 ckx3 ckx4 lkx
    replace hB := Lib.hid (tw.to_below hB.out (by omega) hB.out.size)
    replace ow := Lib.hid (tw.owns ow.out (fun q hq => .inl (by have := lw.out q hq; omega)))
    replace og := Lib.hid (tw.owns og.out (fun q hq => .inr (by have := lg.out q hq; omega)))
    replace k := Lib.hid (tw.blk k.out (.inl (by omega)))
    replace kw := Lib.hid (tw.blk kw.out (.inl (by omega)))
    replace kg := Lib.hid (tw.blk kg.out (.inr (by omega)))
    clear tw o5 kx
    have dk : decide ((K1 : Int) < 0) = false := decide_eq_false (by omega)
    go_wp2_with fail
    refine (eq_ints og.out ow.out).mono ?_
    rintro e w15 ⟨rfl, bw15⟩
    replace hB := Lib.hid (hB.out.trans (bw15.mono hB.out.size))
    replace k := Lib.hid (blk_below k.out bw15)
    replace ow := Lib.hid (own_below ow.out bw15)
    replace kw := Lib.hid (blk_below kw.out bw15)
    replace og := Lib.hid (own_below og.out bw15)
    replace kg := Lib.hid (blk_below kg.out bw15)
    clear bw15
    obtain ⟨ckg0, ckg1⟩ := blk2 kg.out
    have lkg := blk_lt kg.out
    obtain ⟨ckw0, ckw1⟩ := blk2 kw.out
    have lkw := blk_lt kw.out
    go_wp2_with fail
    refine (Cost.eq_self ans1 ans2 _).mono ?_
    rintro e w15c ⟨rfl, bw15c⟩
    clear ckg0 ckg1 lkg ckw0 ckw1 lkw
    replace hB := Lib.hid (hB.out.trans (bw15c.mono hB.out.size))
    replace k := Lib.hid (blk_below k.out bw15c)
    replace ow := Lib.hid (own_below ow.out bw15c)
    replace kw := Lib.hid (blk_below kw.out bw15c)
    replace og := Lib.hid (own_below og.out bw15c)
    replace kg := Lib.hid (blk_below kg.out bw15c)
    clear bw15c
    clear kg
    go_wp2_with fail
    refine (MarkInts.mark_any (k := 1) og.out hq1.out).mono ?_
    rintro e w16 ⟨rfl, og2, k16⟩
    rw [← hQ.out]
    replace hB := Lib.hid (hB.out.grown k16 hB.out.size (fun q hq => by have := lg.out q hq; omega))
    replace k := Lib.hid ((k16.block _ (blk_lt k.out) (fun e => by have := lg.out _ e.symm; omega)).trans k.out)
    replace ow := Lib.hid (owns_kept ow.out k16 (fun q hq e => by have := lw.out q hq; have := lg.out q e; omega))
    replace kw := Lib.hid ((k16.block _ (blk_lt kw.out) (fun e => by have := lg.out _ e.symm; omega)).trans kw.out)
    clear k16
    replace og := Lib.hid og2
    clear og2
    have dq : decide ((Q : Int) < 0) = false := decide_eq_false (by omega)
    have dm : ((Q : Int) != (Q : Int)) = false := by simp
    go_wp2_with fail
    refine (MarkInts.held_any (k := 1) (row_of_owns og.out) hq1.out).mono ?_
    rintro e w17 ⟨rfl, bw17⟩
    rw [← hQ.out]
    replace hB := Lib.hid (hB.out.trans (bw17.mono hB.out.size))
    replace k := Lib.hid (blk_below k.out bw17)
    replace ow := Lib.hid (own_below ow.out bw17)
    replace kw := Lib.hid (blk_below kw.out bw17)
    replace og := Lib.hid (own_below og.out bw17)
    clear bw17
    obtain ⟨ck0, ck1, ck2, ck3, ck4⟩ := blk5 k.out
    have lk := blk_lt k.out
    go_wp2_with fail
    refine (Piece.to_any (h.out.below hB.out) n1 n2 n3 n4).mono ?_
    rintro e w18 ⟨ro18, co18, so18, to18, rfl, o18, bw18⟩
    clear ck0 ck1 ck2 ck3 ck4 lk
    replace hB := Lib.hid (hB.out.trans (bw18.mono hB.out.size))
    replace k := Lib.hid (blk_below k.out bw18)
    replace ow := Lib.hid (own_below ow.out bw18)
    replace kw := Lib.hid (blk_below kw.out bw18)
    replace og := Lib.hid (own_below og.out bw18)
    clear bw18
    obtain ⟨⟨A1o18, m1o18, rfl⟩, ⟨A2o18, m2o18, rfl⟩, ⟨A3o18, m3o18, rfl⟩, ⟨A4o18, m4o18, rfl⟩⟩ := o18.row.lits
    replace o18 := Lib.hid o18
    go_wp2_with fail
    refine (impl_BestOf o18.out.row n5 a1).mono ?_
    rintro e w20 ⟨voh, rfl, oh, bw20⟩
    replace hB := Lib.hid (hB.out.trans (bw20.mono hB.out.size))
    replace k := Lib.hid (blk_below k.out bw20)
    replace ow := Lib.hid (own_below ow.out bw20)
    replace kw := Lib.hid (blk_below kw.out bw20)
    replace og := Lib.hid (own_below og.out bw20)
    replace o18 := Lib.hid (o18.out.below bw20)
    clear bw20
    clear o18
    rw [hans1.out]
    rw [hans2.out]
    rw [hans3.out]
    replace oh := Lib.hid oh
    have akh := (Below.refl w20.heap.size w20).alloc (Nat.le_refl _) (.cells #[.int .i64 ans1, .int .i64 ans2] 57)
    have kh := heap_alloc_new w20 (.cells #[.int .i64 ans1, .int .i64 ans2] 57)
    obtain ⟨Wkh, hWkh⟩ : ∃ W, w20.alloc (.cells #[.int .i64 ans1, .int .i64 ans2] 57) = W := ⟨_, rfl⟩
    rw [hWkh] at akh kh
    replace hWkh := Lib.hid hWkh
    have skh := akh.size
    have zkh := blk_lt kh
    replace kh := Lib.hid kh
    go_wp2_with fail
    rw [hWkh.out]
    clear hWkh
    replace hB := Lib.hid (hB.out.trans (akh.mono hB.out.size))
    replace k := Lib.hid (blk_below k.out akh)
    replace ow := Lib.hid (own_below ow.out akh)
    replace kw := Lib.hid (blk_below kw.out akh)
    replace og := Lib.hid (own_below og.out akh)
    replace oh := Lib.hid (own_below oh.out akh)
    clear akh
    refine (eq_ints oh.out ow.out).mono ?_
    rintro e w21 ⟨rfl, bw21⟩
    replace hB := Lib.hid (hB.out.trans (bw21.mono hB.out.size))
    replace k := Lib.hid (blk_below k.out bw21)
    replace ow := Lib.hid (own_below ow.out bw21)
    replace kw := Lib.hid (blk_below kw.out bw21)
    replace og := Lib.hid (own_below og.out bw21)
    replace oh := Lib.hid (own_below oh.out bw21)
    replace kh := Lib.hid (blk_below kh.out bw21)
    clear bw21
    obtain ⟨ckh0, ckh1⟩ := blk2 kh.out
    have lkh := blk_lt kh.out
    obtain ⟨ckw0, ckw1⟩ := blk2 kw.out
    have lkw := blk_lt kw.out
    go_wp2_with fail
    refine (Cost.eq_self ans1 ans2 _).mono ?_
    rintro e w21c ⟨rfl, bw21c⟩
    clear ckh0 ckh1 lkh ckw0 ckw1 lkw
    replace hB := Lib.hid (hB.out.trans (bw21c.mono hB.out.size))
    replace k := Lib.hid (blk_below k.out bw21c)
    replace ow := Lib.hid (own_below ow.out bw21c)
    replace kw := Lib.hid (blk_below kw.out bw21c)
    replace og := Lib.hid (own_below og.out bw21c)
    replace oh := Lib.hid (own_below oh.out bw21c)
    replace kh := Lib.hid (blk_below kh.out bw21c)
    clear bw21c
    go_wp2_with fail
    refine (MarkInts.held_any (k := 1) (row_of_owns og.out) hq1.out).mono ?_
    rintro e w22 ⟨rfl, bw22⟩
    rw [← hQ.out]
    replace hB := Lib.hid (hB.out.trans (bw22.mono hB.out.size))
    replace k := Lib.hid (blk_below k.out bw22)
    replace ow := Lib.hid (own_below ow.out bw22)
    replace kw := Lib.hid (blk_below kw.out bw22)
    replace og := Lib.hid (own_below og.out bw22)
    replace oh := Lib.hid (own_below oh.out bw22)
    replace kh := Lib.hid (blk_below kh.out bw22)
    clear bw22
    go_wp2
    go_ret
    exact ⟨rfl, hB.out⟩
set_option maxRecDepth 100000 in
theorem walk (v0 : Value) {base : Nat} {w : World} (o0 : Value.okWide Try.prog w .any base 27 v0) {H : Type} {enc : TypeId × Value → H} {d0 : DataW H} {p0 : List MemPlace} (h0 : DataW.Trod enc Try.prog w 0 (fun _ => true) true 27 v0 d0 p0) (a1 : Int) (x1 : (Lit.int .i64 a1).wf = true) :
    Calls Try.prog 12 #[v0, .int .i64 a1] w fun e w' => e = .returned (.bool true) ∧ Below w.heap.size w w' := by
  obtain ⟨p, vr, vc, vs, vt, rfl, hp, hs⟩ := Piece.row_piece o0 h0
  exact walkN hp hs a1
theorem own : ownKnob Try.prog.godebug = none := by kernel_rfl
theorem laidOut : laidOutB Try.prog = true := by kernel_rfl
set_option maxRecDepth 100000 in
theorem lifted (os : Os) (started : os.Started) (H : Type) (enc : TypeId × Value → H) :
    ReturnsInHanded {} Try.checked os 12 .any (Rows.fnExactBestOfSpec.pre6 enc Try.prog Try.f12 Rows.fnExactBestOfRow.domain false) (Rows.fnExactBestOfSpec.post enc Try.prog Try.f12 false true false false) := by
  refine returnsInHanded_of_change (C := Try.checked) own started (by kernel_rfl) Try.func12
    (ChangeSpec.witness6 (enc := enc) (C := Try.checked) false ⟨#[], #[.agg #[.int .i64 0, .slice none 0 0, .slice none 0 0, .slice none 0 0, .slice none 0 0], .int .i64 0], []⟩ 8 (by kernel_rfl) (by kernel_rfl) (by kernel_rfl) (by kernel_rfl)) ?_
  intro W base args ds gs before hval0 hW hcnd _
  have hval : ∀ (j : Nat) t v, Try.f12.params[j]? = some t → args[j]? = some v → Value.okWide Try.prog W .any base t v := hval0
  have hW' := hW
  obtain ⟨p, q, hA0, hV, rfl, hfz, hnd⟩ := hW
  have hA : DataW.TrodAll enc Try.prog W 0 (fun _ => true) true Try.f12.params.toList args.toList ds p := hA0
  rw [Try.params12] at hA hval
  obtain ⟨v0, vs0, d0, ds0, p0, q0, hargs, rfl, rfl, h0, r0⟩ := trodAll_cons hA
  obtain ⟨v1, vs1, d1, ds1, p1, q1, rfl, rfl, rfl, h1, r1⟩ := trodAll_cons r0
  obtain ⟨rfl, rfl, rfl⟩ := trodAll_nil r1
  obtain rfl : args = #[v0, v1] := by cases args; simp_all
  obtain ⟨rfl, rfl⟩ := trodVars_none hV
  have k0 := h0
  have o0 := hval 0 27 v0 rfl rfl
  have k1 := h1
  obtain ⟨a1, rfl, rfl, rfl, w1⟩ := open_int Try.underlying3 (hval 1 3 v1 rfl rfl) h1
  clear hA0 hval0
  simp only [List.append_nil] at hW'
  have hlt := fun x hx => DataW.Whole.lt hW' x hx
  refine (walk v0 o0 h0 a1 w1).mono fun e W' ⟨he, hg⟩ => ?_
  subst he
  exact ⟨_, rfl, Post.post_of_below (pa := p0 ++ ([] ++ ([]))) (pv := []) hW' (fun _ _ _ => (trodAll_cons_mk (shut_bool Try.underlying4 _) trodAll_mk0)) (fun sp hsp => (trodAll_cons_mk (Post.stays laidOut (by kernel_rfl) (of_decide_eq_true (by kernel_rfl)) k0 hg (fun x hx => by first | (cases hx; done) | simp [hx]) hlt hsp) (trodAll_cons_mk (Post.stays laidOut (by kernel_rfl) (of_decide_eq_true (by kernel_rfl)) k1 hg (fun x hx => by first | (cases hx; done) | simp [hx]) hlt hsp) trodAll_mk0))) (fun _ _ => rfl) (by simp)
    hg (ok_one (by kernel_rfl) rfl (okWide_bool_mk Try.underlying4 _))⟩

theorem over : Rows.fnExactBestOfRow.holds Try.pinned (OpenSpec.ofChange Rows.fnExactBestOfSpec) :=
  OpenClaim.holds_of_wide 12 Try.f12 rfl rfl rfl rfl rfl rfl rfl ⟨rfl, rfl, rfl, rfl, rfl⟩ rfl rfl rfl rfl rfl (by kernel_rfl) Try.func12 (by kernel_rfl)
    (of_decide_eq_true (by kernel_rfl)) (by unfold Func.isWrapper; first | (rw [if_pos (by decide +kernel)]; kernel_rfl) | (rw [if_neg (by decide +kernel)]; exact ⟨rfl, rfl⟩))
    (fun os started H enc _ => lifted os started H enc)

/-- THE STATEMENT -/
theorem proved : Rows.FnExactBestOfSaid :=
  over
end Go.Proofs.Ytlakellmdcdaaaa.lawBestOf
