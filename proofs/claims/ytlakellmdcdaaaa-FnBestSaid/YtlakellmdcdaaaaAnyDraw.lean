/-
  The contract of the reference's draw of any piece, l08Any.
  Conditions: the code that is drawn from reads as bytes.
-/
import Derived.Test.YtlakellmdcdaaaaCopy
import Derived.Deep.Cut
import Derived.Test.YtlakellmdcdaaaaPc1a
namespace Go.Proofs.Ytlakellmdcdaaaa.Draw
open Go.RowKit Go.Proofs.Ytlakellmdcdaaaa.Row Go.Proofs.Ytlakellmdcdaaaa.Mem Go.Proofs.Ytlakellmdcdaaaa.Mix Go.Proofs.Ytlakellmdcdaaaa.Owns Go.Proofs.Ytlakellmdcdaaaa.Blocks Go.Proofs.Ytlakellmdcdaaaa.Piece Go.Proofs.Ytlakellmdcdaaaa.Pc
/-- a cell of an owned row written -/
theorem owns_setz {w : World} {e g n cap base size : Nat} {cs : List Value} (h : w.ownsRow base e size (.slice (some ⟨g, 0, none⟩) n cap) n cs) (j : Nat) (u : Value) :
    (w.setCell ⟨g, j, none⟩ u).ownsRow base e size (.slice (some ⟨g, 0, none⟩) n cap) n (cs.set j u) := by
  obtain ⟨hl, h2⟩ := h
  refine ⟨by simpa using hl, ?_⟩
  rcases h2 with ⟨h0, _⟩ | ⟨g', cap', cur, hv, hb, hg, hnc, hcm, hcs, ht⟩
  · cases h0
  · cases hv
    refine .inr ⟨g, cap, _, rfl, hb, heap_set hg j u, hnc, hcm, by simpa using hcs, ?_⟩
    rw [Array.toList_setIfInBounds, List.take_set, ht]
/-- a cell of the rules written -/
theorem PS.set_rules {w0 w : World} {cv : Value} {g R bp q cap : Nat} {p : P} {r c s t : Value} (h : PS w0 w cv g R bp p (.slice (some ⟨q, 0, none⟩) p.rules.length cap) c s t) (j : Nat) (u : Value) (ys : List Rule.T) (hl : ys.length = p.rules.length) (hcs : (Rule.cs p.rules).set j u = Rule.cs ys) :
    PS w0 (w.setCell ⟨q, j, none⟩ u) cv g R bp { p with rules := ys } (.slice (some ⟨q, 0, none⟩) p.rules.length cap) c s t := by
  have hq : w0.heap.size ≤ q := (h.o1.lt q rfl).1
  have hg := h.hg; have hR := h.hR; have hbp := h.hbp
  have k : w.grownBy (w.setCell ⟨q, j, none⟩ u) (some q) := grown_set (World.grownBy.refl w _) j u
  have hn := owns_setz h.o1 j u
  rw [hcs] at hn
  have nR : some R ≠ some q := fun e => own_ne h.o1 h.res (by decide) e.symm
  have nB : some bp ≠ some q := fun e => own_ne h.o1 h.blk (by decide) e.symm
  exact ⟨h.cur.grown k (fun q' e => by injection e; omega), keep_grown h.keep k (fun q' e => by injection e; omega), (k.block R (blk_lt h.res) nR).trans h.res, (k.block bp (blk_lt h.blk) nB).trans h.blk, by rw [show ({ p with rules := ys } : P).rules.length = p.rules.length from hl]; exact hn, owns_kept h.o2 k (fun q2 hq2 e => own_two h.o1 h.o2 (by decide) q rfl (by rw [hq2, e])), owns_kept h.o3 k (fun q2 hq2 e => own_two h.o1 h.o3 (by decide) q rfl (by rw [hq2, e])), owns_kept h.o4 k (fun q2 hq2 e => own_two h.o1 h.o4 (by decide) q rfl (by rw [hq2, e])), hg, hR, hbp, h.hne⟩
/-- a cell of the chunks written -/
theorem PS.set_chunks {w0 w : World} {cv : Value} {g R bp q cap : Nat} {p : P} {r c s t : Value} (h : PS w0 w cv g R bp p r (.slice (some ⟨q, 0, none⟩) p.chunks.length cap) s t) (j : Nat) (u : Value) (ys : List Chunk.T) (hl : ys.length = p.chunks.length) (hcs : (Chunk.cs p.chunks).set j u = Chunk.cs ys) :
    PS w0 (w.setCell ⟨q, j, none⟩ u) cv g R bp { p with chunks := ys } r (.slice (some ⟨q, 0, none⟩) p.chunks.length cap) s t := by
  have hq : w0.heap.size ≤ q := (h.o2.lt q rfl).1
  have hg := h.hg; have hR := h.hR; have hbp := h.hbp
  have k : w.grownBy (w.setCell ⟨q, j, none⟩ u) (some q) := grown_set (World.grownBy.refl w _) j u
  have hn := owns_setz h.o2 j u
  rw [hcs] at hn
  have nR : some R ≠ some q := fun e => own_ne h.o2 h.res (by decide) e.symm
  have nB : some bp ≠ some q := fun e => own_ne h.o2 h.blk (by decide) e.symm
  exact ⟨h.cur.grown k (fun q' e => by injection e; omega), keep_grown h.keep k (fun q' e => by injection e; omega), (k.block R (blk_lt h.res) nR).trans h.res, (k.block bp (blk_lt h.blk) nB).trans h.blk, owns_kept h.o1 k (fun q2 hq2 e => own_two h.o2 h.o1 (by decide) q rfl (by rw [hq2, e])), by rw [show ({ p with chunks := ys } : P).chunks.length = p.chunks.length from hl]; exact hn, owns_kept h.o3 k (fun q2 hq2 e => own_two h.o2 h.o3 (by decide) q rfl (by rw [hq2, e])), owns_kept h.o4 k (fun q2 hq2 e => own_two h.o2 h.o4 (by decide) q rfl (by rw [hq2, e])), hg, hR, hbp, h.hne⟩
/-- a cell of a row of records written: one record is another -/
theorem flat_set {α : Type} {f : α → List Value} {s : Nat} (hf : ∀ x, (f x).length = s) : ∀ (xs : List α) (i j : Nat) (u : Value) (y : α) (hi : i < xs.length), j < s → (f xs[i]).set j u = f y → (xs.flatMap f).set (i * s + j) u = (xs.set i y).flatMap f
  | [], _, _, _, _, hi, _, _ => absurd hi (Nat.not_lt_zero _)
  | x :: xs, 0, j, u, y, _, hj, h => by
    rw [List.flatMap_cons, Nat.zero_mul, Nat.zero_add, List.set_append_left _ _ (by rw [hf]; exact hj), List.set_cons_zero, List.flatMap_cons]
    rw [show (f x).set j u = f y from h]
  | x :: xs, i + 1, j, u, y, hi, hj, h => by
    rw [List.flatMap_cons, Nat.add_mul, Nat.one_mul, List.set_append_right _ _ (by rw [hf]; omega), hf, show i * s + s + j - s = i * s + j from by omega, flat_set hf xs i j u y (by simpa using hi) hj h, List.set_cons_succ, List.flatMap_cons]
/-- the indent written -/
theorem PS.set0 {w0 w : World} {cv : Value} {g R bp : Nat} {p : P} {r c s t : Value} (h : PS w0 w cv g R bp p r c s t) (u : Int) : PS w0 (w.setCell ⟨bp, 0, none⟩ (.int .i64 u)) cv g R bp { p with ind := u } r c s t := by
  have hg := h.hg; have hR := h.hR; have hbp := h.hbp; have hne := h.hne
  have ks : w.grownBy (w.setCell ⟨bp, 0, none⟩ (.int .i64 u)) (some bp) := grown_set (World.grownBy.refl w _) 0 _
  exact ⟨h.cur.grown ks (fun q e => by injection e; omega), keep_grown h.keep ks (fun q e => by injection e; omega), (Below.heap_setCell w ⟨bp, 0, none⟩ _ R hne).trans h.res, by simpa using heap_set h.blk 0 (.int .i64 u), owns_kept h.o1 ks (fun q hq e => own_ne h.o1 h.blk (by decide) (by rw [hq, e])), owns_kept h.o2 ks (fun q hq e => own_ne h.o2 h.blk (by decide) (by rw [hq, e])), owns_kept h.o3 ks (fun q hq e => own_ne h.o3 h.blk (by decide) (by rw [hq, e])), owns_kept h.o4 ks (fun q hq e => own_ne h.o4 h.blk (by decide) (by rw [hq, e])), hg, hR, hbp, hne⟩
/-- other rules laid into the piece's block -/
theorem PS.new1 {w0 w : World} {cv : Value} {g R bp : Nat} {p : P} {r c s t v' : Value} {ys : List Rule.T} (h : PS w0 w cv g R bp p r c s t) (hn : w.ownsRow w0.heap.size 80 2 v' ys.length (Rule.cs ys)) :
    PS w0 (w.setCell ⟨bp, 1, none⟩ v') cv g R bp { p with rules := ys } v' c s t := by
  have hg := h.hg; have hR := h.hR; have hbp := h.hbp; have hne := h.hne
  have ks : w.grownBy (w.setCell ⟨bp, 1, none⟩ v') (some bp) := grown_set (World.grownBy.refl w _) 1 _
  exact ⟨h.cur.grown ks (fun q e => by injection e; omega), keep_grown h.keep ks (fun q e => by injection e; omega), (Below.heap_setCell w ⟨bp, 1, none⟩ _ R hne).trans h.res, by simpa using heap_set h.blk 1 v', owns_kept hn ks (fun q hq e => own_ne hn h.blk (by decide) (by rw [hq, e])), owns_kept h.o2 ks (fun q hq e => own_ne h.o2 h.blk (by decide) (by rw [hq, e])), owns_kept h.o3 ks (fun q hq e => own_ne h.o3 h.blk (by decide) (by rw [hq, e])), owns_kept h.o4 ks (fun q hq e => own_ne h.o4 h.blk (by decide) (by rw [hq, e])), hg, hR, hbp, hne⟩
end Go.Proofs.Ytlakellmdcdaaaa.Draw
/-
  The contract of the reference's draw of any piece, l08Any.
  Conditions: the code that is drawn from reads as bytes.
-/
namespace Go.Proofs.Ytlakellmdcdaaaa.Draw
open Go.RowKit Go.Proofs.Ytlakellmdcdaaaa.Row Go.Proofs.Ytlakellmdcdaaaa.Mem Go.Proofs.Ytlakellmdcdaaaa.Mix Go.Proofs.Ytlakellmdcdaaaa.Owns Go.Proofs.Ytlakellmdcdaaaa.Blocks Go.Proofs.Ytlakellmdcdaaaa.Piece Go.Proofs.Ytlakellmdcdaaaa.Pc
/-- what is known of any drawn piece -/
structure Sm (p : P) : Prop where
  rules : p.rules.length ≤ 10
  chunks : p.chunks.length ≤ 9
  texts : ∀ x ∈ p.chunks, x.t.size ≤ 11
  spans : p.spans.length ≤ 3
  ties : p.ties.length ≤ 3
theorem rt_small {p : P} (h : Rt p) : p.rules.length ≤ 5 ∧ 1 ≤ p.rules.length ∧ 1 ≤ p.chunks.length ∧ p.chunks.length ≤ 9 ∧ p.spans.length ≤ 2 ∧ p.ties.length ≤ 2 ∧ ∀ x ∈ p.chunks, x.t.size ≤ 11 := by
  obtain ⟨cs, x, hc, hl, hcs, hx, hs, -, ht, -⟩ := h.chunks
  refine ⟨h.r5, h.r1, by rw [hc]; simp, by rw [hc]; simp; omega, hs, ht, fun y hy => ?_⟩
  rw [hc] at hy
  rcases List.mem_append.1 hy with hy | hy
  · exact (hcs y hy).2.1
  · obtain rfl := List.mem_singleton.1 hy; exact hx.2.1
theorem owns_some {w : World} {base e size n : Nat} {v : Value} {cs : List Value} (h : w.ownsRow base e size v n cs) (hn : 0 < n) : ∃ q cap, v = .slice (some ⟨q, 0, none⟩) n cap ∧ base ≤ q ∧ n ≤ cap ∧ cap ≤ maxLen := by
  rcases h.2 with ⟨_, h0⟩ | ⟨q, cap, cur, rfl, hb, hq, hnc, hcm, _⟩
  · omega
  · exact ⟨q, cap, rfl, hb, hnc, hcm⟩
/-- the block of a row that is not empty -/
theorem owns_blk {w : World} {base e size n q cap : Nat} {cs : List Value} (h : w.ownsRow base e size (.slice (some ⟨q, 0, none⟩) n cap) n cs) : ∃ cur, w.heap[q]? = some (.cells cur e (0, 0)) ∧ n * size ≤ cur.size := by
  rcases h.2 with ⟨h0, _⟩ | ⟨q', cap', cur, hv, hb, hq, hnc, hcm, hcs, _⟩
  · cases h0
  · cases hv
    exact ⟨cur, hq, by rw [hcs]; exact Nat.mul_le_mul hnc (Nat.le_refl _)⟩
set_option maxRecDepth 100000 in
set_option maxHeartbeats 6400000 in
theorem anyp_any {w : World} {cv : Value} {g : Nat} (hc : Cur w cv g) :
    Calls Try.prog 96 #[cv] w fun e w' => ∃ (p : P) (r c s t : Value), Sm p ∧ e = .returned (pv p.ind r c s t) ∧ PO w w' cv g p r c s t := by
  have hg := hc.lt
  have hal := (Below.refl w.heap.size w).alloc (Nat.le_refl _) (.cells #[.int .i64 0, .slice none 0 0, .slice none 0 0, .slice none 0 0, .slice none 0 0] 35)
  have c0 := hc.below hal
  have k0 := keep_below (keep_refl g w) hal
  have r0 := heap_alloc_new w (.cells #[.int .i64 0, .slice none 0 0, .slice none 0 0, .slice none 0 0, .slice none 0 0] 35)
  replace hc := Lib.hid hc
  go_enter Try.func96, Try.ntmps96
  go_wp2_with fail
  refine (below_any c0 14).mono ?_
  rintro e w1 ⟨k, x0, x1, -, rfl, c1, k1⟩
  replace r0 := (k1.block _ (blk_lt r0) (fun e => by injection e; omega)).trans r0
  replace k1 := keep_trans k0 k1
  clear c0 k0 hal
  go_wp2_with fail
  refine (below_any c1 60).mono ?_
  rintro e w2 ⟨y, y0, y1, -, rfl, c2, k2⟩
  have y2 := y1 (by omega)
  replace r0 := (k2.block _ (blk_lt r0) (fun e => by injection e; omega)).trans r0
  replace k2 := keep_trans k1 k2
  clear c1 k1 y1
  go_wp2_with fail
  refine (piece_any c2).mono ?_
  rintro e w3 ⟨p, r, c, s, t, hR, rfl, hO⟩
  obtain ⟨m1, m2, m3, m4, m5, m6, m7⟩ := rt_small hR
  replace r0 := (hO.keep.block _ (blk_lt r0) (fun e => by injection e; omega)).trans r0
  have k3 := keep_trans k2 hO.keep
  have hcp := copy_any (w := w3) (p := p) ⟨row_of_owns hO.o1, row_of_owns hO.o2, row_of_owns hO.o3, row_of_owns hO.o4⟩ (by omega) (by omega) (by omega) (by omega)
  have c3 := hO.cur
  clear hO k2 c2
  replace hcp := Lib.hid hcp
  replace m7 := Lib.hid m7
  go_wp2_with fail
  refine hcp.out.mono ?_
  rintro e w4 ⟨r', c', s', t', rfl, o1, o2, o3, o4, b4⟩
  obtain ⟨g1, q1, rfl, -, -, -⟩ := owns_some o1 (by omega)
  obtain ⟨g2, q2, rfl, -, -, -⟩ := owns_some o2 (by omega)
  obtain ⟨A3, q3, rfl, -⟩ := row_of_owns o3
  obtain ⟨A4, q4, rfl, -⟩ := row_of_owns o4
  have l3 : w.heap.size ≤ w3.heap.size := k3.size
  replace r0 := blk_below r0 b4
  have k4 := keep_below k3 b4
  have l4 : w.heap.size ≤ w4.heap.size := k4.size
  have lr := blk_lt r0
  have hS : PS w (w4.alloc (.cells #[.int .i64 p.ind, .slice (some ⟨g1, 0, none⟩) p.rules.length q1, .slice (some ⟨g2, 0, none⟩) p.chunks.length q2, .slice A3 p.spans.length q3, .slice A4 p.ties.length q4] 35)) cv g w.heap.size w4.heap.size p (.slice (some ⟨g1, 0, none⟩) p.rules.length q1) (.slice (some ⟨g2, 0, none⟩) p.chunks.length q2) (.slice A3 p.spans.length q3) (.slice A4 p.ties.length q4) :=
    have hal := (Below.refl w4.heap.size w4).alloc (Nat.le_refl _) (.cells #[.int .i64 p.ind, .slice (some ⟨g1, 0, none⟩) p.rules.length q1, .slice (some ⟨g2, 0, none⟩) p.chunks.length q2, .slice A3 p.spans.length q3, .slice A4 p.ties.length q4] 35)
    ⟨(c3.below b4).below hal, keep_below k4 hal, blk_below r0 hal, heap_alloc_new w4 _, own_below (own_mono o1 l3) hal, own_below (own_mono o2 l3) hal, own_below (own_mono o3 l3) hal, own_below (own_mono o4 l3) hal, hg, Nat.le_refl _, l4, by omega⟩
  clear o1 o2 o3 o4 c3 k3 k4 r0 b4 hcp lr
  obtain ⟨bp, hbp⟩ : ∃ bp, w4.heap.size = bp := ⟨_, rfl⟩
  rw [hbp] at hS
  obtain ⟨i, hi, hil⟩ : ∃ i : Nat, y.tmod (p.chunks.length : Int) = (i : Int) ∧ i < p.chunks.length := by
    have e := Int.tmod_eq_emod_of_nonneg (b := (p.chunks.length : Int)) y0
    have h1 := Int.emod_nonneg y (show ((p.chunks.length : Int)) ≠ 0 by omega)
    have h2 := Int.emod_lt_of_pos y (show (0 : Int) < (p.chunks.length : Int) by omega)
    exact ⟨(y % p.chunks.length).toNat, by rw [e]; omega, by omega⟩
  have hz : ((p.chunks.length : Int) == 0) = false := beq_eq_false_iff_ne.2 (by omega)
  have hsm : Hid (Sm p) := Lib.hid ⟨by omega, m4, m7.out, by omega, by omega⟩
  replace hS := Lib.hid hS
  go_upto_region 4 with fail
  replace hS := hS.out
  obtain ⟨W, hW⟩ : ∃ W, w4.alloc (.cells #[.int .i64 p.ind, .slice (some ⟨g1, 0, none⟩) p.rules.length q1, .slice (some ⟨g2, 0, none⟩) p.chunks.length q2, .slice A3 p.spans.length q3, .slice A4 p.ties.length q4] 35) = W := ⟨_, rfl⟩
  rw [hW] at hS ⊢
  clear hW
  have hne := hS.hne
  have hnb : bp ≠ w.heap.size := fun e => hne e.symm
  obtain ⟨b0, b1, b2, b3, b4⟩ := blk5 hS.blk
  have fb := frz hS.blk
  have lb := blk_lt hS.blk
  have lr := blk_lt hS.res
  have fr := frz hS.res
  obtain ⟨r0', r1', r2', r3', r4'⟩ := blk5 hS.res
  replace hS := Lib.hid hS
  have hk : k = 0 ∨ k = 1 ∨ k = 2 ∨ k = 3 ∨ k = 4 ∨ k = 5 ∨ k = 6 ∨ k = 7 ∨ 8 ≤ k := by omega
  rcases hk with rfl | rfl | rfl | rfl | rfl | rfl | rfl | rfl | hk
  · have hm : y.tmod 3 = 0 ∨ y.tmod 3 = 1 ∨ y.tmod 3 = 2 := by rw [Int.tmod_eq_emod_of_nonneg y0]; omega
    rcases hm with hm | hm | hm
    · have hF := PS.below (PS.set0 hS.out (-1)) ((Below.refl _ _).alloc (Nat.le_refl _) (.cells #[.int .i64 (-1), .int .i64 60, .int .i64 61] 3))
      go_upto_region 22 with fail
      obtain ⟨V, hV⟩ : ∃ V, (W.setCell ⟨bp, 0, none⟩ (.int .i64 (-1))).alloc (.cells #[.int .i64 (-1), .int .i64 60, .int .i64 61] 3) = V := ⟨_, rfl⟩
      rw [hV] at hF ⊢
      have hfin := PS.fin hF
      obtain ⟨x0, x1, x2, x3, x4⟩ := blk5 (PS.blk hF)
      obtain ⟨y0', y1', y2', y3', y4'⟩ := blk5 (PS.res hF)
      have fy := frz (PS.res hF)
      replace hfin := Lib.hid hfin
      clear b0 b1 b2 b3 b4 r0' r1' r2' r3' r4'
      go_wp2
      refine bodyPost_ret (v := pv (-1) (.slice (some ⟨g1, 0, none⟩) p.rules.length q1) (.slice (some ⟨g2, 0, none⟩) p.chunks.length q2) (.slice A3 p.spans.length q3) (.slice A4 p.ties.length q4)) (by simp [results, Try.results96, go_sem, y0', y1', y2', y3', y4']) rfl ?_
      have hsm2 : Sm { p with ind := (-1) } := ⟨hsm.out.rules, hsm.out.chunks, hsm.out.texts, hsm.out.spans, hsm.out.ties⟩
      first | exact ⟨_, _, _, _, _, hsm2, rfl, hfin.out _ _ _ _ _⟩ | exact ⟨_, hsm2, _, _, _, _, rfl, hfin.out _ _ _ _ _⟩
    · have hF := PS.below (PS.set0 hS.out 60) ((Below.refl _ _).alloc (Nat.le_refl _) (.cells #[.int .i64 (-1), .int .i64 60, .int .i64 61] 3))
      go_upto_region 22 with fail
      obtain ⟨V, hV⟩ : ∃ V, (W.setCell ⟨bp, 0, none⟩ (.int .i64 60)).alloc (.cells #[.int .i64 (-1), .int .i64 60, .int .i64 61] 3) = V := ⟨_, rfl⟩
      rw [hV] at hF ⊢
      have hfin := PS.fin hF
      obtain ⟨x0, x1, x2, x3, x4⟩ := blk5 (PS.blk hF)
      obtain ⟨y0', y1', y2', y3', y4'⟩ := blk5 (PS.res hF)
      have fy := frz (PS.res hF)
      replace hfin := Lib.hid hfin
      clear b0 b1 b2 b3 b4 r0' r1' r2' r3' r4'
      go_wp2
      refine bodyPost_ret (v := pv 60 (.slice (some ⟨g1, 0, none⟩) p.rules.length q1) (.slice (some ⟨g2, 0, none⟩) p.chunks.length q2) (.slice A3 p.spans.length q3) (.slice A4 p.ties.length q4)) (by simp [results, Try.results96, go_sem, y0', y1', y2', y3', y4']) rfl ?_
      have hsm2 : Sm { p with ind := 60 } := ⟨hsm.out.rules, hsm.out.chunks, hsm.out.texts, hsm.out.spans, hsm.out.ties⟩
      first | exact ⟨_, _, _, _, _, hsm2, rfl, hfin.out _ _ _ _ _⟩ | exact ⟨_, hsm2, _, _, _, _, rfl, hfin.out _ _ _ _ _⟩
    · have hF := PS.below (PS.set0 hS.out 61) ((Below.refl _ _).alloc (Nat.le_refl _) (.cells #[.int .i64 (-1), .int .i64 60, .int .i64 61] 3))
      go_upto_region 22 with fail
      obtain ⟨V, hV⟩ : ∃ V, (W.setCell ⟨bp, 0, none⟩ (.int .i64 61)).alloc (.cells #[.int .i64 (-1), .int .i64 60, .int .i64 61] 3) = V := ⟨_, rfl⟩
      rw [hV] at hF ⊢
      have hfin := PS.fin hF
      obtain ⟨x0, x1, x2, x3, x4⟩ := blk5 (PS.blk hF)
      obtain ⟨y0', y1', y2', y3', y4'⟩ := blk5 (PS.res hF)
      have fy := frz (PS.res hF)
      replace hfin := Lib.hid hfin
      clear b0 b1 b2 b3 b4 r0' r1' r2' r3' r4'
      go_wp2
      refine bodyPost_ret (v := pv 61 (.slice (some ⟨g1, 0, none⟩) p.rules.length q1) (.slice (some ⟨g2, 0, none⟩) p.chunks.length q2) (.slice A3 p.spans.length q3) (.slice A4 p.ties.length q4)) (by simp [results, Try.results96, go_sem, y0', y1', y2', y3', y4']) rfl ?_
      have hsm2 : Sm { p with ind := 61 } := ⟨hsm.out.rules, hsm.out.chunks, hsm.out.texts, hsm.out.spans, hsm.out.ties⟩
      first | exact ⟨_, _, _, _, _, hsm2, rfl, hfin.out _ _ _ _ _⟩ | exact ⟨_, hsm2, _, _, _, _, rfl, hfin.out _ _ _ _ _⟩
  · obtain ⟨u, hu⟩ : ∃ u, y.tmod 5 = u := ⟨_, rfl⟩
    obtain ⟨cur, hq, hcs⟩ := owns_blk (PS.o1 hS.out)
    have z0 : ∃ v, W.cell? ⟨g1, 0, none⟩ = some v := ⟨_, by rw [cell_of_row _ g1 0 cur _ (0, 0) hq]; exact Array.getElem?_eq_getElem (by omega)⟩
    obtain ⟨v0, z0⟩ := z0
    have zf := frz hq
    have i1 : (0 : Int) < (p.rules.length : Int) := by omega
    have h0 : 0 < p.rules.length := by omega
    have hF := PS.set_rules (r := (.slice (some ⟨g1, 0, none⟩) p.rules.length q1)) hS.out 0 (.int .i64 u) (p.rules.set 0 ⟨u, p.rules[0].c⟩) (by simp) (by simpa using flat_set Rule.cells_len p.rules 0 0 (.int .i64 u) ⟨u, p.rules[0].c⟩ h0 (by omega) rfl)
    go_upto_region 22 with fail
    have hfin := PS.fin hF
    obtain ⟨x0, x1, x2, x3, x4⟩ := blk5 (PS.blk hF)
    obtain ⟨y0', y1', y2', y3', y4'⟩ := blk5 (PS.res hF)
    have fy := frz (PS.res hF)
    replace hfin := Lib.hid hfin
    clear b0 b1 b2 b3 b4 r0' r1' r2' r3' r4'
    go_wp2
    refine bodyPost_ret (v := pv p.ind (.slice (some ⟨g1, 0, none⟩) p.rules.length q1) (.slice (some ⟨g2, 0, none⟩) p.chunks.length q2) (.slice A3 p.spans.length q3) (.slice A4 p.ties.length q4)) (by simp [results, Try.results96, go_sem, y0', y1', y2', y3', y4']) rfl ?_
    have hsm2 : Sm { p with rules := p.rules.set 0 ⟨u, p.rules[0].c⟩ } := ⟨by simpa using hsm.out.rules, hsm.out.chunks, hsm.out.texts, hsm.out.spans, hsm.out.ties⟩
    first | exact ⟨_, _, _, _, _, hsm2, rfl, hfin.out _ _ _ _ _⟩ | exact ⟨_, hsm2, _, _, _, _, rfl, hfin.out _ _ _ _ _⟩
  · obtain ⟨cur, hq, hcs⟩ := owns_blk (PS.o2 hS.out)
    have z0 : ∃ v, W.cell? ⟨g2, i * 5, none⟩ = some v := ⟨_, by rw [cell_of_row _ g2 (i * 5) cur _ (0, 0) hq]; exact Array.getElem?_eq_getElem (by omega)⟩
    obtain ⟨v0, z0⟩ := z0
    have zf := frz hq
    have i0 : (0 : Int) ≤ (i : Int) := by omega
    have i1 : (i : Int) < (p.chunks.length : Int) := by omega
    have hF := PS.set_chunks (c := (.slice (some ⟨g2, 0, none⟩) p.chunks.length q2)) hS.out (i * 5) (.string ⟨#[7]⟩) (p.chunks.set i ⟨⟨#[7]⟩, p.chunks[i].r, p.chunks[i].f, p.chunks[i].s, p.chunks[i].n⟩) (by simp) (flat_set Chunk.cells_len p.chunks i 0 (.string ⟨#[7]⟩) ⟨⟨#[7]⟩, p.chunks[i].r, p.chunks[i].f, p.chunks[i].s, p.chunks[i].n⟩ hil (by omega) rfl)
    have htx : Hid (∀ x ∈ p.chunks.set i ⟨⟨#[7]⟩, p.chunks[i].r, p.chunks[i].f, p.chunks[i].s, p.chunks[i].n⟩, x.t.size ≤ 11) := Lib.hid (fun x hx => by
      rcases List.mem_or_eq_of_mem_set hx with hx | rfl
      · exact hsm.out.texts x hx
      · exact (show (⟨#[7]⟩ : ByteArray).size ≤ 11 by decide))
    go_upto_region 22 with fail
    have hfin := PS.fin hF
    obtain ⟨x0, x1, x2, x3, x4⟩ := blk5 (PS.blk hF)
    obtain ⟨y0', y1', y2', y3', y4'⟩ := blk5 (PS.res hF)
    have fy := frz (PS.res hF)
    replace hfin := Lib.hid hfin
    clear b0 b1 b2 b3 b4 r0' r1' r2' r3' r4'
    go_wp2
    refine bodyPost_ret (v := pv p.ind (.slice (some ⟨g1, 0, none⟩) p.rules.length q1) (.slice (some ⟨g2, 0, none⟩) p.chunks.length q2) (.slice A3 p.spans.length q3) (.slice A4 p.ties.length q4)) (by simp [results, Try.results96, go_sem, y0', y1', y2', y3', y4']) rfl ?_
    have hsm2 : Sm { p with chunks := p.chunks.set i ⟨⟨#[7]⟩, p.chunks[i].r, p.chunks[i].f, p.chunks[i].s, p.chunks[i].n⟩ } := ⟨hsm.out.rules, by simpa using hsm.out.chunks, htx.out, hsm.out.spans, hsm.out.ties⟩
    first | exact ⟨_, _, _, _, _, hsm2, rfl, hfin.out _ _ _ _ _⟩ | exact ⟨_, hsm2, _, _, _, _, rfl, hfin.out _ _ _ _ _⟩
  · obtain ⟨u, hu⟩ : ∃ u, y.tmod 4 = u := ⟨_, rfl⟩
    obtain ⟨cur, hq, hcs⟩ := owns_blk (PS.o2 hS.out)
    have z0 : ∃ v, W.cell? ⟨g2, i * 5 + 2, none⟩ = some v := ⟨_, by rw [cell_of_row _ g2 (i * 5 + 2) cur _ (0, 0) hq]; exact Array.getElem?_eq_getElem (by omega)⟩
    obtain ⟨v0, z0⟩ := z0
    have zf := frz hq
    have i0 : (0 : Int) ≤ (i : Int) := by omega
    have i1 : (i : Int) < (p.chunks.length : Int) := by omega
    have hF := PS.set_chunks (c := (.slice (some ⟨g2, 0, none⟩) p.chunks.length q2)) hS.out (i * 5 + 2) (.int .i64 u) (p.chunks.set i ⟨p.chunks[i].t, p.chunks[i].r, u, p.chunks[i].s, p.chunks[i].n⟩) (by simp) (flat_set Chunk.cells_len p.chunks i 2 (.int .i64 u) ⟨p.chunks[i].t, p.chunks[i].r, u, p.chunks[i].s, p.chunks[i].n⟩ hil (by omega) rfl)
    have htx : Hid (∀ x ∈ p.chunks.set i ⟨p.chunks[i].t, p.chunks[i].r, u, p.chunks[i].s, p.chunks[i].n⟩, x.t.size ≤ 11) := Lib.hid (fun x hx => by
      rcases List.mem_or_eq_of_mem_set hx with hx | rfl
      · exact hsm.out.texts x hx
      · exact (show p.chunks[i].t.size ≤ 11 from hsm.out.texts _ (List.getElem_mem hil)))
    go_upto_region 22 with fail
    have hfin := PS.fin hF
    obtain ⟨x0, x1, x2, x3, x4⟩ := blk5 (PS.blk hF)
    obtain ⟨y0', y1', y2', y3', y4'⟩ := blk5 (PS.res hF)
    have fy := frz (PS.res hF)
    replace hfin := Lib.hid hfin
    clear b0 b1 b2 b3 b4 r0' r1' r2' r3' r4'
    go_wp2
    refine bodyPost_ret (v := pv p.ind (.slice (some ⟨g1, 0, none⟩) p.rules.length q1) (.slice (some ⟨g2, 0, none⟩) p.chunks.length q2) (.slice A3 p.spans.length q3) (.slice A4 p.ties.length q4)) (by simp [results, Try.results96, go_sem, y0', y1', y2', y3', y4']) rfl ?_
    have hsm2 : Sm { p with chunks := p.chunks.set i ⟨p.chunks[i].t, p.chunks[i].r, u, p.chunks[i].s, p.chunks[i].n⟩ } := ⟨hsm.out.rules, by simpa using hsm.out.chunks, htx.out, hsm.out.spans, hsm.out.ties⟩
    first | exact ⟨_, _, _, _, _, hsm2, rfl, hfin.out _ _ _ _ _⟩ | exact ⟨_, hsm2, _, _, _, _, rfl, hfin.out _ _ _ _ _⟩
  · obtain ⟨u, hu, u0, u8⟩ : ∃ u, y.tmod 9 = u ∧ 0 ≤ u ∧ u ≤ 8 := ⟨_, rfl, by rw [Int.tmod_eq_emod_of_nonneg y0]; omega, by rw [Int.tmod_eq_emod_of_nonneg y0]; omega⟩
    obtain ⟨cur, hq, hcs⟩ := owns_blk (PS.o2 hS.out)
    have z0 : ∃ v, W.cell? ⟨g2, i * 5 + 1, none⟩ = some v := ⟨_, by rw [cell_of_row _ g2 (i * 5 + 1) cur _ (0, 0) hq]; exact Array.getElem?_eq_getElem (by omega)⟩
    obtain ⟨v0, z0⟩ := z0
    have zf := frz hq
    have i0 : (0 : Int) ≤ (i : Int) := by omega
    have i1 : (i : Int) < (p.chunks.length : Int) := by omega
    have hF := PS.set_chunks (c := (.slice (some ⟨g2, 0, none⟩) p.chunks.length q2)) hS.out (i * 5 + 1) (.int .i64 (u - 1)) (p.chunks.set i ⟨p.chunks[i].t, u - 1, p.chunks[i].f, p.chunks[i].s, p.chunks[i].n⟩) (by simp) (flat_set Chunk.cells_len p.chunks i 1 (.int .i64 (u - 1)) ⟨p.chunks[i].t, u - 1, p.chunks[i].f, p.chunks[i].s, p.chunks[i].n⟩ hil (by omega) rfl)
    have htx : Hid (∀ x ∈ p.chunks.set i ⟨p.chunks[i].t, u - 1, p.chunks[i].f, p.chunks[i].s, p.chunks[i].n⟩, x.t.size ≤ 11) := Lib.hid (fun x hx => by
      rcases List.mem_or_eq_of_mem_set hx with hx | rfl
      · exact hsm.out.texts x hx
      · exact (show p.chunks[i].t.size ≤ 11 from hsm.out.texts _ (List.getElem_mem hil)))
    go_upto_region 22 with fail
    have hfin := PS.fin hF
    obtain ⟨x0, x1, x2, x3, x4⟩ := blk5 (PS.blk hF)
    obtain ⟨y0', y1', y2', y3', y4'⟩ := blk5 (PS.res hF)
    have fy := frz (PS.res hF)
    replace hfin := Lib.hid hfin
    clear b0 b1 b2 b3 b4 r0' r1' r2' r3' r4'
    go_wp2
    refine bodyPost_ret (v := pv p.ind (.slice (some ⟨g1, 0, none⟩) p.rules.length q1) (.slice (some ⟨g2, 0, none⟩) p.chunks.length q2) (.slice A3 p.spans.length q3) (.slice A4 p.ties.length q4)) (by simp [results, Try.results96, go_sem, y0', y1', y2', y3', y4']) rfl ?_
    have hsm2 : Sm { p with chunks := p.chunks.set i ⟨p.chunks[i].t, u - 1, p.chunks[i].f, p.chunks[i].s, p.chunks[i].n⟩ } := ⟨hsm.out.rules, by simpa using hsm.out.chunks, htx.out, hsm.out.spans, hsm.out.ties⟩
    first | exact ⟨_, _, _, _, _, hsm2, rfl, hfin.out _ _ _ _ _⟩ | exact ⟨_, hsm2, _, _, _, _, rfl, hfin.out _ _ _ _ _⟩
  · obtain ⟨u5, hu5⟩ : ∃ u, y.tmod 5 = u := ⟨_, rfl⟩
    obtain ⟨u7, hu7⟩ : ∃ u, y.tmod 7 = u := ⟨_, rfl⟩
    obtain ⟨u11, hu11⟩ : ∃ u, y.tmod 11 = u := ⟨_, rfl⟩
    have s6 := hS.out.keep.size
    obtain ⟨v', w', hrun, hown', hgr, -⟩ := append_b Span.E (PS.o3 hS.out) s6 _ rfl [.int .i64 u5, .int .i64 u7, .int .i64 u11] 1 rfl (by simp [Value.oneCell']) (by show p.spans.length + 1 ≤ _; simp only [maxLen]; omega) (by show (p.spans.length + 1) * 24 ≤ _; omega)
    obtain ⟨A', c', rfl, -⟩ := row_of_owns hown'
    have hS9 := (hgr.block bp (blk_lt hS.out.blk) (fun e => own_ne (PS.o3 hS.out) hS.out.blk (by decide) e.symm)).trans hS.out.blk
    have fb9 := frz hS9
    obtain ⟨d0, d1, d2, d3, d4⟩ := blk5 hS9
    have hF := PS.put3 hS.out (x := ⟨u5, u7, u11⟩) hgr (by rw [← span_snoc, List.length_append]; exact hown')
    go_upto_region 22 with (at_builtin; refine wpList_append_run rfl rfl hrun ?_)
    have hfin := PS.fin hF
    obtain ⟨x0, x1, x2, x3, x4⟩ := blk5 (PS.blk hF)
    obtain ⟨y0', y1', y2', y3', y4'⟩ := blk5 (PS.res hF)
    have fy := frz (PS.res hF)
    replace hfin := Lib.hid hfin
    clear b0 b1 b2 b3 b4 r0' r1' r2' r3' r4'
    go_wp2
    refine bodyPost_ret (v := pv p.ind (.slice (some ⟨g1, 0, none⟩) p.rules.length q1) (.slice (some ⟨g2, 0, none⟩) p.chunks.length q2) (.slice A' (p.spans.length + 1) c') (.slice A4 p.ties.length q4)) (by simp [results, Try.results96, go_sem, y0', y1', y2', y3', y4']) rfl ?_
    have hsm2 : Sm { p with spans := p.spans ++ [⟨u5, u7, u11⟩] } := ⟨hsm.out.rules, hsm.out.chunks, hsm.out.texts, by simp; omega, hsm.out.ties⟩
    first | exact ⟨_, _, _, _, _, hsm2, rfl, hfin.out _ _ _ _ _⟩ | exact ⟨_, hsm2, _, _, _, _, rfl, hfin.out _ _ _ _ _⟩
  · obtain ⟨u6, hu6⟩ : ∃ u, y.tmod 6 = u := ⟨_, rfl⟩
    obtain ⟨u5, hu5⟩ : ∃ u, y.tmod 5 = u := ⟨_, rfl⟩
    have s6 := hS.out.keep.size
    obtain ⟨v', w', hrun, hown', hgr, -⟩ := append_b Tie.E (PS.o4 hS.out) s6 _ rfl [.int .i64 u6, .int .i64 u5] 1 rfl (by simp [Value.oneCell']) (by show p.ties.length + 1 ≤ _; simp only [maxLen]; omega) (by show (p.ties.length + 1) * 16 ≤ _; omega)
    obtain ⟨A', c', rfl, -⟩ := row_of_owns hown'
    have hS9 := (hgr.block bp (blk_lt hS.out.blk) (fun e => own_ne (PS.o4 hS.out) hS.out.blk (by decide) e.symm)).trans hS.out.blk
    have fb9 := frz hS9
    obtain ⟨d0, d1, d2, d3, d4⟩ := blk5 hS9
    have hF := PS.put4 hS.out (x := ⟨u6, u5⟩) hgr (by rw [← tie_snoc, List.length_append]; exact hown')
    go_upto_region 22 with (at_builtin; refine wpList_append_run rfl rfl hrun ?_)
    have hfin := PS.fin hF
    obtain ⟨x0, x1, x2, x3, x4⟩ := blk5 (PS.blk hF)
    obtain ⟨y0', y1', y2', y3', y4'⟩ := blk5 (PS.res hF)
    have fy := frz (PS.res hF)
    replace hfin := Lib.hid hfin
    clear b0 b1 b2 b3 b4 r0' r1' r2' r3' r4'
    go_wp2
    refine bodyPost_ret (v := pv p.ind (.slice (some ⟨g1, 0, none⟩) p.rules.length q1) (.slice (some ⟨g2, 0, none⟩) p.chunks.length q2) (.slice A3 p.spans.length q3) (.slice A' (p.ties.length + 1) c')) (by simp [results, Try.results96, go_sem, y0', y1', y2', y3', y4']) rfl ?_
    have hsm2 : Sm { p with ties := p.ties ++ [⟨u6, u5⟩] } := ⟨hsm.out.rules, hsm.out.chunks, hsm.out.texts, hsm.out.spans, by simp; omega⟩
    first | exact ⟨_, _, _, _, _, hsm2, rfl, hfin.out _ _ _ _ _⟩ | exact ⟨_, hsm2, _, _, _, _, rfl, hfin.out _ _ _ _ _⟩
  · have hm : y.tmod 2 = 0 ∨ y.tmod 2 = 1 := by rw [Int.tmod_eq_emod_of_nonneg y0]; omega
    rcases hm with hm | hm
    · have hmk : ∀ W : World, (Instr.makeSlice 30 (.int .i64 8) (.int .i64 8)).run Try.prog W = .ok (.slice (some ⟨W.heap.size, 0, none⟩) 8 8) (W.alloc (.cells (madeCells #[.int .i64 0, .int .i64 0] (8 * 2)) 80)) := fun W => make_run ER 8 8 (by omega) (by omega) (by simp only [maxLen]; omega) W
      have hA := PS.below hS.out ((Below.refl _ _).alloc (Nat.le_refl _) (.cells (madeCells #[.int .i64 0, .int .i64 0] (8 * 2)) 80))
      have hF := PS.new1 (v' := .slice (some ⟨W.heap.size, 0, none⟩) 8 8) (ys := List.replicate 8 ⟨0, 0⟩) hA ⟨by simp [Rule.cs, Rule.T.cells], .inr ⟨_, 8, _, rfl, hS.out.keep.size, heap_alloc_new _ _, by simp, by simp only [maxLen]; omega, by simp [madeCells], by kernel_rfl⟩⟩
      rw [World.setCell_alloc_past _ _ _ _ lb] at hF
      go_upto_region 22 with fail
      obtain ⟨V, hV⟩ : ∃ V, (W.setCell ⟨bp, 1, none⟩ (.slice (some ⟨W.heap.size, 0, none⟩) 8 8)).alloc (.cells (madeCells #[.int .i64 0, .int .i64 0] (8 * 2)) 80) = V := ⟨_, rfl⟩
      rw [hV] at hF ⊢
      have hfin := PS.fin hF
      obtain ⟨x0, x1, x2, x3, x4⟩ := blk5 (PS.blk hF)
      obtain ⟨y0', y1', y2', y3', y4'⟩ := blk5 (PS.res hF)
      have fy := frz (PS.res hF)
      replace hfin := Lib.hid hfin
      clear b0 b1 b2 b3 b4 r0' r1' r2' r3' r4'
      go_wp2
      refine bodyPost_ret (v := pv p.ind (.slice (some ⟨W.heap.size, 0, none⟩) 8 8) (.slice (some ⟨g2, 0, none⟩) p.chunks.length q2) (.slice A3 p.spans.length q3) (.slice A4 p.ties.length q4)) (by simp [results, Try.results96, go_sem, y0', y1', y2', y3', y4']) rfl ?_
      have hsm2 : Sm { p with rules := List.replicate 8 ⟨0, 0⟩ } := ⟨by simp, hsm.out.chunks, hsm.out.texts, hsm.out.spans, hsm.out.ties⟩
      first | exact ⟨_, _, _, _, _, hsm2, rfl, hfin.out _ _ _ _ _⟩ | exact ⟨_, hsm2, _, _, _, _, rfl, hfin.out _ _ _ _ _⟩
    · have hmk : ∀ W : World, (Instr.makeSlice 30 (.int .i64 9) (.int .i64 9)).run Try.prog W = .ok (.slice (some ⟨W.heap.size, 0, none⟩) 9 9) (W.alloc (.cells (madeCells #[.int .i64 0, .int .i64 0] (9 * 2)) 80)) := fun W => make_run ER 9 9 (by omega) (by omega) (by simp only [maxLen]; omega) W
      have hA := PS.below hS.out ((Below.refl _ _).alloc (Nat.le_refl _) (.cells (madeCells #[.int .i64 0, .int .i64 0] (9 * 2)) 80))
      have hF := PS.new1 (v' := .slice (some ⟨W.heap.size, 0, none⟩) 9 9) (ys := List.replicate 9 ⟨0, 0⟩) hA ⟨by simp [Rule.cs, Rule.T.cells], .inr ⟨_, 9, _, rfl, hS.out.keep.size, heap_alloc_new _ _, by simp, by simp only [maxLen]; omega, by simp [madeCells], by kernel_rfl⟩⟩
      rw [World.setCell_alloc_past _ _ _ _ lb] at hF
      go_upto_region 22 with fail
      obtain ⟨V, hV⟩ : ∃ V, (W.setCell ⟨bp, 1, none⟩ (.slice (some ⟨W.heap.size, 0, none⟩) 9 9)).alloc (.cells (madeCells #[.int .i64 0, .int .i64 0] (9 * 2)) 80) = V := ⟨_, rfl⟩
      rw [hV] at hF ⊢
      have hfin := PS.fin hF
      obtain ⟨x0, x1, x2, x3, x4⟩ := blk5 (PS.blk hF)
      obtain ⟨y0', y1', y2', y3', y4'⟩ := blk5 (PS.res hF)
      have fy := frz (PS.res hF)
      replace hfin := Lib.hid hfin
      clear b0 b1 b2 b3 b4 r0' r1' r2' r3' r4'
      go_wp2
      refine bodyPost_ret (v := pv p.ind (.slice (some ⟨W.heap.size, 0, none⟩) 9 9) (.slice (some ⟨g2, 0, none⟩) p.chunks.length q2) (.slice A3 p.spans.length q3) (.slice A4 p.ties.length q4)) (by simp [results, Try.results96, go_sem, y0', y1', y2', y3', y4']) rfl ?_
      have hsm2 : Sm { p with rules := List.replicate 9 ⟨0, 0⟩ } := ⟨by simp, hsm.out.chunks, hsm.out.texts, hsm.out.spans, hsm.out.ties⟩
      first | exact ⟨_, _, _, _, _, hsm2, rfl, hfin.out _ _ _ _ _⟩ | exact ⟨_, hsm2, _, _, _, _, rfl, hfin.out _ _ _ _ _⟩
  · have e0 : (k == 0) = false := beq_eq_false_iff_ne.2 (by omega)
    have e1 : (k == 1) = false := beq_eq_false_iff_ne.2 (by omega)
    have e2 : (k == 2) = false := beq_eq_false_iff_ne.2 (by omega)
    have e3 : (k == 3) = false := beq_eq_false_iff_ne.2 (by omega)
    have e4 : (k == 4) = false := beq_eq_false_iff_ne.2 (by omega)
    have e5 : (k == 5) = false := beq_eq_false_iff_ne.2 (by omega)
    have e6 : (k == 6) = false := beq_eq_false_iff_ne.2 (by omega)
    have e7 : (k == 7) = false := beq_eq_false_iff_ne.2 (by omega)
    go_upto_region 22 with fail
    have hfin := PS.fin hS.out
    obtain ⟨x0, x1, x2, x3, x4⟩ := blk5 (PS.blk hS.out)
    obtain ⟨y0', y1', y2', y3', y4'⟩ := blk5 (PS.res hS.out)
    have fy := frz (PS.res hS.out)
    replace hfin := Lib.hid hfin
    clear b0 b1 b2 b3 b4 r0' r1' r2' r3' r4'
    go_wp2
    refine bodyPost_ret (v := pv p.ind (.slice (some ⟨g1, 0, none⟩) p.rules.length q1) (.slice (some ⟨g2, 0, none⟩) p.chunks.length q2) (.slice A3 p.spans.length q3) (.slice A4 p.ties.length q4)) (by simp [results, Try.results96, go_sem, y0', y1', y2', y3', y4']) rfl ?_
    have hsm2 : Sm p := hsm.out
    first | exact ⟨_, _, _, _, _, hsm2, rfl, hfin.out _ _ _ _ _⟩ | exact ⟨_, hsm2, _, _, _, _, rfl, hfin.out _ _ _ _ _⟩
end Go.Proofs.Ytlakellmdcdaaaa.Draw
/-
  The contracts of the reference's draws of values, l08Values and l08Pair.
  Conditions: the code that is drawn from reads as bytes.
-/
namespace Go.Proofs.Ytlakellmdcdaaaa.Draw
open Go.RowKit Go.Proofs.Ytlakellmdcdaaaa.Row Go.Proofs.Ytlakellmdcdaaaa.Mem Go.Proofs.Ytlakellmdcdaaaa.Mix Go.Proofs.Ytlakellmdcdaaaa.Owns Go.Proofs.Ytlakellmdcdaaaa.Blocks Go.Proofs.Ytlakellmdcdaaaa.Piece Go.Proofs.Ytlakellmdcdaaaa.Pc Go.Proofs.Ytlakellmdcdaaaa.Ints
set_option maxRecDepth 100000 in
set_option maxHeartbeats 6400000 in
theorem values_any {w0 w : World} {cv : Value} {g : Nat} {p : P} {r c s t : Value} (hg : g < w0.heap.size) (h : PO w0 w cv g p r c s t) (hl : p.rules.length ≤ 10) :
    Calls Try.prog 120 #[cv, pv p.ind r c s t] w fun e w' => ∃ (v : Value) (xs : List Int), xs.length ≤ p.rules.length + 1 ∧ e = .returned v ∧ w'.ownsRow w.heap.size 3 1 v xs.length (ints xs) ∧ Cur w' cv g ∧ Keep g w w' := by
  obtain ⟨A1, m1, rfl, -⟩ := row_of_owns h.o1
  obtain ⟨A2, m2, rfl, -⟩ := row_of_owns h.o2
  obtain ⟨A3, m3, rfl, -⟩ := row_of_owns h.o3
  obtain ⟨A4, m4, rfl, -⟩ := row_of_owns h.o4
  have hgw := h.cur.lt
  have hw0 := h.keep.size
  have ax := (Below.refl w.heap.size w).alloc (Nat.le_refl _) (.cells #[.int .i64 p.ind, .slice A1 p.rules.length m1, .slice A2 p.chunks.length m2, .slice A3 p.spans.length m3, .slice A4 p.ties.length m4] 35)
  have kx := heap_alloc_new w (.cells #[.int .i64 p.ind, .slice A1 p.rules.length m1, .slice A2 p.chunks.length m2, .slice A3 p.spans.length m3, .slice A4 p.ties.length m4] 35)
  have s0 : (w.alloc (.cells #[.int .i64 p.ind, .slice A1 p.rules.length m1, .slice A2 p.chunks.length m2, .slice A3 p.spans.length m3, .slice A4 p.ties.length m4] 35)).heap.size = w.heap.size + 1 := by simp
  obtain ⟨W, hW⟩ : ∃ W, w.alloc (.cells #[.int .i64 p.ind, .slice A1 p.rules.length m1, .slice A2 p.chunks.length m2, .slice A3 p.spans.length m3, .slice A4 p.ties.length m4] 35) = W := ⟨_, rfl⟩
  rw [hW] at ax kx s0
  have c0 := h.cur.below ax
  have k0 := keep_below (keep_refl g w) ax
  have o0 := own_below h.o1 ax
  have al := (Below.refl W.heap.size W).alloc (Nat.le_refl _) (.cells #[] 3)
  have cI := c0.below al
  have kI := keep_below (keep_refl g W) al
  have oI := own_empty W 3 1
  rw [s0] at oI
  replace hW := Lib.hid hW
  clear al ax c0
  go_enter Try.func120, Try.ntmps120
  go_wp2
  rw [hW.out]
  go_loopw [5, 6] (fun v i wr => ∃ (k : Nat) (xs : List Int), k ≤ p.rules.length ∧ i = .int .i64 k ∧ Hid (xs.length = k) ∧ wr.ownsRow (w.heap.size + 1) 3 1 v k (ints xs) ∧ Cur wr cv g ∧ Keep g W wr) (fun _ i _ => p.rules.length - (intOf i).toNat)
  case atStart => exact ⟨0, [], by omega, rfl, Lib.hid rfl, oI, cI, kI⟩
  case round =>
    clear oI cI kI
    obtain ⟨k, xs, hk, rfl, hx, hown, hcw, hkw⟩ := hrel
    have kb := (hkw.block w.heap.size (by omega) (fun e => by injection e; omega)).trans kx
    obtain ⟨x0, x1, x2, x3, x4⟩ := blk5 kb
    have szw := hkw.size
    by_cases hlt : k < p.rules.length
    · have oR := own_keep o0 hkw hg
      obtain ⟨A, c1, e1, -, -, -, -, ha⟩ := row_of_owns oR
      injection e1 with ea el ec
      subst ea ec
      obtain ⟨b, off, rfl, hb, hc⟩ := ha (by omega)
      obtain ⟨p0, p1⟩ := Rule.cells_ hc hlt
      obtain ⟨z, hz⟩ : ∃ z, p.rules[k].v = z := ⟨_, rfl⟩
      rw [hz] at p0
      replace oR := Lib.hid oR
      replace hown := Lib.hid hown
      replace hc := Lib.hid hc
      clear ha p1 hz
      by_cases hz1 : z < 1
      · have d1 : decide (z < 1) = true := decide_eq_true hz1
        go_wp2_with fail
        refine (below_any hcw _).mono ?_
        rintro e w1 ⟨x, -, -, -, rfl, c1, k1⟩
        have hown1 := own_keep hown.out k1 (by omega)
        have hk1 := keep_trans hkw k1
        have hk1s := hk1.size
        obtain ⟨v', w', hrun, hown', hgr, -⟩ := append_b EI hown1 (by omega) w1.heap.size rfl [.int .i64 x] 1 rfl (by simp [Value.oneCell']) (by simp only [maxLen]; omega) (by omega)
        rw [ints_snoc] at hown'
        have hr : ∀ q, (_ : Value).ownBlock = some q → w.heap.size + 1 ≤ q := fun q hq => (hown1.lt q hq).1
        have hc2 := Lib.hid (c1.grown hgr (fun q hq => by have := hr q hq; omega))
        have hk2 := Lib.hid (keep_grown hk1 hgr (fun q hq => by have := hr q hq; omega))
        replace hown' := Lib.hid hown'

        have hx2 : Hid ((xs ++ [x]).length = k + 1) := Lib.hid (by rw [List.length_append, hx.out]; rfl)
        clear hown hkw hcw k1 hgr hr hown1 hk1 c1 x0 x1 x2 x3 x4 p0 kb oR hc d1
        go_wp2_with (at_builtin; refine wpList_append_run rfl rfl hrun ?_)
        go_roundw
        case rel => exact ⟨k + 1, xs ++ [x], by omega, by go_num, hx2, hown'.out, hc2.out, hk2.out⟩
        case measure => simp [intOf]; omega
      · have d1 : decide (z < 1) = false := decide_eq_false hz1
        go_wp2_with fail
        refine (below_any hcw _).mono ?_
        rintro e w1 ⟨x, -, -, -, rfl, c1, k1⟩
        have hown1 := own_keep hown.out k1 (by omega)
        have hk1 := keep_trans hkw k1
        have hk1s := hk1.size
        obtain ⟨v', w', hrun, hown', hgr, -⟩ := append_b EI hown1 (by omega) w1.heap.size rfl [.int .i64 x] 1 rfl (by simp [Value.oneCell']) (by simp only [maxLen]; omega) (by omega)
        rw [ints_snoc] at hown'
        have hr : ∀ q, (_ : Value).ownBlock = some q → w.heap.size + 1 ≤ q := fun q hq => (hown1.lt q hq).1
        have hc2 := Lib.hid (c1.grown hgr (fun q hq => by have := hr q hq; omega))
        have hk2 := Lib.hid (keep_grown hk1 hgr (fun q hq => by have := hr q hq; omega))
        replace hown' := Lib.hid hown'

        have hx2 : Hid ((xs ++ [x]).length = k + 1) := Lib.hid (by rw [List.length_append, hx.out]; rfl)
        clear hown hkw hcw k1 hgr hr hown1 hk1 c1 x0 x1 x2 x3 x4 p0 kb oR hc d1
        go_wp2_with (at_builtin; refine wpList_append_run rfl rfl hrun ?_)
        go_roundw
        case rel => exact ⟨k + 1, xs ++ [x], by omega, by go_num, hx2, hown'.out, hc2.out, hk2.out⟩
        case measure => simp [intOf]; omega
    · obtain rfl : k = p.rules.length := by omega
      have dl : decide ((p.rules.length : Int) < (p.rules.length : Int)) = false := decide_eq_false (by omega)
      replace hown := Lib.hid hown
      go_wp2_with fail
      refine (below_any hcw 10).mono ?_
      rintro e w1 ⟨x, xa, xb, -, rfl, c1, k1⟩
      replace xb := xb (by omega)
      have hown1 := own_keep hown.out k1 (by omega)
      clear hown hcw x0 x1 x2 x3 x4 kb dl
      by_cases hx0 : x = 0
      · subst hx0
        have hk1 := keep_trans hkw k1
        have hk1s := hk1.size
        obtain ⟨v', w', hrun, hown', hgr, -⟩ := append_b EI hown1 (by omega) w1.heap.size rfl [.int .i64 0] 1 rfl (by simp [Value.oneCell']) (by simp only [maxLen]; omega) (by omega)
        rw [ints_snoc] at hown'
        have hr : ∀ q, (_ : Value).ownBlock = some q → w.heap.size + 1 ≤ q := fun q hq => (hown1.lt q hq).1
        have hc2 := Lib.hid (c1.grown hgr (fun q hq => by have := hr q hq; omega))
        have hk2 := Lib.hid (keep_grown hk1 hgr (fun q hq => by have := hr q hq; omega))
        replace hown' := Lib.hid hown'

        have hx2 : Hid ((xs ++ [0]).length = p.rules.length + 1) := Lib.hid (by rw [List.length_append, hx.out]; rfl)
        clear hgr hr hown1 hk1 c1 hkw k1
        go_wp2_with (at_builtin; refine wpList_append_run rfl rfl hrun ?_)
        go_ret
        exact ⟨v', xs ++ [0], by rw [hx2.out]; omega, rfl, by rw [hx2.out]; exact own_mono hown'.out (by omega), hc2.out, keep_trans k0 hk2.out⟩
      · by_cases hx1 : x = 1
        · subst hx1
          by_cases h0 : 0 < p.rules.length
          · obtain ⟨q, cap, rfl, hq1, hq2, hq3⟩ := owns_some hown1 h0
            obtain ⟨cur, hqb, hcs⟩ := owns_blk hown1
            have d0 : decide ((0 : Int) < (p.rules.length : Int)) = true := decide_eq_true (by omega)
            have i1 : (0 : Int) < (p.rules.length : Int) := by omega
            have al := (Below.refl w1.heap.size w1).alloc (Nat.le_refl _) (.cells #[.int .i64 (-1), .int .i64 3] 3)
            have hk1 := keep_trans hkw k1
            have hk1s := hk1.size
            have hp := pickInt_any (c1.below al) w1.heap.size [-1, 3] 2 _ _ (str_alloc w1 _ _ _) (by omega) rfl (by omega) (by omega)
            have o2 := own_below hown1 al
            have k2 := keep_below hk1 al
            replace hp := Lib.hid hp
            clear al
            replace hown1 := Lib.hid hown1
            go_wp2_with fail
            refine hp.out.mono ?_
            rintro e w2 ⟨u, -, rfl, c2, k3⟩
            have o3 := own_keep o2 k3 (by omega)
            have k4 := keep_trans k2 k3
            obtain ⟨cur2, hqb2, hcs2⟩ := owns_blk o3
            have z0 : ∃ v, w2.cell? ⟨q, 0, none⟩ = some v := ⟨_, by rw [cell_of_row _ q 0 cur2 _ (0, 0) hqb2]; exact Array.getElem?_eq_getElem (by omega)⟩
            obtain ⟨v0, z0⟩ := z0
            have zf := frz hqb2
            have o4 := owns_setz o3 0 (.int .i64 u)
            have kg : w2.grownBy (w2.setCell ⟨q, 0, none⟩ (.int .i64 u)) (some q) := grown_set (World.grownBy.refl w2 _) 0 _
            have c5 := Lib.hid (c2.grown kg (fun q' e => by injection e; omega))
            have k5 := Lib.hid (keep_grown k4 kg (fun q' e => by injection e; omega))
            rw [show (ints xs).set 0 (.int .i64 u) = ints (xs.set 0 u) by simp [ints, List.map_set]] at o4
            have hx2 : Hid ((xs.set 0 u).length = p.rules.length) := Lib.hid (by rw [List.length_set, hx.out])
            replace o4 := Lib.hid o4
            clear kg o3 o2 hown1 c1 c2 k1 k2 k3 k4 hkw hk1 hp hqb hqb2
            go_wp2
            go_ret
            exact ⟨_, xs.set 0 u, by rw [hx2.out]; omega, rfl, by rw [hx2.out]; exact own_mono o4.out (by omega), c5.out, keep_trans k0 k5.out⟩
          · have d0 : decide ((0 : Int) < (p.rules.length : Int)) = false := decide_eq_false (by omega)
            obtain ⟨Av, cc, rfl, -⟩ := row_of_owns hown1
            replace hown1 := Lib.hid hown1
            go_wp2
            go_ret
            exact ⟨_, xs, by rw [hx.out]; omega, rfl, by rw [hx.out]; exact own_mono hown1.out (by omega), c1, keep_trans k0 (keep_trans hkw k1)⟩
        · have e0 : (x == 0) = false := beq_eq_false_iff_ne.2 hx0
          have e1 : (x == 1) = false := beq_eq_false_iff_ne.2 hx1
          replace hown1 := Lib.hid hown1
          go_wp2
          go_ret
          exact ⟨_, xs, by rw [hx.out]; omega, rfl, by rw [hx.out]; exact own_mono hown1.out (by omega), c1, keep_trans k0 (keep_trans hkw k1)⟩
end Go.Proofs.Ytlakellmdcdaaaa.Draw
