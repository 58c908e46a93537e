/-
  What right values cost: the contracts of impl.costOf and spec.l09Cost.
  Conditions: a right piece, right values; texts of 2^20 bytes at most together.
-/
import Derived.Test.YtlakellmdcdaaaaPc12
import Derived.Test.YtlakellmdcdaaaaPc9
import Derived.Lib.MinMax
namespace Go.Proofs.Ytlakellmdcdaaaa.Pc
open Go.RowKit Go.Proofs.Ytlakellmdcdaaaa.Row Go.Proofs.Ytlakellmdcdaaaa.Mem Go.Proofs.Ytlakellmdcdaaaa.Mix Go.Proofs.Ytlakellmdcdaaaa.Recs Go.Proofs.Ytlakellmdcdaaaa.Owns Go.Proofs.Ytlakellmdcdaaaa.Blocks Go.Proofs.Ytlakellmdcdaaaa.Piece Go.Proofs.Ytlakellmdcdaaaa.All Go.Proofs.Ytlakellmdcdaaaa.Ints Go.Proofs.Ytlakellmdcdaaaa.Strs Go.Proofs.Ytlakellmdcdaaaa.Rep
abbrev cost (a b : Int) : Value := .agg #[.int .i64 a, .int .i64 b]
def costVal (p : P) (xs : List Int) (x : Int) : Value := cost (overOf (widthOf x) (renderTo p xs)) (sumOf p xs)
theorem over_step {W : Int} {ls : List ByteArray} {k : Nat} (h : k < ls.length) : overOf W (ls.take (k + 1)) = overOf W (ls.take k) + ex W ls[k] := by
  rw [List.take_succ_eq_append_getElem h, over_snoc]
theorem max_ex (W : Int) (l : ByteArray) : max ((l.size : Int) - W) 0 = ex W l := by
  unfold ex
  split <;> omega
theorem width_ex (x : Int) : max 0 (min x 100000) = widthOf x := by
  unfold widthOf
  split
  · omega
  · split <;> omega
set_option maxRecDepth 100000 in
set_option maxHeartbeats 6400000 in
theorem impl_cost {p : P} {r c s t v : Value} {xs : List Int} {w : World} (h : PRow w p r c s t) (hv : Row w v 1 xs.length (ints xs)) (hR : Right p) (hok : valuesOk p xs = true) (ht : tot (Chunk.texts p.chunks) ≤ 1048576) (x : Int) :
    Calls Try.prog 91 #[pv p.ind r c s t, v, .int .i64 x] w fun e w' => e = .returned (costVal p xs x) ∧ Below w.heap.size w w' := by
  obtain ⟨⟨A1, m1, rfl⟩, ⟨A2, m2, rfl⟩, ⟨A3, m3, rfl⟩, ⟨A4, m4, rfl⟩⟩ := h.lits
  have hW0 := width_bd x
  have hB0 := below2 w (.cells #[.int .i64 p.ind, .slice A1 p.rules.length m1, .slice A2 p.chunks.length m2, .slice A3 p.spans.length m3, .slice A4 p.ties.length m4] 35) (.cells #[.int .i64 0, .int .i64 0] 57)
  have hT := two w (.cells #[.int .i64 p.ind, .slice A1 p.rules.length m1, .slice A2 p.chunks.length m2, .slice A3 p.spans.length m3, .slice A4 p.ties.length m4] 35) (.cells #[.int .i64 0, .int .i64 0] 57)
  obtain ⟨W, hW⟩ : ∃ W, (w.alloc (.cells #[.int .i64 p.ind, .slice A1 p.rules.length m1, .slice A2 p.chunks.length m2, .slice A3 p.spans.length m3, .slice A4 p.ties.length m4] 35)).alloc (.cells #[.int .i64 0, .int .i64 0] 57) = W := ⟨_, rfl⟩
  rw [hW] at hB0 hT
  replace hW := Lib.hid hW
  have k0 := Lib.hid hT.1
  have k1 := Lib.hid hT.2.1
  have hsW := hT.2.2
  have hcall := Lib.hid (impl_sum (h.below hB0) (hv.below hB0) hR hok)
  have hS := (ruleSum_bd hR hok (k := p.rules.length) (Nat.le_refl _))
  have hwx := width_ex x
  have hx := valuesOk_same hok
  have hrn := renderTo_len p xs
  have hnC := hR.nchunks
  have hle := render_le xs hR ht
  replace hle := Lib.hid hle
  unfold costVal
  generalize widthOf x = W1 at *
  replace h := Lib.hid (h.below hB0)
  replace hv := Lib.hid (hv.below hB0)
  replace hR := Lib.hid hR
  replace ht := Lib.hid ht
  replace hx := Lib.hid hx
  replace hB0 := Lib.hid hB0
  clear hT hok hS
  generalize sumOf p xs = S at *
  go_enter Try.func91, Try.ntmps91
  go_wp2_with fail
  rw [hW.out]
  refine hcall.out.mono ?_
  rintro e w1 ⟨rfl, b1⟩
  replace hB0 := Lib.hid (hB0.out.trans (b1.mono hB0.out.size))
  replace k0 := Lib.hid (blk_below k0.out b1)
  replace k1 := Lib.hid (blk_below k1.out b1)
  replace h := Lib.hid (h.out.below b1)
  replace hv := Lib.hid (hv.out.below b1)
  have hs1 := b1.size
  clear b1 hcall hW
  have l0 := blk_lt k0.out
  obtain ⟨x0, x1, x2, x3, x4⟩ := blk5 k0.out
  have ac := (Below.refl w1.heap.size w1).alloc (Nat.le_refl _) (.cells #[.int .i64 0, .int .i64 S] 57)
  have kc := heap_alloc_new w1 (.cells #[.int .i64 0, .int .i64 S] 57)
  have kc0 := (Below.heap_alloc w1 (.cells #[.int .i64 0, .int .i64 S] 57) _ l0).trans k0.out
  obtain ⟨W2, hW2⟩ : ∃ W2, w1.alloc (.cells #[.int .i64 0, .int .i64 S] 57) = W2 := ⟨_, rfl⟩
  rw [hW2] at ac kc kc0
  replace hW2 := Lib.hid hW2
  have hren := Lib.hid (impl_render (h.out.below ac) (hv.out.below ac) hR.out hx.out ht.out)
  replace hB0 := Lib.hid (hB0.out.trans (ac.mono hB0.out.size))
  replace k1 := Lib.hid (blk_below k1.out ac)
  replace kc := Lib.hid kc
  have hs2 := ac.size
  clear ac kc0 h hv hR hx ht
  go_wp2_with fail
  rw [hW2.out]
  refine hren.out.mono ?_
  rintro e w2 ⟨v2, rfl, o2, b2⟩
  have hob := Lib.hid (fun q hq => (o2.lt q hq).1)
  have hkc := Lib.hid (blk_below kc.out b2)
  have hk1 := Lib.hid (blk_below k1.out b2)
  have hB := hB0.out.trans (b2.mono hB0.out.size)
  have lc := blk_lt kc.out
  clear kc k1 hB0 b2 hren hW2 x0 x1 x2 x3 x4 l0 k0
  generalize hls : renderTo p xs = ls at *
  replace hls := Lib.hid hls
  have n81 : ls.length ≤ 81 := by omega
  clear hrn hnC
  obtain ⟨Al, cl, rfl, -, ln, lnc, lcm, -⟩ := row_of_owns o2
  go_wp2
  go_loopw [9, 21] (fun _ i wr => ∃ k : Nat, k ≤ ls.length ∧ i = .int .i64 k ∧ wr.ownsRow W2.heap.size 9 1 (.slice Al ls.length cl) ls.length (strs ls) ∧ Below w.heap.size w wr ∧ Hid (wr.heap[w1.heap.size]? = some (.cells #[.int .i64 (overOf W1 (ls.take k)), .int .i64 S] 57 (0, 0))) ∧ Hid (wr.heap[w.heap.size + 1]? = some (.cells #[.int .i64 0, .int .i64 0] 57 (0, 0)))) (fun _ i _ => ls.length - (intOf i).toNat)
  case atStart => exact ⟨0, by omega, rfl, o2, hB, hkc, hk1⟩
  case round =>
    clear o2 hB hkc hk1
    obtain ⟨k, hk, rfl, hown, hbw, hkc, hk1⟩ := hrel
    have l1 := blk_lt hkc.out
    have l2 := blk_lt hk1.out
    obtain ⟨y0, y1⟩ := blk2 hkc.out
    have f0 := frz hkc.out
    by_cases hlt : k < ls.length
    · obtain ⟨A', c', e', -, -, -, -, ha⟩ := row_of_owns hown
      injection e' with ea el ec
      subst ea ec
      obtain ⟨b, off, rfl, hb, hc⟩ := ha (by omega)
      have c0 := hc k _ (at_str hlt)
      clear ha hc el
      have hon := Lib.hid (over_step (W := W1) hlt)
      have hEb := ex_bd hW0.1 (hle.out _ (List.getElem_mem hlt))
      have hOb := over_bd hW0.1 (B := 1048800) (ls := ls.take k) (fun l hl => hle.out l (List.mem_of_mem_take hl))
      have hln : (ls.take k).length ≤ 81 := by rw [List.length_take]; omega
      have hsz := hle.out _ (List.getElem_mem hlt)
      have hw1 : wrap64 ((ls[k].size : Int) - W1) = (ls[k].size : Int) - W1 := wrap_small (by omega) (by omega)
      have hmx := max_ex W1 ls[k]
      generalize ex W1 ls[k] = E at *
      generalize hO : overOf W1 (ls.take k) = O at *
      have hw2 : wrap64 (O + E) = O + E := wrap_small (by omega) (by omega)
      have i0 : (0 : Int) ≤ (k : Int) := by omega
      have i1 : (k : Int) < (ls.length : Int) := by omega
      have f00 := f0 0
      replace hO := Lib.hid hO
      replace hown := Lib.hid hown
      clear hEb hOb hln hsz f0
      go_wp2
      go_roundw
      case rel =>
        refine ⟨k + 1, by omega, by go_num, owns_kept hown.out (grown_set ⟨rfl, rfl, rfl, Nat.le_refl _, fun _ _ _ => rfl⟩ _ _) (fun q hq e => ?_), hbw.setCell (by simp; omega) _, Lib.hid ?_, Lib.hid ?_⟩
        · have := hob.out q hq
          injection e with e
          omega
        · rw [hon.out]
          exact heap_set hkc.out 0 _
        · exact (Below.heap_setCell wr _ _ _ (by simp; omega)).trans hk1.out
      case measure => simp [intOf]; omega
    · obtain rfl : k = ls.length := by omega
      rw [List.take_length] at hkc y0
      have g0 := frz hk1.out 0
      have g1 := frz hk1.out 1
      obtain ⟨v0, v1⟩ := blk2 hk1.out
      go_wp2
      refine bodyPost_ret (v := cost (overOf W1 ls) S) (by simp [results, Try.results91, go_sem, v0, v1]) rfl ⟨by rw [hls.out], ?_⟩
      repeat (first | (with_reducible exact hbw) | refine Below.setCell ?_ (by simp <;> omega) _)
end Go.Proofs.Ytlakellmdcdaaaa.Pc
/-
  The contract of spec.l09Cost.
  Conditions: as for impl.costOf.
-/
namespace Go.Proofs.Ytlakellmdcdaaaa.Pc
open Go.RowKit Go.Proofs.Ytlakellmdcdaaaa.Row Go.Proofs.Ytlakellmdcdaaaa.Mem Go.Proofs.Ytlakellmdcdaaaa.Mix Go.Proofs.Ytlakellmdcdaaaa.Recs Go.Proofs.Ytlakellmdcdaaaa.Owns Go.Proofs.Ytlakellmdcdaaaa.Blocks Go.Proofs.Ytlakellmdcdaaaa.Piece Go.Proofs.Ytlakellmdcdaaaa.All Go.Proofs.Ytlakellmdcdaaaa.Ints Go.Proofs.Ytlakellmdcdaaaa.Strs Go.Proofs.Ytlakellmdcdaaaa.Rep
set_option maxRecDepth 100000 in
set_option maxHeartbeats 6400000 in
theorem spec_cost {p : P} {r c s t v : Value} {xs : List Int} {w : World} (h : PRow w p r c s t) (hv : Row w v 1 xs.length (ints xs)) (hR : Right p) (hok : valuesOk p xs = true) (ht : tot (Chunk.texts p.chunks) ≤ 1048576) (x : Int) :
    Calls Try.prog 90 #[pv p.ind r c s t, v, .int .i64 x] w fun e w' => e = .returned (costVal p xs x) ∧ Below w.heap.size w w' := by
  obtain ⟨⟨A1, m1, rfl⟩, ⟨A2, m2, rfl⟩, ⟨A3, m3, rfl⟩, ⟨A4, m4, rfl⟩⟩ := h.lits
  have hW0 := width_bd x
  have hB0 := below2 w (.cells #[.int .i64 p.ind, .slice A1 p.rules.length m1, .slice A2 p.chunks.length m2, .slice A3 p.spans.length m3, .slice A4 p.ties.length m4] 35) (.cells #[.int .i64 0, .int .i64 0] 57)
  have hT := two w (.cells #[.int .i64 p.ind, .slice A1 p.rules.length m1, .slice A2 p.chunks.length m2, .slice A3 p.spans.length m3, .slice A4 p.ties.length m4] 35) (.cells #[.int .i64 0, .int .i64 0] 57)
  obtain ⟨W, hW⟩ : ∃ W, (w.alloc (.cells #[.int .i64 p.ind, .slice A1 p.rules.length m1, .slice A2 p.chunks.length m2, .slice A3 p.spans.length m3, .slice A4 p.ties.length m4] 35)).alloc (.cells #[.int .i64 0, .int .i64 0] 57) = W := ⟨_, rfl⟩
  rw [hW] at hB0 hT
  replace hW := Lib.hid hW
  have k0 := Lib.hid hT.1
  have k1 := Lib.hid hT.2.1
  have hsW := hT.2.2
  have hx := Lib.hid (valuesOk_same hok)
  have hwd := Lib.hid (spec_width x)
  unfold costVal
  replace h := Lib.hid (h.below hB0)
  replace hv := Lib.hid (hv.below hB0)
  replace hR := Lib.hid hR
  replace hok := Lib.hid hok
  replace ht := Lib.hid ht
  replace hB0 := Lib.hid hB0
  clear hT hsW
  have l0 := blk_lt k0.out
  obtain ⟨x0, x1, x2, x3, x4⟩ := blk5 k0.out
  generalize hw1 : widthOf x = W1 at *
  replace hw1 := Lib.hid hw1
  go_enter Try.func90, Try.ntmps90
  go_wp2
  rw [hW.out]
  refine wp_region_below [(0, true), (1, true), (2, true), (5, true), (6, true), (3, false), (4, false), (7, false), (8, true), (9, false)] (by kernel_rfl) (by kernel_rfl) (fun d _ _ _ _ h => by cases d <;> exact h) ?_
  repeat
   (refine mix_still rfl (by rfl) ?_
    apply Exists.intro
    refine ⟨fun w' hS => ?_, ?_⟩
    · (have hS' := cells_of hS; clear hS; go_simp; (try go_bits); first | with_reducible rfl | (refine (if_pos ?_).trans ?_; omega; with_reducible rfl))
    (go_simp; (try go_bits)))
  refine mix_loud rfl (fun K hK => ?_)
  (go_simp; (try go_bits))
  refine ((hwd.out _)).mono ?_
  rintro _ w9 ⟨rfl, rfl⟩
  refine hK _ _ (fun _ => to_drew _ _) ?_
  clear hK K
  go_simp
  refine mix_loud rfl (fun K hK => ?_)
  (go_simp; (try go_bits))
  refine (spec_over h.out.drew hv.out.drew hR.out hx.out ht.out hW0.1 hW0.2).mono ?_
  rintro _ wA ⟨rfl, bA⟩
  have bAx := bA
  replace bA := of_drew bA
  refine hK _ _ (fun _ => bA) ?_
  clear hK K
  (go_simp; (try go_bits))
  refine mix_loud rfl (fun K hK => ?_)
  (go_simp; (try go_bits))
  refine (spec_sum (h.out.drew.below bAx) (hv.out.drew.below bAx) hR.out hok.out).mono ?_
  rintro _ wC ⟨rfl, bC⟩
  have bCx := bC
  replace bC := thenBelow bA bC
  refine hK _ _ (fun _ => bC) ?_
  clear hK K
  (go_simp; (try go_bits))
  have kc := blk_below k1.out bC
  obtain ⟨v0, v1⟩ := blk2 kc
  have g0 := frz kc
  have hB := hB0.out.trans (bC.mono hB0.out.size)
  repeat
   (refine mix_still rfl (by rfl) ?_
    apply Exists.intro
    refine ⟨fun w' hS => ?_, ?_⟩
    · (have hS' := cells_of hS; clear hS; go_simp; (try go_bits); first | with_reducible rfl | (refine (if_pos ?_).trans ?_; omega; with_reducible rfl))
    (go_simp; (try go_bits)))
  refine mix_loud rfl (fun K hK => ?_)
  (go_simp; (try go_bits))
  refine hK _ _ (no_need (by kernel_rfl)) ?_
  clear hK K
  try (go_simp; (try go_bits))
  refine mix_nil ?_
  go_wp2
  refine bodyPost_ret (v := cost (overOf W1 (renderTo p xs)) (sumOf p xs)) (by simp [results, Try.results90, go_sem, v0, v1]) rfl ⟨rfl, ?_⟩
  repeat (first | (with_reducible exact hB) | refine Below.setCell ?_ (by simp <;> omega) _)
end Go.Proofs.Ytlakellmdcdaaaa.Pc
