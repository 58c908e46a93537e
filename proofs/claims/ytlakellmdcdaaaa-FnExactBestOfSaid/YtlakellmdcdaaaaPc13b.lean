/-
  The contract of spec.l09Cost.
  Conditions: as for impl.costOf.
-/
import Derived.Test.YtlakellmdcdaaaaPc13
namespace Go.Proofs.Ytlakellmdcdaaaa.Pc
open Go.RowKit Go.Proofs.Ytlakellmdcdaaaa.Row Go.Proofs.Ytlakellmdcdaaaa.Mem Go.Proofs.Ytlakellmdcdaaaa.Mix Go.Proofs.Ytlakellmdcdaaaa.Recs Go.Proofs.Ytlakellmdcdaaaa.Owns Go.Proofs.Ytlakellmdcdaaaa.Blocks Go.Proofs.Ytlakellmdcdaaaa.Piece Go.Proofs.Ytlakellmdcdaaaa.All Go.Proofs.Ytlakellmdcdaaaa.Ints Go.Proofs.Ytlakellmdcdaaaa.Strs Go.Proofs.Ytlakellmdcdaaaa.Rep
set_option maxRecDepth 100000 in
set_option maxHeartbeats 6400000 in
theorem spec_cost {p : P} {r c s t v : Value} {xs : List Int} {w : World} (h : PRow w p r c s t) (hv : Row w v 1 xs.length (ints xs)) (hR : Right p) (hok : valuesOk p xs = true) (ht : tot (Chunk.texts p.chunks) ≤ 1048576) (x : Int) :
    Calls Try.prog 90 #[pv p.ind r c s t, v, .int .i64 x] w fun e w' => e = .returned (costVal p xs x) ∧ Below w.heap.size w w' := by
  obtain ⟨⟨A1, m1, rfl⟩, ⟨A2, m2, rfl⟩, ⟨A3, m3, rfl⟩, ⟨A4, m4, rfl⟩⟩ := h.lits
  have hW0 := width_bd x
  have hB0 := below2 w (.cells #[.int .i64 p.ind, .slice A1 p.rules.length m1, .slice A2 p.chunks.length m2, .slice A3 p.spans.length m3, .slice A4 p.ties.length m4] 35) (.cells #[.int .i64 0, .int .i64 0] 57)
  have hT := two w (.cells #[.int .i64 p.ind, .slice A1 p.rules.length m1, .slice A2 p.chunks.length m2, .slice A3 p.spans.length m3, .slice A4 p.ties.length m4] 35) (.cells #[.int .i64 0, .int .i64 0] 57)
  obtain ⟨W, hW⟩ : ∃ W, (w.alloc (.cells #[.int .i64 p.ind, .slice A1 p.rules.length m1, .slice A2 p.chunks.length m2, .slice A3 p.spans.length m3, .slice A4 p.ties.length m4] 35)).alloc (.cells #[.int .i64 0, .int .i64 0] 57) = W := ⟨_, rfl⟩
  rw [hW] at hB0 hT
  replace hW := Lib.hid hW
  have k0 := Lib.hid hT.1
  have k1 := Lib.hid hT.2.1
  have hsW := hT.2.2
  have hx := Lib.hid (valuesOk_same hok)
  have hwd := Lib.hid (spec_width x)
  unfold costVal
  replace h := Lib.hid (h.below hB0)
  replace hv := Lib.hid (hv.below hB0)
  replace hR := Lib.hid hR
  replace hok := Lib.hid hok
  replace ht := Lib.hid ht
  replace hB0 := Lib.hid hB0
  clear hT hsW
  have l0 := blk_lt k0.out
  obtain ⟨x0, x1, x2, x3, x4⟩ := blk5 k0.out
  generalize hw1 : widthOf x = W1 at *
  replace hw1 := Lib.hid hw1
  go_enter Try.func90, Try.ntmps90
  go_wp2
  rw [hW.out]
  refine wp_region_below [(0, true), (1, true), (2, true), (5, true), (6, true), (3, false), (4, false), (7, false), (8, true), (9, false)] (by kernel_rfl) (by kernel_rfl) (fun d _ _ _ _ h => by cases d <;> exact h) ?_
  repeat
   (refine mix_still rfl (by rfl) ?_
    apply Exists.intro
    refine ⟨fun w' hS => ?_, ?_⟩
    · (have hS' := cells_of hS; clear hS; go_simp; (try go_bits); first | with_reducible rfl | (refine (if_pos ?_).trans ?_; omega; with_reducible rfl))
    (go_simp; (try go_bits)))
  refine mix_loud rfl (fun K hK => ?_)
  (go_simp; (try go_bits))
  refine ((hwd.out _)).mono ?_
  rintro _ w9 ⟨rfl, rfl⟩
  refine hK _ _ (fun _ => to_drew _ _) ?_
  clear hK K
  go_simp
  refine mix_loud rfl (fun K hK => ?_)
  (go_simp; (try go_bits))
  refine (spec_over h.out.drew hv.out.drew hR.out hx.out ht.out hW0.1 hW0.2).mono ?_
  rintro _ wA ⟨rfl, bA⟩
  have bAx := bA
  replace bA := of_drew bA
  refine hK _ _ (fun _ => bA) ?_
  clear hK K
  (go_simp; (try go_bits))
  refine mix_loud rfl (fun K hK => ?_)
  (go_simp; (try go_bits))
  refine (spec_sum (h.out.drew.below bAx) (hv.out.drew.below bAx) hR.out hok.out).mono ?_
  rintro _ wC ⟨rfl, bC⟩
  have bCx := bC
  replace bC := thenBelow bA bC
  refine hK _ _ (fun _ => bC) ?_
  clear hK K
  (go_simp; (try go_bits))
  have kc := blk_below k1.out bC
  obtain ⟨v0, v1⟩ := blk2 kc
  have g0 := frz kc
  have hB := hB0.out.trans (bC.mono hB0.out.size)
  repeat
   (refine mix_still rfl (by rfl) ?_
    apply Exists.intro
    refine ⟨fun w' hS => ?_, ?_⟩
    · (have hS' := cells_of hS; clear hS; go_simp; (try go_bits); first | with_reducible rfl | (refine (if_pos ?_).trans ?_; omega; with_reducible rfl))
    (go_simp; (try go_bits)))
  refine mix_loud rfl (fun K hK => ?_)
  (go_simp; (try go_bits))
  refine hK _ _ (no_need (by kernel_rfl)) ?_
  clear hK K
  try (go_simp; (try go_bits))
  refine mix_nil ?_
  go_wp2
  refine bodyPost_ret (v := cost (overOf W1 (renderTo p xs)) (sumOf p xs)) (by simp [results, Try.results90, go_sem, v0, v1]) rfl ⟨rfl, ?_⟩
  repeat (first | (with_reducible exact hB) | refine Below.setCell ?_ (by simp <;> omega) _)
end Go.Proofs.Ytlakellmdcdaaaa.Pc
