/-
  The contract of spec.PieceOk.
  Conditions: the piece reads as a piece, its texts are short.
-/
import Derived.Test.YtlakellmdcdaaaaPc4c
namespace Go.Proofs.Ytlakellmdcdaaaa.Pc
open Go.RowKit Go.Proofs.Ytlakellmdcdaaaa.Row Go.Proofs.Ytlakellmdcdaaaa.Mem Go.Proofs.Ytlakellmdcdaaaa.Mix Go.Proofs.Ytlakellmdcdaaaa.Recs Go.Proofs.Ytlakellmdcdaaaa.Owns Go.Proofs.Ytlakellmdcdaaaa.Blocks Go.Proofs.Ytlakellmdcdaaaa.Piece Go.Proofs.Ytlakellmdcdaaaa.All Go.Proofs.Ytlakellmdcdaaaa.Ints
set_option maxRecDepth 100000 in
set_option maxHeartbeats 12800000 in
theorem spec_PieceOk {p : P} {r c s t : Value} {w : World} (h : PRow w p r c s t) (hst : ∀ x ∈ p.chunks, x.t.size ≤ 1099511627776) :
    Calls Try.prog 26 #[pv p.ind r c s t] w fun e w' => e = .returned (.bool (pieceOk p)) ∧ Below w.heap.size w w' := by
  obtain ⟨⟨A1, m1, rfl⟩, ⟨A2, m2, rfl⟩, ⟨A3, m3, rfl⟩, ⟨A4, m4, rfl⟩⟩ := h.lits
  obtain ⟨Ar, c1r, e1r, -, hnr, hncr, hcmr, har⟩ := h.rules
  injection e1r with ea el ec
  subst ea ec
  clear el
  obtain ⟨Ac, c1c, e1c, -, hnc, hncc, hcmc, hac⟩ := h.chunks
  injection e1c with ea el ec
  subst ea ec
  clear el
  obtain ⟨As, c1s, e1s, -, hns, hncs, hcms, has⟩ := h.spans
  injection e1s with ea el ec
  subst ea ec
  clear el
  obtain ⟨At, c1t, e1t, -, hnt, hnct, hcmt, hat⟩ := h.ties
  injection e1t with ea el ec
  subst ea ec
  clear el
  have hb0 := (Below.refl w.heap.size w).alloc (Nat.le_refl _) (.cells #[.int .i64 p.ind, .slice A1 p.rules.length m1, .slice A2 p.chunks.length m2, .slice A3 p.spans.length m3, .slice A4 p.ties.length m4] 35)
  have hB := Lib.hid hb0
  have hK := Lib.hid (heap_alloc_new w (.cells #[.int .i64 p.ind, .slice A1 p.rules.length m1, .slice A2 p.chunks.length m2, .slice A3 p.spans.length m3, .slice A4 p.ties.length m4] 35))
  replace h := Lib.hid h
  replace hst := Lib.hid hst
  clear hb0
  cases h1 : inR p.ind 0 60
  · have hno := Lib.hid (show pieceOk p = false by unfold pieceOk; rw [h1]; rfl)
    clear har hac has hat
    go_enter Try.func26, Try.ntmps26
    go_wp2_with (go_at_call 62; refine (spec_inRange _ _ _ _).mono ?_; rintro e w1 ⟨rfl, rfl⟩)
    go_ret
    exact ⟨by rw [hno.out]; rfl, hB.out⟩
  · by_cases h2 : p.rules.length ≤ 8
    · have d2 : decide ((8 : Int) < (p.rules.length : Int)) = false := by simp; omega
      cases h3 : inR (p.chunks.length : Int) 1 80
      · have hno := Lib.hid (show pieceOk p = false by unfold pieceOk chunksOk; rw [h3]; simp)
        clear har hac has hat
        go_enter Try.func26, Try.ntmps26
        go_wp2_with (go_at_call 62; refine (spec_inRange _ _ _ _).mono ?_; rintro e w1 ⟨rfl, rfl⟩)
        go_ret
        exact ⟨by rw [hno.out]; rfl, hB.out⟩
      · obtain ⟨n0, n80⟩ := inR_iff.1 h3
        by_cases h4 : p.spans.length ≤ 40
        · have d4 : decide ((40 : Int) < (p.spans.length : Int)) = false := by simp; omega
          by_cases h5 : p.ties.length ≤ 20
          · have d5 : decide ((20 : Int) < (p.ties.length : Int)) = false := by simp; omega
            have hpo : Hid ((allTo (ruleFit p) p.rules.length = false → pieceOk p = false) ∧ (allTo (chunkFit p) p.chunks.length = false → pieceOk p = false) ∧ (lastFit p = false → pieceOk p = false) ∧ (allTo (spanFit p) p.spans.length = false → pieceOk p = false) ∧ (allTo (tieFit p) p.ties.length = false → pieceOk p = false) ∧
                (allTo (ruleFit p) p.rules.length = true → allTo (chunkFit p) p.chunks.length = true → lastFit p = true → allTo (spanFit p) p.spans.length = true → allTo (tieFit p) p.ties.length = true → pieceOk p = true)) := Lib.hid (by
              refine ⟨fun q => ?_, fun q => ?_, fun q => ?_, fun q => ?_, fun q => ?_, fun a b c d e => ?_⟩
              · unfold pieceOk rulesOk; rw [q]; simp
              · unfold pieceOk chunksOk; rw [q]; simp
              · unfold pieceOk chunksOk; rw [q]; simp
              · unfold pieceOk; rw [q]; simp
              · unfold pieceOk; rw [q]; simp
              · unfold pieceOk rulesOk chunksOk sizesOk; rw [h1, h3, a, b, c, d, e, decide_eq_true h2, decide_eq_true h4, decide_eq_true h5]; rfl)
            have has0 := Lib.hid has
            have hat0 := Lib.hid hat
            clear has hat h2 h4 h5
            go_enter Try.func26, Try.ntmps26
            go_wp2_with (go_at_call 62; refine (spec_inRange _ _ _ _).mono ?_; rintro e w1 ⟨rfl, rfl⟩)
            go_loopw [4] (fun i wr => ∃ k : Nat, k ≤ p.rules.length ∧ i = .int .i64 k ∧ Hid (allTo (ruleFit p) k = true) ∧ Below w.heap.size w wr ∧ Hid (wr.heap[w.heap.size]? = some (.cells #[.int .i64 p.ind, .slice A1 p.rules.length m1, .slice A2 p.chunks.length m2, .slice A3 p.spans.length m3, .slice A4 p.ties.length m4] 35 (0, 0)))) (fun i _ => p.rules.length - (intOf i).toNat)
            case atStart => exact ⟨0, by omega, rfl, Lib.hid rfl, hB.out, hK⟩
            case round =>
              clear hB hK
              obtain ⟨k, hk, rfl, hr, hbw, hbx⟩ := hrel
              have hs0 := blk_lt hbx.out
              have hs := hbw.size
              obtain ⟨x0, x1, x2, x3, x4⟩ := blk5 hbx.out
              by_cases hlt : k < p.rules.length
              · obtain ⟨b, off, rfl, hb, hc⟩ := har (by omega)
                obtain ⟨c0, c1⟩ := Rule.cells_ (fun j u hu => (cells_of hbw b _ hb).trans (hc j u hu)) hlt
                clear hc
                have hat := Lib.hid (show ruleFit p k = (inR p.rules[k].v 2 3 && inR p.rules[k].c 0 9) by unfold ruleFit; rw [ruleAt_eq hlt])
                cases h1 : inR p.rules[k].v 2 3
                · have hno := Lib.hid (hpo.out.1 (allTo_off (k := k) (by rw [hat.out, h1]; rfl) _ hlt))
                  go_wp2_with (go_at_call 62; refine (spec_inRange _ _ _ _).mono ?_; rintro e w1 ⟨rfl, rfl⟩)
                  go_ret
                  exact ⟨by rw [hno.out]; rfl, hbw⟩
                · cases h2 : inR p.rules[k].c 0 9
                  · have hno := Lib.hid (hpo.out.1 (allTo_off (k := k) (by rw [hat.out, h1, h2]; rfl) _ hlt))
                    go_wp2_with (go_at_call 62; refine (spec_inRange _ _ _ _).mono ?_; rintro e w1 ⟨rfl, rfl⟩)
                    go_ret
                    exact ⟨by rw [hno.out]; rfl, hbw⟩
                  · have hon := Lib.hid (allTo_on hr.out (by rw [hat.out, h1, h2]; rfl))
                    go_wp2_with (go_at_call 62; refine (spec_inRange _ _ _ _).mono ?_; rintro e w1 ⟨rfl, rfl⟩)
                    go_roundw
                    case rel => exact ⟨k + 1, by omega, by go_num, hon, hbw, hbx⟩
                    case measure => simp [intOf]; omega

              · have hallrules : Hid (allTo (ruleFit p) p.rules.length = true) := Lib.hid (by have := hr.out; rwa [show k = p.rules.length by omega] at this)
                have hkl : ¬ ((k : Int) < (p.rules.length : Int)) := by omega
                have hB := Lib.hid hbw
                have hK := hbx
                clear hr hbw hbx hs hs0
                have hallr := hallrules
                go_wp2
                clear x0 x1 x2 x3 x4 hkl hlt hk
                go_loopw [5] (fun i wr => ∃ k : Nat, k ≤ p.chunks.length ∧ i = .int .i64 k ∧ Hid (allTo (chunkFit p) k = true) ∧ Below w.heap.size w wr ∧ Hid (wr.heap[w.heap.size]? = some (.cells #[.int .i64 p.ind, .slice A1 p.rules.length m1, .slice A2 p.chunks.length m2, .slice A3 p.spans.length m3, .slice A4 p.ties.length m4] 35 (0, 0)))) (fun i _ => p.chunks.length - (intOf i).toNat)
                case atStart => exact ⟨0, by omega, rfl, Lib.hid rfl, hB.out, hK⟩
                case round =>
                  clear hB hK
                  obtain ⟨k, hk, rfl, hr, hbw, hbx⟩ := hrel
                  have hs0 := blk_lt hbx.out
                  have hs := hbw.size
                  obtain ⟨x0, x1, x2, x3, x4⟩ := blk5 hbx.out
                  by_cases hlt : k < p.chunks.length
                  · obtain ⟨b, off, rfl, hb, hc⟩ := hac (by omega)
                    obtain ⟨c0, c1, c2, c3, c4⟩ := Chunk.cells_ (fun j u hu => (cells_of hbw b _ hb).trans (hc j u hu)) hlt
                    have hpl := Lib.hid (fun (W : World) => spec_plain p.chunks[k].t (hst.out _ (List.getElem_mem hlt)) W)
                    have hat := Lib.hid (show chunkFit p k = (plain p.chunks[k].t && (!decide (k + 1 < p.chunks.length) || splitFit p p.chunks[k])) by unfold chunkFit; rw [chunkAt_eq hlt])
                    have hsp := Lib.hid (spec_split (h.out.below hbw).drew p.chunks[k])
                    have i0 : (0 : Int) ≤ (k : Int) := by omega
                    have i1 : (k : Int) < (p.chunks.length : Int) := by omega
                    have s1 : IntKind.i64.wrap ((k : Int) + 1) = (k : Int) + 1 := IntWalk.i64_in _ (by omega)
                    have z1 := Nat.lt_of_lt_of_le hb hbw.size
                    clear hc
                    cases h1 : plain p.chunks[k].t
                    · rw [h1] at hpl
                      have hno := Lib.hid (hpo.out.2.1 (allTo_off (k := k) (by rw [hat.out, h1]; rfl) _ hlt))
                      clear h1 hsp
                      go_wp2
                      refine wp_region_below [(0, true), (1, true), (2, true), (3, true), (4, true), (5, true), (6, false), (7, true), (8, true), (9, true), (10, true), (11, true), (12, true), (13, true), (14, true), (15, true), (16, true), (17, true), (18, true), (19, true), (20, true), (21, false), (22, false), (23, false), (24, false)] (by kernel_rfl) (by kernel_rfl) (fun d _ _ _ _ h => by cases d <;> exact h) ?_
                      repeat
                       (refine mix_still rfl (by rfl) ?_
                        apply Exists.intro
                        refine ⟨fun w' hS => ?_, ?_⟩
                        · (have hS' := cells_of hS; clear hS; go_simp; (try go_bits); first | with_reducible rfl | (refine (if_pos ?_).trans ?_; omega; with_reducible rfl))
                        (go_simp; (try go_bits)))
                      refine mix_loud rfl (fun K hK => ?_)
                      (go_simp; (try go_bits))
                      refine (hpl.out _).mono ?_
                      rintro _ w0 ⟨rfl, rfl⟩
                      refine hK _ _ (fun _ => to_drew _ _) ?_
                      clear hK K
                      go_simp
                      repeat (first
                        | (refine mix_still rfl (by rfl) ?_
                           apply Exists.intro
                           refine ⟨fun w' hS => ?_, ?_⟩
                           · (have hS' := cells_of hS; clear hS; go_simp; (try go_bits); first | with_reducible rfl | (refine (if_pos ?_).trans ?_; omega; with_reducible rfl))
                           (go_simp; (try go_bits)))
                        | (refine mix_skip rfl (by rfl) ?_; go_simp))
                      refine mix_loud rfl (fun K hK => ?_)
                      (go_simp; (try go_bits))
                      refine hK _ _ (no_need (by kernel_rfl)) ?_
                      clear hK K
                      try (go_simp; (try go_bits))
                      refine mix_loud rfl (fun K hK => ?_)
                      (go_simp; (try go_bits))
                      refine hK _ _ (no_need (by kernel_rfl)) ?_
                      clear hK K
                      try (go_simp; (try go_bits))
                      refine mix_loud rfl (fun K hK => ?_)
                      (go_simp; (try go_bits))
                      refine hK _ _ (no_need (by kernel_rfl)) ?_
                      clear hK K
                      try (go_simp; (try go_bits))
                      refine mix_loud rfl (fun K hK => ?_)
                      (go_simp; (try go_bits))
                      refine hK _ _ (no_need (by kernel_rfl)) ?_
                      clear hK K
                      try (go_simp; (try go_bits))
                      refine mix_nil ?_
                      clear s1
                      go_wp2
                      go_ret
                      exact ⟨by rw [hno.out]; rfl, hbw.drew⟩
                    · rw [h1] at hpl
                      by_cases hl : k + 1 < p.chunks.length
                      · have d1 : decide ((k : Int) + 1 < (p.chunks.length : Int)) = true := by simp; omega
                        cases h2 : splitFit p p.chunks[k]
                        · rw [h2] at hsp
                          have hno := Lib.hid (hpo.out.2.1 (allTo_off (k := k) (by rw [hat.out, h1, h2, decide_eq_true hl]; rfl) _ hlt))
                          clear h1 h2
                          go_wp2
                          refine wp_region_below [(0, true), (1, true), (2, true), (3, true), (4, true), (5, true), (6, false), (7, true), (8, true), (9, true), (10, true), (11, true), (12, true), (13, true), (14, true), (15, true), (16, true), (17, true), (18, true), (19, true), (20, true), (21, false), (22, false), (23, false), (24, false)] (by kernel_rfl) (by kernel_rfl) (fun d _ _ _ _ h => by cases d <;> exact h) ?_
                          repeat
                           (refine mix_still rfl (by rfl) ?_
                            apply Exists.intro
                            refine ⟨fun w' hS => ?_, ?_⟩
                            · (have hS' := cells_of hS; clear hS; go_simp; (try go_bits); first | with_reducible rfl | (refine (if_pos ?_).trans ?_; omega; with_reducible rfl))
                            (go_simp; (try go_bits)))
                          refine mix_loud rfl (fun K hK => ?_)
                          (go_simp; (try go_bits))
                          refine (hpl.out _).mono ?_
                          rintro _ w0 ⟨rfl, rfl⟩
                          refine hK _ _ (fun _ => to_drew _ _) ?_
                          clear hK K
                          go_simp
                          repeat (first
                            | (refine mix_still rfl (by rfl) ?_
                               apply Exists.intro
                               refine ⟨fun w' hS => ?_, ?_⟩
                               · (have hS' := cells_of hS; clear hS; go_simp; (try go_bits); first | with_reducible rfl | (refine (if_pos ?_).trans ?_; omega; with_reducible rfl))
                               (go_simp; (try go_bits)))
                            | (refine mix_skip rfl (by rfl) ?_; go_simp))
                          refine mix_loud rfl (fun K hK => ?_)
                          (go_simp; (try go_bits))
                          refine (hsp.out).mono ?_
                          rintro _ w1 ⟨rfl, hb1⟩
                          replace hb1 := of_drew hb1
                          refine hK _ _ (fun _ => hb1) ?_
                          clear hK K
                          (go_simp; (try go_bits))
                          refine mix_loud rfl (fun K hK => ?_)
                          (go_simp; (try go_bits))
                          refine hK _ _ (no_need (by kernel_rfl)) ?_
                          clear hK K
                          try (go_simp; (try go_bits))
                          refine mix_loud rfl (fun K hK => ?_)
                          (go_simp; (try go_bits))
                          refine hK _ _ (no_need (by kernel_rfl)) ?_
                          clear hK K
                          try (go_simp; (try go_bits))
                          refine mix_loud rfl (fun K hK => ?_)
                          (go_simp; (try go_bits))
                          refine hK _ _ (no_need (by kernel_rfl)) ?_
                          clear hK K
                          try (go_simp; (try go_bits))
                          refine mix_nil ?_
                          clear s1
                          go_wp2
                          go_ret
                          exact ⟨by rw [hno.out]; rfl, hbw.trans (hb1.mono hbw.size)⟩
                        · rw [h2] at hsp
                          have hon := Lib.hid (allTo_on hr.out (show chunkFit p k = true by rw [hat.out, h1, h2, decide_eq_true hl]; rfl))
                          clear h1 h2
                          go_wp2
                          refine wp_region_below [(0, true), (1, true), (2, true), (3, true), (4, true), (5, true), (6, false), (7, true), (8, true), (9, true), (10, true), (11, true), (12, true), (13, true), (14, true), (15, true), (16, true), (17, true), (18, true), (19, true), (20, true), (21, false), (22, false), (23, false), (24, false)] (by kernel_rfl) (by kernel_rfl) (fun d _ _ _ _ h => by cases d <;> exact h) ?_
                          repeat
                           (refine mix_still rfl (by rfl) ?_
                            apply Exists.intro
                            refine ⟨fun w' hS => ?_, ?_⟩
                            · (have hS' := cells_of hS; clear hS; go_simp; (try go_bits); first | with_reducible rfl | (refine (if_pos ?_).trans ?_; omega; with_reducible rfl))
                            (go_simp; (try go_bits)))
                          refine mix_loud rfl (fun K hK => ?_)
                          (go_simp; (try go_bits))
                          refine (hpl.out _).mono ?_
                          rintro _ w0 ⟨rfl, rfl⟩
                          refine hK _ _ (fun _ => to_drew _ _) ?_
                          clear hK K
                          go_simp
                          repeat (first
                            | (refine mix_still rfl (by rfl) ?_
                               apply Exists.intro
                               refine ⟨fun w' hS => ?_, ?_⟩
                               · (have hS' := cells_of hS; clear hS; go_simp; (try go_bits); first | with_reducible rfl | (refine (if_pos ?_).trans ?_; omega; with_reducible rfl))
                               (go_simp; (try go_bits)))
                            | (refine mix_skip rfl (by rfl) ?_; go_simp))
                          refine mix_loud rfl (fun K hK => ?_)
                          (go_simp; (try go_bits))
                          refine (hsp.out).mono ?_
                          rintro _ w1 ⟨rfl, hb1⟩
                          replace hb1 := of_drew hb1
                          refine hK _ _ (fun _ => hb1) ?_
                          clear hK K
                          (go_simp; (try go_bits))
                          refine mix_loud rfl (fun K hK => ?_)
                          (go_simp; (try go_bits))
                          refine hK _ _ (no_need (by kernel_rfl)) ?_
                          clear hK K
                          try (go_simp; (try go_bits))
                          refine mix_loud rfl (fun K hK => ?_)
                          (go_simp; (try go_bits))
                          refine hK _ _ (no_need (by kernel_rfl)) ?_
                          clear hK K
                          try (go_simp; (try go_bits))
                          refine mix_loud rfl (fun K hK => ?_)
                          (go_simp; (try go_bits))
                          refine hK _ _ (no_need (by kernel_rfl)) ?_
                          clear hK K
                          try (go_simp; (try go_bits))
                          refine mix_nil ?_
                          clear s1
                          go_wp2
                          go_roundw
                          case rel => exact ⟨k + 1, by omega, by go_num, hon, hbw.trans (hb1.mono hbw.size), Lib.hid (blk_below hbx.out hb1)⟩
                          case measure => simp [intOf]; omega
                      · have d1 : decide ((k : Int) + 1 < (p.chunks.length : Int)) = false := by simp; omega
                        have hon := Lib.hid (allTo_on hr.out (show chunkFit p k = true by rw [hat.out, h1, decide_eq_false hl]; rfl))
                        clear h1 hsp
                        go_wp2
                        refine wp_region_below [(0, true), (1, true), (2, true), (3, true), (4, true), (5, true), (6, false), (7, true), (8, true), (9, true), (10, true), (11, true), (12, true), (13, true), (14, true), (15, true), (16, true), (17, true), (18, true), (19, true), (20, true), (21, false), (22, false), (23, false), (24, false)] (by kernel_rfl) (by kernel_rfl) (fun d _ _ _ _ h => by cases d <;> exact h) ?_
                        repeat
                         (refine mix_still rfl (by rfl) ?_
                          apply Exists.intro
                          refine ⟨fun w' hS => ?_, ?_⟩
                          · (have hS' := cells_of hS; clear hS; go_simp; (try go_bits); first | with_reducible rfl | (refine (if_pos ?_).trans ?_; omega; with_reducible rfl))
                          (go_simp; (try go_bits)))
                        refine mix_loud rfl (fun K hK => ?_)
                        (go_simp; (try go_bits))
                        refine (hpl.out _).mono ?_
                        rintro _ w0 ⟨rfl, rfl⟩
                        refine hK _ _ (fun _ => to_drew _ _) ?_
                        clear hK K
                        go_simp
                        repeat (first
                          | (refine mix_still rfl (by rfl) ?_
                             apply Exists.intro
                             refine ⟨fun w' hS => ?_, ?_⟩
                             · (have hS' := cells_of hS; clear hS; go_simp; (try go_bits); first | with_reducible rfl | (refine (if_pos ?_).trans ?_; omega; with_reducible rfl))
                             (go_simp; (try go_bits)))
                          | (refine mix_skip rfl (by rfl) ?_; go_simp))
                        refine mix_loud rfl (fun K hK => ?_)
                        (go_simp; (try go_bits))
                        refine hK _ _ (no_need (by kernel_rfl)) ?_
                        clear hK K
                        try (go_simp; (try go_bits))
                        refine mix_loud rfl (fun K hK => ?_)
                        (go_simp; (try go_bits))
                        refine hK _ _ (no_need (by kernel_rfl)) ?_
                        clear hK K
                        try (go_simp; (try go_bits))
                        refine mix_loud rfl (fun K hK => ?_)
                        (go_simp; (try go_bits))
                        refine hK _ _ (no_need (by kernel_rfl)) ?_
                        clear hK K
                        try (go_simp; (try go_bits))
                        refine mix_loud rfl (fun K hK => ?_)
                        (go_simp; (try go_bits))
                        refine hK _ _ (no_need (by kernel_rfl)) ?_
                        clear hK K
                        try (go_simp; (try go_bits))
                        refine mix_nil ?_
                        clear s1
                        go_wp2
                        go_roundw
                        case rel => exact ⟨k + 1, by omega, by go_num, hon, hbw.drew, hbx⟩
                        case measure => simp [intOf]; omega

                  · have hallchunks : Hid (allTo (chunkFit p) p.chunks.length = true) := Lib.hid (by have := hr.out; rwa [show k = p.chunks.length by omega] at this)
                    have hkl : ¬ ((k : Int) < (p.chunks.length : Int)) := by omega
                    have hB := Lib.hid hbw
                    have hK := hbx
                    clear hr hbw hbx hs hs0
                    have hallc := hallchunks
                    obtain ⟨m, hm⟩ : ∃ m, p.chunks.length = m + 1 := ⟨p.chunks.length - 1, by omega⟩
                    have hml : m < p.chunks.length := by omega
                    obtain ⟨b9, off9, rfl, hb9, hc9⟩ := hac (by omega)
                    obtain ⟨c0, c1, c2, c3, c4⟩ := Chunk.cells_ (fun j u hu => (cells_of hB.out b9 _ hb9).trans (hc9 j u hu)) hml
                    have hlf : Hid (lastFit p = zeroSplit p.chunks[m]) := Lib.hid (by unfold lastFit; rw [hm, Nat.add_sub_cancel, chunkAt_eq hml])
                    have e1 : (p.chunks.length : Int) - 1 = (m : Int) := by omega
                    have hmi : (m : Int) < (p.chunks.length : Int) := by omega
                    replace hm := Lib.hid hm
                    clear hc9
                    cases hz : zeroSplit p.chunks[m]
                    · have hno := Lib.hid (hpo.out.2.2.1 (hlf.out.trans hz))
                      have hz2 := Lib.hid hz
                      clear hz
                      go_wp2
                      all_goals
                        first
                          | (go_ret
                             exact ⟨by rw [hno.out]; rfl, hB.out⟩)
                          | (exfalso
                             have hz := hz2.out
                             simp_all [zeroSplit])
                    · have hlast : Hid (lastFit p = true) := Lib.hid (hlf.out.trans hz)
                      have hz2 := hz
                      simp only [zeroSplit, Bool.and_eq_true, beq_iff_eq] at hz2
                      obtain ⟨g1, g2, g3, g4⟩ := hz2
                      rw [g1] at c1
                      rw [g2] at c2
                      rw [g3] at c3
                      rw [g4] at c4
                      clear hz g1 g2 g3 g4
                      go_wp2
                      clear x0 x1 x2 x3 x4 hkl hlt hk c0 c1 c2 c3 c4 e1 hmi
                      go_loopw [6] (fun i wr => ∃ k : Nat, k ≤ p.spans.length ∧ i = .int .i64 k ∧ Hid (allTo (spanFit p) k = true) ∧ Below w.heap.size w wr ∧ Hid (wr.heap[w.heap.size]? = some (.cells #[.int .i64 p.ind, .slice A1 p.rules.length m1, .slice (some ⟨b9, off9, none⟩) p.chunks.length m2, .slice A3 p.spans.length m3, .slice A4 p.ties.length m4] 35 (0, 0)))) (fun i _ => p.spans.length - (intOf i).toNat)
                      case atStart => exact ⟨0, by omega, rfl, Lib.hid rfl, hB.out, hK⟩
                      case round =>
                        clear hB hK
                        obtain ⟨k, hk, rfl, hr, hbw, hbx⟩ := hrel
                        have hs0 := blk_lt hbx.out
                        have hs := hbw.size
                        obtain ⟨x0, x1, x2, x3, x4⟩ := blk5 hbx.out
                        by_cases hlt : k < p.spans.length
                        · have has := has0.out
                          obtain ⟨b, off, rfl, hb, hc⟩ := has (by omega)
                          obtain ⟨c0, c1, c2⟩ := Span.cells_ (fun j u hu => (cells_of hbw b _ hb).trans (hc j u hu)) hlt
                          have z3 : b ≠ wr.heap.size := by omega
                          have z4 : w.heap.size ≠ wr.heap.size := by omega
                          have z5 : w.heap.size < wr.heap.size + 1 := by omega
                          clear hc
                          have hbn := Lib.hid (hbw.alloc hs (.cells #[.int .i64 p.spans[k].f, .int .i64 p.spans[k].t, .int .i64 p.spans[k].c] 98))
                          have hbxn := Lib.hid ((Below.heap_alloc wr (.cells #[.int .i64 p.spans[k].f, .int .i64 p.spans[k].t, .int .i64 p.spans[k].c] 98) _ hs0).trans hbx.out)
                          cases h1 : inR p.spans[k].t 0 ((p.chunks.length : Int) - 2)
                          · have hno := Lib.hid (hpo.out.2.2.2.1 (allTo_off (k := k) (by rw [spanFit_at hlt, h1]; simp) _ hlt))
                            go_wp2_with (go_at_call 62; refine (spec_inRange _ _ _ _).mono ?_; rintro e w1 ⟨rfl, rfl⟩)
                            go_ret
                            refine ⟨by rw [hno.out]; rfl, ?_⟩
                            repeat (first | exact hbn.out | refine Below.alloc ?_ (by first | omega | (simp <;> omega)) _)
                          · cases h2 : inR p.spans[k].f 0 p.spans[k].t
                            · have hno := Lib.hid (hpo.out.2.2.2.1 (allTo_off (k := k) (by rw [spanFit_at hlt, h2]; simp) _ hlt))
                              go_wp2_with (go_at_call 62; refine (spec_inRange _ _ _ _).mono ?_; rintro e w1 ⟨rfl, rfl⟩)
                              go_ret
                              refine ⟨by rw [hno.out]; rfl, ?_⟩
                              repeat (first | exact hbn.out | refine Below.alloc ?_ (by first | omega | (simp <;> omega)) _)
                            · cases h3 : inR p.spans[k].c 0 9
                              · have hno := Lib.hid (hpo.out.2.2.2.1 (allTo_off (k := k) (by rw [spanFit_at hlt, h3]; simp) _ hlt))
                                go_wp2_with (go_at_call 62; refine (spec_inRange _ _ _ _).mono ?_; rintro e w1 ⟨rfl, rfl⟩)
                                go_ret
                                refine ⟨by rw [hno.out]; rfl, ?_⟩
                                repeat (first | exact hbn.out | refine Below.alloc ?_ (by first | omega | (simp <;> omega)) _)
                              · have hon := Lib.hid (allTo_on hr.out (by rw [spanFit_at hlt, h1, h2, h3]; rfl))
                                go_wp2_with (go_at_call 62; refine (spec_inRange _ _ _ _).mono ?_; rintro e w1 ⟨rfl, rfl⟩)
                                go_roundw
                                case rel => exact ⟨k + 1, by omega, by go_num, hon, by (repeat (first | exact hbn.out | refine Below.alloc ?_ (by first | omega | (simp <;> omega)) _)), Lib.hid (by (repeat (first | exact hbxn.out | exact (Below.heap_alloc _ _ _ (by first | omega | (simp <;> omega))).trans hbxn.out | refine (Below.heap_alloc _ _ _ (by first | omega | (simp <;> omega))).trans ?_)))⟩
                                case measure => simp [intOf]; omega

                        · have hallspans : Hid (allTo (spanFit p) p.spans.length = true) := Lib.hid (by have := hr.out; rwa [show k = p.spans.length by omega] at this)
                          have hkl : ¬ ((k : Int) < (p.spans.length : Int)) := by omega
                          have hB := Lib.hid hbw
                          have hK := hbx
                          clear hr hbw hbx hs hs0
                          have halls := hallspans
                          go_wp2
                          clear x0 x1 x2 x3 x4 hkl hlt hk
                          go_loopw [8] (fun i wr => ∃ k : Nat, k ≤ p.ties.length ∧ i = .int .i64 k ∧ Hid (allTo (tieFit p) k = true) ∧ Below w.heap.size w wr ∧ Hid (wr.heap[w.heap.size]? = some (.cells #[.int .i64 p.ind, .slice A1 p.rules.length m1, .slice (some ⟨b9, off9, none⟩) p.chunks.length m2, .slice A3 p.spans.length m3, .slice A4 p.ties.length m4] 35 (0, 0)))) (fun i _ => p.ties.length - (intOf i).toNat)
                          case atStart => exact ⟨0, by omega, rfl, Lib.hid rfl, hB.out, hK⟩
                          case round =>
                            clear hB hK
                            obtain ⟨k, hk, rfl, hr, hbw, hbx⟩ := hrel
                            have hs0 := blk_lt hbx.out
                            have hs := hbw.size
                            obtain ⟨x0, x1, x2, x3, x4⟩ := blk5 hbx.out
                            by_cases hlt : k < p.ties.length
                            · have hat := hat0.out
                              obtain ⟨b, off, rfl, hb, hc⟩ := hat (by omega)
                              obtain ⟨c0, c1⟩ := Tie.cells_ (fun j u hu => (cells_of hbw b _ hb).trans (hc j u hu)) hlt
                              have z3 : b ≠ wr.heap.size := by omega
                              have z4 : w.heap.size ≠ wr.heap.size := by omega
                              have z5 : w.heap.size < wr.heap.size + 1 := by omega
                              clear hc
                              have hbn := Lib.hid (hbw.alloc hs (.cells #[.int .i64 p.ties[k].k, .int .i64 p.ties[k].u] 90))
                              have hbxn := Lib.hid ((Below.heap_alloc wr (.cells #[.int .i64 p.ties[k].k, .int .i64 p.ties[k].u] 90) _ hs0).trans hbx.out)
                              cases h1 : inR p.ties[k].k 0 ((p.rules.length : Int) - 1)
                              · have hno := Lib.hid (hpo.out.2.2.2.2.1 (allTo_off (k := k) (by rw [tieFit_at hlt, h1]; simp) _ hlt))
                                go_wp2_with (go_at_call 62; refine (spec_inRange _ _ _ _).mono ?_; rintro e w1 ⟨rfl, rfl⟩)
                                go_ret
                                refine ⟨by rw [hno.out]; rfl, ?_⟩
                                repeat (first | exact hbn.out | refine Below.alloc ?_ (by first | omega | (simp <;> omega)) _)
                              · cases h2 : inR p.ties[k].u 0 ((p.rules.length : Int) - 1)
                                · have hno := Lib.hid (hpo.out.2.2.2.2.1 (allTo_off (k := k) (by rw [tieFit_at hlt, h2]; simp) _ hlt))
                                  go_wp2_with (go_at_call 62; refine (spec_inRange _ _ _ _).mono ?_; rintro e w1 ⟨rfl, rfl⟩)
                                  go_ret
                                  refine ⟨by rw [hno.out]; rfl, ?_⟩
                                  repeat (first | exact hbn.out | refine Below.alloc ?_ (by first | omega | (simp <;> omega)) _)
                                · cases h3 : (p.ties[k].k == p.ties[k].u)
                                  · have hon := Lib.hid (allTo_on hr.out (by rw [tieFit_at hlt, h1, h2, h3]; rfl))
                                    go_wp2_with (go_at_call 62; refine (spec_inRange _ _ _ _).mono ?_; rintro e w1 ⟨rfl, rfl⟩)
                                    go_roundw
                                    case rel => exact ⟨k + 1, by omega, by go_num, hon, by (repeat (first | exact hbn.out | refine Below.alloc ?_ (by first | omega | (simp <;> omega)) _)), Lib.hid (by (repeat (first | exact hbxn.out | exact (Below.heap_alloc _ _ _ (by first | omega | (simp <;> omega))).trans hbxn.out | refine (Below.heap_alloc _ _ _ (by first | omega | (simp <;> omega))).trans ?_)))⟩
                                    case measure => simp [intOf]; omega
                                  · have hno := Lib.hid (hpo.out.2.2.2.2.1 (allTo_off (k := k) (by rw [tieFit_at hlt, h3]; simp) _ hlt))
                                    go_wp2_with (go_at_call 62; refine (spec_inRange _ _ _ _).mono ?_; rintro e w1 ⟨rfl, rfl⟩)
                                    go_ret
                                    refine ⟨by rw [hno.out]; rfl, ?_⟩
                                    repeat (first | exact hbn.out | refine Below.alloc ?_ (by first | omega | (simp <;> omega)) _)

                            · have hallties : Hid (allTo (tieFit p) p.ties.length = true) := Lib.hid (by have := hr.out; rwa [show k = p.ties.length by omega] at this)
                              have hkl : ¬ ((k : Int) < (p.ties.length : Int)) := by omega
                              have hB := Lib.hid hbw
                              have hK := hbx
                              clear hr hbw hbx hs hs0
                              have hyes := Lib.hid (hpo.out.2.2.2.2.2 hallr.out hallc.out hlast.out halls.out hallties.out)
                              go_wp2
                              go_ret
                              exact ⟨by rw [hyes.out]; rfl, hB.out⟩
          · have d5 : decide ((20 : Int) < (p.ties.length : Int)) = true := by simp; omega
            have hno := Lib.hid (show pieceOk p = false by unfold pieceOk sizesOk; rw [decide_eq_false h5]; simp)
            clear har hac has hat
            go_enter Try.func26, Try.ntmps26
            go_wp2_with (go_at_call 62; refine (spec_inRange _ _ _ _).mono ?_; rintro e w1 ⟨rfl, rfl⟩)
            go_ret
            exact ⟨by rw [hno.out]; rfl, hB.out⟩
        · have d4 : decide ((40 : Int) < (p.spans.length : Int)) = true := by simp; omega
          have hno := Lib.hid (show pieceOk p = false by unfold pieceOk sizesOk; rw [decide_eq_false h4]; simp)
          clear har hac has hat
          go_enter Try.func26, Try.ntmps26
          go_wp2_with (go_at_call 62; refine (spec_inRange _ _ _ _).mono ?_; rintro e w1 ⟨rfl, rfl⟩)
          go_ret
          exact ⟨by rw [hno.out]; rfl, hB.out⟩
    · have d2 : decide ((8 : Int) < (p.rules.length : Int)) = true := by simp; omega
      have hno := Lib.hid (show pieceOk p = false by unfold pieceOk rulesOk; rw [decide_eq_false h2]; simp)
      clear har hac has hat
      go_enter Try.func26, Try.ntmps26
      go_wp2_with (go_at_call 62; refine (spec_inRange _ _ _ _).mono ?_; rintro e w1 ⟨rfl, rfl⟩)
      go_ret
      exact ⟨by rw [hno.out]; rfl, hB.out⟩
end Go.Proofs.Ytlakellmdcdaaaa.Pc
