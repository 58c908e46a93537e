/-
  The contract of impl.PieceOk.
  Conditions: the piece reads as a piece, its texts are short.
-/
import Derived.Test.YtlakellmdcdaaaaPc4
namespace Go.Proofs.Ytlakellmdcdaaaa.Pc
open Go.RowKit Go.Proofs.Ytlakellmdcdaaaa.Row Go.Proofs.Ytlakellmdcdaaaa.Mem Go.Proofs.Ytlakellmdcdaaaa.Mix Go.Proofs.Ytlakellmdcdaaaa.Recs Go.Proofs.Ytlakellmdcdaaaa.Owns Go.Proofs.Ytlakellmdcdaaaa.Blocks Go.Proofs.Ytlakellmdcdaaaa.Piece Go.Proofs.Ytlakellmdcdaaaa.All Go.Proofs.Ytlakellmdcdaaaa.Ints
theorem spanFit_at {p : P} {k : Nat} (h : k < p.spans.length) : spanFit p k = (inR p.spans[k].t 0 ((p.chunks.length : Int) - 2) && (inR p.spans[k].f 0 p.spans[k].t && inR p.spans[k].c 0 9)) := by unfold spanFit; rw [spanAt_eq h]
theorem spanFit_no {p : P} {k : Nat} (h : k < p.spans.length) (h1 : p.spans[k].f < 0 ∨ p.spans[k].t < p.spans[k].f ∨ (p.chunks.length : Int) - 1 ≤ p.spans[k].t ∨ inR p.spans[k].c 0 9 = false) : spanFit p k = false := by
  rw [spanFit_at h, Bool.eq_false_iff]
  intro e
  simp only [Bool.and_eq_true, inR_iff] at e
  rcases h1 with h1 | h1 | h1 | h1
  · omega
  · omega
  · omega
  · have := inR_iff.2 e.2.2; rw [this] at h1; cases h1
theorem spanFit_yes {p : P} {k : Nat} (h : k < p.spans.length) (h1 : 0 ≤ p.spans[k].f) (h2 : p.spans[k].f ≤ p.spans[k].t) (h3 : p.spans[k].t < (p.chunks.length : Int) - 1) (h4 : inR p.spans[k].c 0 9 = true) : spanFit p k = true := by
  rw [spanFit_at h, inR_yes (by omega) (by omega), inR_yes h1 h2, h4]; rfl
theorem tieFit_at {p : P} {k : Nat} (h : k < p.ties.length) : tieFit p k = (inR p.ties[k].k 0 ((p.rules.length : Int) - 1) && (inR p.ties[k].u 0 ((p.rules.length : Int) - 1) && !(p.ties[k].k == p.ties[k].u))) := by unfold tieFit; rw [tieAt_eq h]
set_option maxRecDepth 100000 in
set_option maxHeartbeats 12800000 in
theorem impl_PieceOk {p : P} {r c s t : Value} {w : World} (h : PRow w p r c s t) (hst : ∀ x ∈ p.chunks, x.t.size ≤ 1099511627776) :
    Calls Try.prog 27 #[pv p.ind r c s t] w fun e w' => e = .returned (.bool (pieceOk p)) ∧ Below w.heap.size w w' := by
  obtain ⟨⟨A1, m1, rfl⟩, ⟨A2, m2, rfl⟩, ⟨A3, m3, rfl⟩, ⟨A4, m4, rfl⟩⟩ := h.lits
  obtain ⟨As, c1s, e1s, -, hns, hncs, hcms, has⟩ := h.spans
  injection e1s with ea el ec
  subst ea ec
  clear el
  obtain ⟨At, c1t, e1t, -, hnt, hnct, hcmt, hat⟩ := h.ties
  injection e1t with ea el ec
  subst ea ec
  clear el
  have hnr : p.rules.length ≤ 9223372036854775807 := by obtain ⟨_, _, _, _, h, _⟩ := h.rules; exact h
  have hnn : p.chunks.length ≤ 9223372036854775807 := by obtain ⟨_, _, _, _, h, _⟩ := h.chunks; exact h
  have hb0 := (Below.refl w.heap.size w).alloc (Nat.le_refl _) (.cells #[.int .i64 p.ind, .slice A1 p.rules.length m1, .slice A2 p.chunks.length m2, .slice A3 p.spans.length m3, .slice A4 p.ties.length m4] 35)
  have hB := Lib.hid hb0
  have hK := Lib.hid (heap_alloc_new w (.cells #[.int .i64 p.ind, .slice A1 p.rules.length m1, .slice A2 p.chunks.length m2, .slice A3 p.spans.length m3, .slice A4 p.ties.length m4] 35))
  have hc1 := Lib.hid (impl_rulesOk (h.below hb0))
  have hc2 := Lib.hid (fun (W : World) (hW : Below w.heap.size w W) => impl_chunksOk (h.below hW) hst)
  clear h hb0 hst
  cases h1 : inR p.ind 0 60
  · have hno := Lib.hid (show pieceOk p = false by unfold pieceOk; rw [h1]; rfl)
    clear has hat
    go_enter Try.func27, Try.ntmps27
    go_wp2_with (go_at_call 67; refine (impl_inRange _ _ _ _).mono ?_; rintro e w1 ⟨rfl, rfl⟩)
    go_ret
    exact ⟨by rw [hno.out]; rfl, hB.out⟩
  · cases h2 : rulesOk p
    · rw [h2] at hc1
      have hno := Lib.hid (show pieceOk p = false by unfold pieceOk; rw [h1, h2]; rfl)
      clear has hat
      go_enter Try.func27, Try.ntmps27
      go_wp2_with (go_at_call 67; refine (impl_inRange _ _ _ _).mono ?_; rintro e w1 ⟨rfl, rfl⟩)
      refine hc1.out.mono ?_
      rintro e w1 ⟨rfl, b1⟩
      go_wp2
      go_ret
      exact ⟨by rw [hno.out]; rfl, hB.out.trans (b1.mono hB.out.size)⟩
    · rw [h2] at hc1
      cases h3 : chunksOk p
      · have hno := Lib.hid (show pieceOk p = false by unfold pieceOk; rw [h1, h2, h3]; rfl)
        rw [h3] at hc2
        clear has hat
        go_enter Try.func27, Try.ntmps27
        go_wp2_with (go_at_call 67; refine (impl_inRange _ _ _ _).mono ?_; rintro e w1 ⟨rfl, rfl⟩)
        refine hc1.out.mono ?_
        rintro e w1 ⟨rfl, b1⟩
        replace hB := Lib.hid (hB.out.trans (b1.mono hB.out.size))
        obtain ⟨x0, x1, x2, x3, x4⟩ := blk5 (blk_below hK.out b1)
        clear b1
        go_wp2_with fail
        refine (hc2.out _ hB.out).mono ?_
        rintro e w2 ⟨rfl, b2⟩
        clear x0 x1 x2 x3 x4
        go_wp2
        go_ret
        exact ⟨by rw [hno.out]; rfl, hB.out.trans (b2.mono hB.out.size)⟩
      · rw [h3] at hc2
        have hc80 : (p.chunks.length : Int) ≤ 80 := by
          have e := h3
          unfold chunksOk at e
          simp only [Bool.and_eq_true] at e
          exact (inR_iff.1 e.1).2
        by_cases h4 : p.spans.length ≤ 40 ∧ p.ties.length ≤ 20
        · have d4 : decide ((40 : Int) < (p.spans.length : Int)) = false := by simp; omega
          have d5 : decide ((20 : Int) < (p.ties.length : Int)) = false := by simp; omega
          have hpo : Hid ((allTo (spanFit p) p.spans.length = false → pieceOk p = false) ∧ (allTo (tieFit p) p.ties.length = false → pieceOk p = false) ∧ (allTo (spanFit p) p.spans.length = true → allTo (tieFit p) p.ties.length = true → pieceOk p = true)) := Lib.hid (by
            have e : sizesOk p = true := by unfold sizesOk; rw [decide_eq_true h4.1, decide_eq_true h4.2]; rfl
            refine ⟨fun q => ?_, fun q => ?_, fun q q2 => ?_⟩
            · unfold pieceOk; rw [h1, h2, h3, e, q]; rfl
            · unfold pieceOk; rw [h1, h2, h3, e, q]; simp
            · unfold pieceOk; rw [h1, h2, h3, e, q, q2]; rfl)
          have hsp := Lib.hid hpo.out.1
          have htp := Lib.hid hpo.out.2.1
          clear h2 h3 h4
          go_enter Try.func27, Try.ntmps27
          go_wp2_with (go_at_call 67; refine (impl_inRange _ _ _ _).mono ?_; rintro e w1 ⟨rfl, rfl⟩)
          refine hc1.out.mono ?_
          rintro e w1 ⟨rfl, b1⟩
          replace hB := Lib.hid (hB.out.trans (b1.mono hB.out.size))
          replace hK := Lib.hid (blk_below hK.out b1)
          obtain ⟨x0, x1, x2, x3, x4⟩ := blk5 hK.out
          clear b1
          go_wp2_with fail
          refine (hc2.out _ hB.out).mono ?_
          rintro e w2 ⟨rfl, b2⟩
          clear x0 x1 x2 x3 x4
          replace hB := Lib.hid (hB.out.trans (b2.mono hB.out.size))
          replace hK := Lib.hid (blk_below hK.out b2)
          obtain ⟨x0, x1, x2, x3, x4⟩ := blk5 hK.out
          clear b2 hc1 hc2
          go_wp2
          clear x0 x1 x2 x3 x4
          go_loopw [36] (fun i wr => ∃ k : Nat, k ≤ p.spans.length ∧ i = .int .i64 k ∧ Hid (allTo (spanFit p) k = true) ∧ Below w.heap.size w wr ∧ Hid (wr.heap[w.heap.size]? = some (.cells #[.int .i64 p.ind, .slice A1 p.rules.length m1, .slice A2 p.chunks.length m2, .slice A3 p.spans.length m3, .slice A4 p.ties.length m4] 35 (0, 0)))) (fun i _ => p.spans.length - (intOf i).toNat)
          case atStart => exact ⟨0, by omega, rfl, Lib.hid rfl, hB.out, hK⟩
          case round =>
            clear hB hK
            obtain ⟨k, hk, rfl, hr, hbw, hbx⟩ := hrel
            have hs0 := blk_lt hbx.out
            have hs := hbw.size
            obtain ⟨x0, x1, x2, x3, x4⟩ := blk5 hbx.out
            by_cases hlt : k < p.spans.length
            · obtain ⟨b, off, rfl, hb, hc⟩ := has (by omega)
              obtain ⟨c0, c1, c2⟩ := Span.cells_ (fun j u hu => (cells_of hbw b _ hb).trans (hc j u hu)) hlt
              have z3 : b ≠ wr.heap.size := by omega
              have z4 : w.heap.size ≠ wr.heap.size := by omega
              have z5 : w.heap.size < wr.heap.size + 1 := by omega
              clear hc
              have hbn := Lib.hid (hbw.alloc hs (.cells #[.int .i64 p.spans[k].f, .int .i64 p.spans[k].t, .int .i64 p.spans[k].c] 98))
              have hbxn := Lib.hid ((Below.heap_alloc wr (.cells #[.int .i64 p.spans[k].f, .int .i64 p.spans[k].t, .int .i64 p.spans[k].c] 98) _ hs0).trans hbx.out)
              by_cases h1 : p.spans[k].f < 0
              · have d1 : decide (p.spans[k].f < 0) = true := by simpa using h1
                have hno := Lib.hid (hsp.out (allTo_off (k := k) (spanFit_no hlt (.inl h1)) _ hlt))
                go_wp2_with (go_at_call 67; refine (impl_inRange _ _ _ _).mono ?_; rintro e w1 ⟨rfl, rfl⟩)
                go_ret
                refine ⟨by rw [hno.out]; rfl, ?_⟩
                repeat (first | exact hbn.out | refine Below.alloc ?_ (by first | omega | (simp <;> omega)) _)
              · have d1 : decide (p.spans[k].f < 0) = false := by simp; omega
                have h1' : 0 ≤ p.spans[k].f := by omega
                clear h1
                by_cases h2 : p.spans[k].t < p.spans[k].f
                · have d2 : decide (p.spans[k].t < p.spans[k].f) = true := by simpa using h2
                  have hno := Lib.hid (hsp.out (allTo_off (k := k) (spanFit_no hlt (.inr (.inl h2))) _ hlt))
                  go_wp2_with (go_at_call 67; refine (impl_inRange _ _ _ _).mono ?_; rintro e w1 ⟨rfl, rfl⟩)
                  go_ret
                  refine ⟨by rw [hno.out]; rfl, ?_⟩
                  repeat (first | exact hbn.out | refine Below.alloc ?_ (by first | omega | (simp <;> omega)) _)
                · have d2 : decide (p.spans[k].t < p.spans[k].f) = false := by simp; omega
                  have h2' : p.spans[k].f ≤ p.spans[k].t := by omega
                  clear h2
                  by_cases h3 : (p.chunks.length : Int) - 1 ≤ p.spans[k].t
                  · have d3 : decide ((p.chunks.length : Int) - 1 ≤ p.spans[k].t) = true := by simpa using h3
                    have hno := Lib.hid (hsp.out (allTo_off (k := k) (spanFit_no hlt (.inr (.inr (.inl h3)))) _ hlt))
                    go_wp2_with (go_at_call 67; refine (impl_inRange _ _ _ _).mono ?_; rintro e w1 ⟨rfl, rfl⟩)
                    go_ret
                    refine ⟨by rw [hno.out]; rfl, ?_⟩
                    repeat (first | exact hbn.out | refine Below.alloc ?_ (by first | omega | (simp <;> omega)) _)
                  · have d3 : decide ((p.chunks.length : Int) - 1 ≤ p.spans[k].t) = false := by simp; omega
                    have h3' : p.spans[k].t < (p.chunks.length : Int) - 1 := by omega
                    clear h3
                    cases h4 : inR p.spans[k].c 0 9
                    · have hno := Lib.hid (hsp.out (allTo_off (k := k) (spanFit_no hlt (.inr (.inr (.inr h4)))) _ hlt))
                      go_wp2_with (go_at_call 67; refine (impl_inRange _ _ _ _).mono ?_; rintro e w1 ⟨rfl, rfl⟩)
                      go_ret
                      refine ⟨by rw [hno.out]; rfl, ?_⟩
                      repeat (first | exact hbn.out | refine Below.alloc ?_ (by first | omega | (simp <;> omega)) _)
                    · have hon := Lib.hid (allTo_on hr.out (spanFit_yes hlt (by omega) (by omega) (by omega) h4))
                      go_wp2_with (go_at_call 67; refine (impl_inRange _ _ _ _).mono ?_; rintro e w1 ⟨rfl, rfl⟩)
                      go_roundw
                      case rel => exact ⟨k + 1, by omega, by go_num, hon, by (repeat (first | exact hbn.out | refine Below.alloc ?_ (by first | omega | (simp <;> omega)) _)), Lib.hid (by (repeat (first | exact hbxn.out | exact (Below.heap_alloc _ _ _ (by first | omega | (simp <;> omega))).trans hbxn.out | refine (Below.heap_alloc _ _ _ (by first | omega | (simp <;> omega))).trans ?_)))⟩
                      case measure => simp [intOf]; omega

            · have hallspans : Hid (allTo (spanFit p) p.spans.length = true) := Lib.hid (by have := hr.out; rwa [show k = p.spans.length by omega] at this)
              have hkl : ¬ ((k : Int) < (p.spans.length : Int)) := by omega
              have hB := Lib.hid hbw
              have hK := hbx
              clear hr hbw hbx hs hs0
              have halls := hallspans
              go_wp2
              clear x0 x1 x2 x3 x4 hkl hlt hk
              go_loopw [69] (fun i wr => ∃ k : Nat, k ≤ p.ties.length ∧ i = .int .i64 k ∧ Hid (allTo (tieFit p) k = true) ∧ Below w.heap.size w wr ∧ Hid (wr.heap[w.heap.size]? = some (.cells #[.int .i64 p.ind, .slice A1 p.rules.length m1, .slice A2 p.chunks.length m2, .slice A3 p.spans.length m3, .slice A4 p.ties.length m4] 35 (0, 0)))) (fun i _ => p.ties.length - (intOf i).toNat)
              case atStart => exact ⟨0, by omega, rfl, Lib.hid rfl, hB.out, hK⟩
              case round =>
                clear hB hK
                obtain ⟨k, hk, rfl, hr, hbw, hbx⟩ := hrel
                have hs0 := blk_lt hbx.out
                have hs := hbw.size
                obtain ⟨x0, x1, x2, x3, x4⟩ := blk5 hbx.out
                by_cases hlt : k < p.ties.length
                · obtain ⟨b, off, rfl, hb, hc⟩ := hat (by omega)
                  obtain ⟨c0, c1⟩ := Tie.cells_ (fun j u hu => (cells_of hbw b _ hb).trans (hc j u hu)) hlt
                  have z3 : b ≠ wr.heap.size := by omega
                  have z4 : w.heap.size ≠ wr.heap.size := by omega
                  have z5 : w.heap.size < wr.heap.size + 1 := by omega
                  clear hc
                  have hbn := Lib.hid (hbw.alloc hs (.cells #[.int .i64 p.ties[k].k, .int .i64 p.ties[k].u] 90))
                  have hbxn := Lib.hid ((Below.heap_alloc wr (.cells #[.int .i64 p.ties[k].k, .int .i64 p.ties[k].u] 90) _ hs0).trans hbx.out)
                  cases h1 : inR p.ties[k].k 0 ((p.rules.length : Int) - 1)
                  · have hno := Lib.hid (htp.out (allTo_off (k := k) (by rw [tieFit_at hlt, h1]; rfl) _ hlt))
                    go_wp2_with (go_at_call 77; refine (impl_isRule ⟨_, _, rfl⟩ hnr _).mono ?_; rintro e w1 ⟨rfl, rfl⟩)
                    go_ret
                    refine ⟨by rw [hno.out]; rfl, ?_⟩
                    repeat (first | exact hbn.out | refine Below.alloc ?_ (by first | omega | (simp <;> omega)) _)
                  · cases h2 : inR p.ties[k].u 0 ((p.rules.length : Int) - 1)
                    · have hno := Lib.hid (htp.out (allTo_off (k := k) (by rw [tieFit_at hlt, h1, h2]; rfl) _ hlt))
                      go_wp2_with (go_at_call 77; refine (impl_isRule ⟨_, _, rfl⟩ hnr _).mono ?_; rintro e w1 ⟨rfl, rfl⟩)
                      go_ret
                      refine ⟨by rw [hno.out]; rfl, ?_⟩
                      repeat (first | exact hbn.out | refine Below.alloc ?_ (by first | omega | (simp <;> omega)) _)
                    · cases h3 : (p.ties[k].k == p.ties[k].u)
                      · have hon := Lib.hid (allTo_on hr.out (by rw [tieFit_at hlt, h1, h2, h3]; rfl))
                        go_wp2_with (go_at_call 77; refine (impl_isRule ⟨_, _, rfl⟩ hnr _).mono ?_; rintro e w1 ⟨rfl, rfl⟩)
                        go_roundw
                        case rel => exact ⟨k + 1, by omega, by go_num, hon, by (repeat (first | exact hbn.out | refine Below.alloc ?_ (by first | omega | (simp <;> omega)) _)), Lib.hid (by (repeat (first | exact hbxn.out | exact (Below.heap_alloc _ _ _ (by first | omega | (simp <;> omega))).trans hbxn.out | refine (Below.heap_alloc _ _ _ (by first | omega | (simp <;> omega))).trans ?_)))⟩
                        case measure => simp [intOf]; omega
                      · have hno := Lib.hid (htp.out (allTo_off (k := k) (by rw [tieFit_at hlt, h1, h2, h3]; rfl) _ hlt))
                        go_wp2_with (go_at_call 77; refine (impl_isRule ⟨_, _, rfl⟩ hnr _).mono ?_; rintro e w1 ⟨rfl, rfl⟩)
                        go_ret
                        refine ⟨by rw [hno.out]; rfl, ?_⟩
                        repeat (first | exact hbn.out | refine Below.alloc ?_ (by first | omega | (simp <;> omega)) _)

                · have hallties : Hid (allTo (tieFit p) p.ties.length = true) := Lib.hid (by have := hr.out; rwa [show k = p.ties.length by omega] at this)
                  have hkl : ¬ ((k : Int) < (p.ties.length : Int)) := by omega
                  have hB := Lib.hid hbw
                  have hK := hbx
                  clear hr hbw hbx hs hs0
                  have hyes := Lib.hid (hpo.out.2.2 halls.out hallties.out)
                  go_wp2
                  go_ret
                  exact ⟨by rw [hyes.out]; rfl, hB.out⟩
        · have hno := Lib.hid (show pieceOk p = false by
            have e : sizesOk p = false := by
              unfold sizesOk
              rw [Bool.eq_false_iff]
              intro e
              simp only [Bool.and_eq_true, decide_eq_true_eq] at e
              exact h4 e
            unfold pieceOk; rw [e]; simp)
          clear has hat
          by_cases h5 : p.spans.length ≤ 40
          · have d4 : decide ((40 : Int) < (p.spans.length : Int)) = false := by simp; omega
            have d5 : decide ((20 : Int) < (p.ties.length : Int)) = true := by simp; omega
            clear h2 h3 h4
            go_enter Try.func27, Try.ntmps27
            go_wp2_with (go_at_call 67; refine (impl_inRange _ _ _ _).mono ?_; rintro e w1 ⟨rfl, rfl⟩)
            refine hc1.out.mono ?_
            rintro e w1 ⟨rfl, b1⟩
            replace hB := Lib.hid (hB.out.trans (b1.mono hB.out.size))
            replace hK := Lib.hid (blk_below hK.out b1)
            obtain ⟨x0, x1, x2, x3, x4⟩ := blk5 hK.out
            clear b1
            go_wp2_with fail
            refine (hc2.out _ hB.out).mono ?_
            rintro e w2 ⟨rfl, b2⟩
            clear x0 x1 x2 x3 x4
            replace hB := Lib.hid (hB.out.trans (b2.mono hB.out.size))
            obtain ⟨x0, x1, x2, x3, x4⟩ := blk5 (blk_below hK.out b2)
            clear b2
            go_wp2
            go_ret
            exact ⟨by rw [hno.out]; rfl, hB.out⟩
          · have d4 : decide ((40 : Int) < (p.spans.length : Int)) = true := by simp; omega
            clear h2 h3 h4
            go_enter Try.func27, Try.ntmps27
            go_wp2_with (go_at_call 67; refine (impl_inRange _ _ _ _).mono ?_; rintro e w1 ⟨rfl, rfl⟩)
            refine hc1.out.mono ?_
            rintro e w1 ⟨rfl, b1⟩
            replace hB := Lib.hid (hB.out.trans (b1.mono hB.out.size))
            replace hK := Lib.hid (blk_below hK.out b1)
            obtain ⟨x0, x1, x2, x3, x4⟩ := blk5 hK.out
            clear b1
            go_wp2_with fail
            refine (hc2.out _ hB.out).mono ?_
            rintro e w2 ⟨rfl, b2⟩
            clear x0 x1 x2 x3 x4
            replace hB := Lib.hid (hB.out.trans (b2.mono hB.out.size))
            obtain ⟨x0, x1, x2, x3, x4⟩ := blk5 (blk_below hK.out b2)
            clear b2
            go_wp2
            go_ret
            exact ⟨by rw [hno.out]; rfl, hB.out⟩
end Go.Proofs.Ytlakellmdcdaaaa.Pc
