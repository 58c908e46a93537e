/-
  The contract of impl.bound: what right values' rules and the split spans cost.
  Conditions: a right piece, right values.
-/
import Derived.Test.YtlakellmdcdaaaaPc10
namespace Go.Proofs.Ytlakellmdcdaaaa.Pc
open Go.RowKit Go.Proofs.Ytlakellmdcdaaaa.Row Go.Proofs.Ytlakellmdcdaaaa.Mem Go.Proofs.Ytlakellmdcdaaaa.Mix Go.Proofs.Ytlakellmdcdaaaa.Recs Go.Proofs.Ytlakellmdcdaaaa.Owns Go.Proofs.Ytlakellmdcdaaaa.Blocks Go.Proofs.Ytlakellmdcdaaaa.Piece Go.Proofs.Ytlakellmdcdaaaa.All Go.Proofs.Ytlakellmdcdaaaa.Ints Go.Proofs.Ytlakellmdcdaaaa.Strs Go.Proofs.Ytlakellmdcdaaaa.Rep
def ruleSum (p : P) (xs : List Int) : Nat → Int
  | 0 => 0
  | k + 1 => ruleSum p xs k + (ruleAt p k).c * valAt xs k
def spanSum (p : P) (xs : List Int) : Nat → Int
  | 0 => 0
  | k + 1 => spanSum p xs k + (if hit p xs k = true then (spanAt p k).c else 0)
def sumOf (p : P) (xs : List Int) : Int := ruleSum p xs p.rules.length + spanSum p xs p.spans.length
theorem vals_bd {p : P} {xs : List Int} (hR : Right p) (hv : valuesOk p xs = true) {k : Nat} (hk : k < p.rules.length) : 0 ≤ valAt xs k ∧ valAt xs k ≤ 2 := by
  have hl := valuesOk_same hv
  unfold valuesOk at hv
  simp only [Bool.and_eq_true, allTo_iff] at hv
  have h1 := hv.2 k (by omega)
  have h2 := right_rule hR hk
  unfold fits at h1
  rw [inR_iff] at h1
  unfold dec wrap64 at h1
  omega
theorem mul_bd {c v : Int} (h1 : 0 ≤ c) (h2 : c ≤ 9) (h3 : 0 ≤ v) (h4 : v ≤ 2) : 0 ≤ c * v ∧ c * v ≤ 18 :=
  ⟨Int.mul_nonneg h1 h3, by have := Int.mul_le_mul h2 h4 h3 (by omega : (0 : Int) ≤ 9); omega⟩
theorem ruleSum_bd {p : P} {xs : List Int} (hR : Right p) (hv : valuesOk p xs = true) : ∀ {k : Nat}, k ≤ p.rules.length → 0 ≤ ruleSum p xs k ∧ ruleSum p xs k ≤ 18 * k
  | 0, _ => by simp [ruleSum]
  | k + 1, h => by
    have ih := ruleSum_bd hR hv (k := k) (by omega)
    have h1 := vals_bd hR hv (k := k) (by omega)
    have h2 := right_rule hR (i := k) (by omega)
    have h3 := mul_bd h2.2.2.1 h2.2.2.2 h1.1 h1.2
    rw [ruleSum]
    omega
theorem spanSum_bd {p : P} (xs : List Int) (hR : Right p) : ∀ {k : Nat}, k ≤ p.spans.length → 0 ≤ spanSum p xs k ∧ spanSum p xs k ≤ 9 * k
  | 0, _ => by simp [spanSum]
  | k + 1, h => by
    have ih := spanSum_bd xs hR (k := k) (by omega)
    obtain ⟨_, _, -, -, -, -, h1, h2⟩ := right_span hR (i := k) (by omega)
    rw [spanSum]
    split <;> omega
theorem hit_eq {p : P} {xs : List Int} {i f u : Nat} (h1 : (spanAt p i).f = (f : Int)) (h2 : (spanAt p i).t = (u : Int)) (h : f ≤ u) : hit p xs i = hitTo p xs f (u - f + 1) := by
  unfold hit
  rw [h1, h2, Int.toNat_natCast, show ((u : Int) - (f : Int) + 1).toNat = u - f + 1 by omega]
set_option maxRecDepth 100000 in
set_option maxHeartbeats 6400000 in
theorem impl_sum {p : P} {r c s t v : Value} {xs : List Int} {w : World} (h : PRow w p r c s t) (hv : Row w v 1 xs.length (ints xs)) (hR : Right p) (hok : valuesOk p xs = true) :
    Calls Try.prog 116 #[pv p.ind r c s t, v] w fun e w' => e = .returned (.int .i64 (sumOf p xs)) ∧ Below w.heap.size w w' := by
  have hx := valuesOk_same hok
  have nR := hR.nrules
  have nC := hR.nchunks.2
  have nS := hR.nspans
  obtain ⟨⟨A1, m1, rfl⟩, ⟨A2, m2, rfl⟩, ⟨A3, m3, rfl⟩, ⟨A4, m4, rfl⟩⟩ := h.lits
  obtain ⟨A, c1, e1, -, nr, ncr, cmr, ar⟩ := h.rules
  injection e1 with ea el ec
  subst ea ec
  clear el
  obtain ⟨A, c1, e1, -, np, ncp, cmp, ap⟩ := h.spans
  injection e1 with ea el ec
  subst ea ec
  clear el
  obtain ⟨Av, cv, rfl, -, vn, vnc, vcm, va⟩ := id hv
  replace h := Lib.hid h
  replace hv := Lib.hid hv
  replace hR := Lib.hid hR
  have hle : xs.length ≤ p.rules.length := by omega
  have hle2 : p.rules.length ≤ xs.length := by omega
  replace hx := Lib.hid hx
  replace hok := Lib.hid hok
  have hB0 := Lib.hid ((Below.refl w.heap.size w).alloc (Nat.le_refl _) (.cells #[.int .i64 p.ind, .slice A1 p.rules.length m1, .slice A2 p.chunks.length m2, .slice A3 p.spans.length m3, .slice A4 p.ties.length m4] 35))
  have hK0 := Lib.hid (heap_alloc_new w (.cells #[.int .i64 p.ind, .slice A1 p.rules.length m1, .slice A2 p.chunks.length m2, .slice A3 p.spans.length m3, .slice A4 p.ties.length m4] 35))
  go_enter Try.func116, Try.ntmps116
  go_wp2
  go_loopw [5, 6, 7, 12] (fun sm _ _ i wr => ∃ k : Nat, k ≤ xs.length ∧ i = .int .i64 k ∧ sm = .int .i64 (ruleSum p xs k) ∧ Below w.heap.size w wr ∧ Hid (wr.heap[w.heap.size]? = some (.cells #[.int .i64 p.ind, .slice A1 p.rules.length m1, .slice A2 p.chunks.length m2, .slice A3 p.spans.length m3, .slice A4 p.ties.length m4] 35 (0, 0)))) (fun sm _ _ i _ => xs.length - (intOf i).toNat)
  case atStart => exact ⟨0, by omega, rfl, rfl, hB0.out, hK0⟩
  case round =>
    clear hB0 hK0
    obtain ⟨k, hk, rfl, rfl, hbw, hbx⟩ := hrel
    have hs0 := blk_lt hbx.out
    have hsz := hbw.size
    obtain ⟨x0, x1, x2, x3, x4⟩ := blk5 hbx.out
    by_cases hltv : k < xs.length
    · have hlt : k < p.rules.length := by omega
      obtain ⟨br, offr, rfl, hbr, hcr⟩ := ar (by omega)
      obtain ⟨r0, r1⟩ := Rule.cells_ (fun j u hu => (cells_of hbw br _ hbr).trans (hcr j u hu)) hlt
      obtain ⟨bv, offv, rfl, hbv, hcv⟩ := va (by omega)
      have y0 := (cells_of hbw bv (offv + k) hbv).trans (hcv k _ (at_one hltv .i64))
      have z1 : br < wr.heap.size := by omega
      have z2 : bv < wr.heap.size := by omega
      have z3 : br ≠ w.heap.size := by omega
      have z4 : bv ≠ w.heap.size := by omega
      have hv1 := vals_bd hR.out hok.out hlt
      have hr1 := right_rule hR.out hlt
      have hm := mul_bd hr1.2.2.1 hr1.2.2.2 hv1.1 hv1.2
      have hsb := ruleSum_bd hR.out hok.out (k := k) (by omega)
      have hon := Lib.hid (show ruleSum p xs (k + 1) = ruleSum p xs k + (ruleAt p k).c * valAt xs k from rfl)
      rw [valAt_eq hltv, ruleAt_eq hlt] at hm
      rw [valAt_eq hltv, ruleAt_eq hlt] at hon
      have i0 : (0 : Int) ≤ (k : Int) := by omega
      have i1 : (k : Int) < (p.rules.length : Int) := by omega
      have i2 : (k : Int) < (xs.length : Int) := by omega
      obtain ⟨m, hmm⟩ : ∃ m, p.rules[k].c * xs[k] = m := ⟨_, rfl⟩
      rw [hmm] at hm hon
      have hw1 : wrap64 (xs[k] * p.rules[k].c) = m := by rw [Int.mul_comm, hmm]; unfold wrap64; omega
      generalize ruleSum p xs k = S at *
      have hw2 : wrap64 (S + m) = S + m := by unfold wrap64; omega
      clear hv1 hr1 hm hsb hmm hcr hcv r0 ar va
      go_wp2
      go_roundw
      case rel => exact ⟨k + 1, by omega, by go_num, by rw [hon.out, hw2], hbw, hbx⟩
      case measure => simp [intOf]; omega
    · obtain rfl : k = xs.length := by omega
      have hsb := ruleSum_bd hR.out hok.out (k := xs.length) (by omega)
      have hS : Hid (∀ T, spanSum p xs p.spans.length = T → sumOf p xs = ruleSum p xs xs.length + T) := Lib.hid (fun T e => by unfold sumOf; rw [e, hx.out])
      clear ar va
      generalize ruleSum p xs xs.length = S0 at *
      have q0 : xs.length - 0 = xs.length := by omega
      go_wp2
      go_loopw [5, 31] (fun sm i wr => ∃ k : Nat, k ≤ p.spans.length ∧ i = .int .i64 k ∧ sm = .int .i64 (S0 + spanSum p xs k) ∧ Below w.heap.size w wr ∧ Hid (wr.heap[w.heap.size]? = some (.cells #[.int .i64 p.ind, .slice A1 p.rules.length m1, .slice A2 p.chunks.length m2, .slice A3 p.spans.length m3, .slice A4 p.ties.length m4] 35 (0, 0)))) (fun sm i _ => p.spans.length - (intOf i).toNat)
      case atStart => exact ⟨0, by omega, rfl, by simp [spanSum], hbw, hbx⟩
      case round =>
        clear hbw hs0 hsz x0 x1 x2 x3 x4 hbx q0
        obtain ⟨k, hk, rfl, rfl, hbw, hbx⟩ := hrel
        have hs0 := blk_lt hbx.out
        have hsz := hbw.size
        obtain ⟨x0, x1, x2, x3, x4⟩ := blk5 hbx.out
        have hsp0 := spanSum_bd xs hR.out hk
        by_cases hlt : k < p.spans.length
        · obtain ⟨bp, offp, rfl, hbp, hcp⟩ := ap (by omega)
          obtain ⟨s0, s1, s2⟩ := Span.cells_ (fun j u hu => (cells_of hbw bp _ hbp).trans (hcp j u hu)) hlt
          obtain ⟨f, u, ef, eu, hfu, huc, hc0, hc9⟩ := right_span hR.out hlt
          have heq := hit_eq (xs := xs) ef eu hfu
          rw [spanAt_eq hlt] at ef eu hc0 hc9
          rw [ef] at s0
          rw [eu] at s1
          have hcp0 := Lib.hid hcp
          replace ef := Lib.hid ef
          replace eu := Lib.hid eu
          clear ap hcp
          have z1 : bp < wr.heap.size := by omega
          have z3 : bp ≠ wr.heap.size := by omega
          have i0 : (0 : Int) ≤ (k : Int) := by omega
          have i1 : (k : Int) < (p.spans.length : Int) := by omega
          have hon : Hid (spanSum p xs (k + 1) = spanSum p xs k + (if hit p xs k = true then p.spans[k].c else 0)) := Lib.hid (by rw [spanSum, spanAt_eq hlt])
          rw [heq] at hon
          obtain ⟨bb, hbb⟩ : ∃ b, hitTo p xs f (u - f + 1) = b := ⟨_, rfl⟩
          have hbc := hbw.alloc hsz (.cells #[.int .i64 (f : Int), .int .i64 (u : Int), .int .i64 p.spans[k].c] 98)
          have kc := heap_alloc_new wr (.cells #[.int .i64 (f : Int), .int .i64 (u : Int), .int .i64 p.spans[k].c] 98)
          have kbc := (Below.heap_alloc wr (.cells #[.int .i64 (f : Int), .int .i64 (u : Int), .int .i64 p.spans[k].c] 98) _ hs0).trans hbx.out
          have hcall := impl_span (h.out.below hbc) (hv.out.below hbc) hR.out hx.out hfu huc p.spans[k].c
          rw [hbb] at hcall hon
          obtain ⟨W, hW⟩ : ∃ W, wr.alloc (.cells #[.int .i64 (f : Int), .int .i64 (u : Int), .int .i64 p.spans[k].c] 98) = W := ⟨_, rfl⟩
          rw [hW] at hcall hbc kc kbc
          replace hW := Lib.hid hW
          replace hcall := Lib.hid hcall
          replace hbc := Lib.hid hbc
          replace kc := Lib.hid kc
          replace kbc := Lib.hid kbc
          generalize spanSum p xs k = S1 at *
          have hw3 : wrap64 (S0 + S1 + p.spans[k].c) = S0 + S1 + p.spans[k].c := by unfold wrap64; omega
          clear hbw hbx hsp0 hsb heq hbb hfu huc
          go_wp2_with fail
          rw [hW.out]
          refine hcall.out.mono ?_
          rintro e w3 ⟨rfl, b3⟩
          replace hbc := Lib.hid (hbc.out.trans (b3.mono hbc.out.size))
          replace kc := Lib.hid (blk_below kc.out b3)
          replace kbc := Lib.hid (blk_below kbc.out b3)
          have l1 := blk_lt kc.out
          clear b3 hcall hW x0 x1 x2 x3 x4 s0 s1 s2 hs0
          obtain ⟨y0, y1, y2⟩ := blk3 kc.out
          clear y0 y1
          cases bb
          · go_wp2
            go_roundw
            case rel => exact ⟨k + 1, by omega, by go_num, by rw [hon.out]; simp, hbc.out, kbc⟩
            case measure => simp [intOf]; omega
          · go_wp2
            go_roundw
            case rel => exact ⟨k + 1, by omega, by go_num, by rw [hon.out, hw3]; simp [Int.add_assoc], hbc.out, kbc⟩
            case measure => simp [intOf]; omega
        · obtain rfl : k = p.spans.length := by omega
          have hfin := Lib.hid (hS.out _ rfl)
          clear hsp0
          go_wp2
          go_ret
          exact ⟨by rw [hfin.out]; rfl, hbw⟩
end Go.Proofs.Ytlakellmdcdaaaa.Pc
/-
  The contract of spec.l09Sum.
  Conditions: as for impl.bound.
-/
namespace Go.Proofs.Ytlakellmdcdaaaa.Pc
open Go.RowKit Go.Proofs.Ytlakellmdcdaaaa.Row Go.Proofs.Ytlakellmdcdaaaa.Mem Go.Proofs.Ytlakellmdcdaaaa.Mix Go.Proofs.Ytlakellmdcdaaaa.Recs Go.Proofs.Ytlakellmdcdaaaa.Owns Go.Proofs.Ytlakellmdcdaaaa.Blocks Go.Proofs.Ytlakellmdcdaaaa.Piece Go.Proofs.Ytlakellmdcdaaaa.All Go.Proofs.Ytlakellmdcdaaaa.Ints Go.Proofs.Ytlakellmdcdaaaa.Strs Go.Proofs.Ytlakellmdcdaaaa.Rep
set_option maxRecDepth 100000 in
set_option maxHeartbeats 6400000 in
theorem spec_sum {p : P} {r c s t v : Value} {xs : List Int} {w : World} (h : PRow w p r c s t) (hv : Row w v 1 xs.length (ints xs)) (hR : Right p) (hok : valuesOk p xs = true) :
    Calls Try.prog 115 #[pv p.ind r c s t, v] w fun e w' => e = .returned (.int .i64 (sumOf p xs)) ∧ Below w.heap.size w w' := by
  have hx := valuesOk_same hok
  have nR := hR.nrules
  have nC := hR.nchunks.2
  have nS := hR.nspans
  obtain ⟨⟨A1, m1, rfl⟩, ⟨A2, m2, rfl⟩, ⟨A3, m3, rfl⟩, ⟨A4, m4, rfl⟩⟩ := h.lits
  obtain ⟨A, c1, e1, -, nr, ncr, cmr, ar⟩ := h.rules
  injection e1 with ea el ec
  subst ea ec
  clear el
  obtain ⟨A, c1, e1, -, np, ncp, cmp, ap⟩ := h.spans
  injection e1 with ea el ec
  subst ea ec
  clear el
  obtain ⟨Av, cv, rfl, -, vn, vnc, vcm, va⟩ := id hv
  replace h := Lib.hid h
  replace hv := Lib.hid hv
  replace hR := Lib.hid hR
  have hle : xs.length ≤ p.rules.length := by omega
  have hle2 : p.rules.length ≤ xs.length := by omega
  replace hx := Lib.hid hx
  replace hok := Lib.hid hok
  have hB0 := Lib.hid ((Below.refl w.heap.size w).alloc (Nat.le_refl _) (.cells #[.int .i64 p.ind, .slice A1 p.rules.length m1, .slice A2 p.chunks.length m2, .slice A3 p.spans.length m3, .slice A4 p.ties.length m4] 35))
  have hK0 := Lib.hid (heap_alloc_new w (.cells #[.int .i64 p.ind, .slice A1 p.rules.length m1, .slice A2 p.chunks.length m2, .slice A3 p.spans.length m3, .slice A4 p.ties.length m4] 35))
  go_enter Try.func115, Try.ntmps115
  go_wp2
  go_loopw [5, 6] (fun sm i wr => ∃ k : Nat, k ≤ xs.length ∧ i = .int .i64 k ∧ sm = .int .i64 (ruleSum p xs k) ∧ Below w.heap.size w wr ∧ Hid (wr.heap[w.heap.size]? = some (.cells #[.int .i64 p.ind, .slice A1 p.rules.length m1, .slice A2 p.chunks.length m2, .slice A3 p.spans.length m3, .slice A4 p.ties.length m4] 35 (0, 0)))) (fun sm i _ => xs.length - (intOf i).toNat)
  case atStart => exact ⟨0, by omega, rfl, rfl, hB0.out, hK0⟩
  case round =>
    clear hB0 hK0
    obtain ⟨k, hk, rfl, rfl, hbw, hbx⟩ := hrel
    have hs0 := blk_lt hbx.out
    have hsz := hbw.size
    obtain ⟨x0, x1, x2, x3, x4⟩ := blk5 hbx.out
    by_cases hltv : k < xs.length
    · have hlt : k < p.rules.length := by omega
      obtain ⟨br, offr, rfl, hbr, hcr⟩ := ar (by omega)
      obtain ⟨r0, r1⟩ := Rule.cells_ (fun j u hu => (cells_of hbw br _ hbr).trans (hcr j u hu)) hlt
      obtain ⟨bv, offv, rfl, hbv, hcv⟩ := va (by omega)
      have y0 := (cells_of hbw bv (offv + k) hbv).trans (hcv k _ (at_one hltv .i64))
      have z1 : br < wr.heap.size := by omega
      have z2 : bv < wr.heap.size := by omega
      have z3 : br ≠ w.heap.size := by omega
      have z4 : bv ≠ w.heap.size := by omega
      have hv1 := vals_bd hR.out hok.out hlt
      have hr1 := right_rule hR.out hlt
      have hm := mul_bd hr1.2.2.1 hr1.2.2.2 hv1.1 hv1.2
      have hsb := ruleSum_bd hR.out hok.out (k := k) (by omega)
      have hon := Lib.hid (show ruleSum p xs (k + 1) = ruleSum p xs k + (ruleAt p k).c * valAt xs k from rfl)
      rw [valAt_eq hltv, ruleAt_eq hlt] at hm
      rw [valAt_eq hltv, ruleAt_eq hlt] at hon
      have i0 : (0 : Int) ≤ (k : Int) := by omega
      have i1 : (k : Int) < (p.rules.length : Int) := by omega
      have i2 : (k : Int) < (xs.length : Int) := by omega
      obtain ⟨m, hmm⟩ : ∃ m, p.rules[k].c * xs[k] = m := ⟨_, rfl⟩
      rw [hmm] at hm hon
      have hw1 : wrap64 (p.rules[k].c * xs[k]) = m := by rw [hmm]; unfold wrap64; omega
      generalize ruleSum p xs k = S at *
      have hw2 : wrap64 (S + m) = S + m := by unfold wrap64; omega
      have hw1d : IntKind.i64.wrap (p.rules[k].c * xs[k]) = m := by rw [wrap_eq, hw1]
      have hw2d : IntKind.i64.wrap (S + m) = S + m := by rw [wrap_eq, hw2]
      clear hv1 hr1 hm hsb hmm hcr hcv r0 ar va
      go_wp2
      refine wp_region_below [(0, true), (1, true), (2, true), (3, true), (4, true), (5, true), (6, true), (7, true), (8, true), (9, true), (10, true), (11, true), (12, true), (13, true)] (by kernel_rfl) (by kernel_rfl) (fun d _ _ _ _ h => by cases d <;> exact h) ?_
      repeat
       (refine mix_still rfl (by rfl) ?_
        apply Exists.intro
        refine ⟨fun w' hS => ?_, ?_⟩
        · (have hS' := cells_of hS; clear hS; go_simp; (try go_bits); first | with_reducible rfl | (refine (if_pos ?_).trans ?_; omega; with_reducible rfl))
        (go_simp; (try go_bits)))
      refine mix_nil ?_
      go_wp2
      go_roundw
      case rel => exact ⟨k + 1, by omega, by go_num, by rw [hon.out], hbw.drew, hbx⟩
      case measure => simp [intOf]; omega
    · obtain rfl : k = xs.length := by omega
      have hsb := ruleSum_bd hR.out hok.out (k := xs.length) (by omega)
      have hS : Hid (∀ T, spanSum p xs p.spans.length = T → sumOf p xs = ruleSum p xs xs.length + T) := Lib.hid (fun T e => by unfold sumOf; rw [e, hx.out])
      clear ar va
      generalize ruleSum p xs xs.length = S0 at *
      have q0 : xs.length - 0 = xs.length := by omega
      go_wp2
      go_loopw [5, 7, 8, 9] (fun sm i _ _ wr => ∃ k : Nat, k ≤ p.spans.length ∧ i = .int .i64 k ∧ sm = .int .i64 (S0 + spanSum p xs k) ∧ Below w.heap.size w wr ∧ Hid (wr.heap[w.heap.size]? = some (.cells #[.int .i64 p.ind, .slice A1 p.rules.length m1, .slice A2 p.chunks.length m2, .slice A3 p.spans.length m3, .slice A4 p.ties.length m4] 35 (0, 0)))) (fun sm i _ _ _ => p.spans.length - (intOf i).toNat)
      case atStart => exact ⟨0, by omega, rfl, by simp [spanSum], hbw, hbx⟩
      case round =>
        clear hbw hs0 hsz x0 x1 x2 x3 x4 hbx q0
        obtain ⟨k, hk, rfl, rfl, hbw, hbx⟩ := hrel
        have hs0 := blk_lt hbx.out
        have hsz := hbw.size
        obtain ⟨x0, x1, x2, x3, x4⟩ := blk5 hbx.out
        have hsp0 := spanSum_bd xs hR.out hk
        by_cases hlt : k < p.spans.length
        · obtain ⟨bp, offp, rfl, hbp, hcp⟩ := ap (by omega)
          obtain ⟨s0, s1, s2⟩ := Span.cells_ (fun j u hu => (cells_of hbw bp _ hbp).trans (hcp j u hu)) hlt
          obtain ⟨f, u, ef, eu, hfu, huc, hc0, hc9⟩ := right_span hR.out hlt
          have heq := hit_eq (xs := xs) ef eu hfu
          rw [spanAt_eq hlt] at ef eu hc0 hc9
          rw [ef] at s0
          rw [eu] at s1
          have hcp0 := Lib.hid hcp
          replace ef := Lib.hid ef
          replace eu := Lib.hid eu
          clear ap hcp
          have z1 : bp < wr.heap.size := by omega
          have z3 : bp ≠ wr.heap.size := by omega
          have i0 : (0 : Int) ≤ (k : Int) := by omega
          have i1 : (k : Int) < (p.spans.length : Int) := by omega
          have hon : Hid (spanSum p xs (k + 1) = spanSum p xs k + (if hit p xs k = true then p.spans[k].c else 0)) := Lib.hid (by rw [spanSum, spanAt_eq hlt])
          rw [heq] at hon
          obtain ⟨bb, hbb⟩ : ∃ b, hitTo p xs f (u - f + 1) = b := ⟨_, rfl⟩
          have hcl := Lib.hid (fun (W : World) (hW : Below w.heap.size w W) => Span.cells_ (fun j u hu => (cells_of hW bp _ hbp).trans (hcp0.out j u hu)) hlt)
          rw [hbb] at hon
          replace hbb := Lib.hid hbb
          generalize spanSum p xs k = S1 at *
          have hw3 : wrap64 (S0 + S1 + p.spans[k].c) = S0 + S1 + p.spans[k].c := by unfold wrap64; omega
          have hfu' := Lib.hid hfu
          have huc' := Lib.hid huc
          have hz := Lib.hid (Nat.lt_of_lt_of_le hbp hsz)
          clear hsp0 hsb heq hfu huc s1 s2
          go_wp2
          clear s0 x0 x1 x2 x3 x4 hs0 hsz z1
          go_loopw [8, 9] (fun sb j wr => ∃ q : Nat, f ≤ q ∧ q ≤ u + 1 ∧ j = .int .i64 q ∧ sb = .bool (hitTo p xs f (q - f)) ∧ Below w.heap.size w wr ∧ Hid (wr.heap[w.heap.size]? = some (.cells #[.int .i64 p.ind, .slice A1 p.rules.length m1, .slice A2 p.chunks.length m2, .slice (some ⟨bp, offp, none⟩) p.spans.length m3, .slice A4 p.ties.length m4] 35 (0, 0)))) (fun _ j _ => u + 1 - (intOf j).toNat)
          case atStart => exact ⟨f, by omega, by have := hfu'.out; omega, rfl, by rw [Nat.sub_self]; rfl, hbw, hbx⟩
          case round =>
            clear hbw hbx
            obtain ⟨q, hfq, hq, rfl, rfl, hbw, hbx⟩ := hrel
            have hs0 := blk_lt hbx.out
            have hsz := hbw.size
            obtain ⟨x0, x1, x2, x3, x4⟩ := blk5 hbx.out
            obtain ⟨s0, s1, s2⟩ := hcl.out wr hbw
            rw [ef.out] at s0
            rw [eu.out] at s1
            have z1 : bp < wr.heap.size := by omega
            by_cases hqu : q ≤ u
            · have d1 : decide (q ≤ u) = true := by simp; omega
              have hql : q < p.chunks.length := by have := huc'.out; omega
              obtain ⟨a, ea, eal, -⟩ := right_split hR.out (i := q) (by have := huc'.out; omega)
              have hsp := Lib.hid (spec_splits (h.out.below hbw) (hv.out.below hbw) hql ea (by rw [hx.out]; exact eal))
              have hstep : Hid (hitTo p xs f (q + 1 - f) = (hitTo p xs f (q - f) || splitAt p xs q)) := Lib.hid (by rw [show q + 1 - f = (q - f) + 1 by omega, hitTo, show f + (q - f) = q by omega])
              have hqu' := Lib.hid hqu
              have hq80 : q + 1 ≤ 80 := by omega
              clear ea eal s0 s2
              obtain ⟨b1, hb1⟩ : ∃ b, hitTo p xs f (q - f) = b := ⟨_, rfl⟩
              obtain ⟨b2, hb2⟩ : ∃ b, splitAt p xs q = b := ⟨_, rfl⟩
              rw [hb1, hb2] at hstep
              rw [hb2] at hsp
              rw [hb1]
              clear hb1 hb2 hqu
              cases b1
              · go_wp2_with fail
                refine hsp.out.mono ?_
                rintro e w3 ⟨rfl, b3⟩
                replace hbw := hbw.trans (b3.mono hsz)
                replace hbx := Lib.hid (blk_below hbx.out b3)
                clear b3 hsp x0 x1 x2 x3 x4 s1 hs0 hsz z1
                cases b2
                all_goals
                  go_wp2
                  go_roundw
                  case rel => exact ⟨q + 1, by omega, by have := hqu'.out; omega, by go_num, by rw [hstep.out]; rfl, hbw, hbx⟩
                  case measure => simp [intOf]; have := hqu'.out; omega
              · clear hsp
                go_wp2
                go_roundw
                case rel => exact ⟨q + 1, by omega, by have := hqu'.out; omega, by go_num, by rw [hstep.out]; rfl, hbw, hbx⟩
                case measure => simp [intOf]; have := hqu'.out; omega
            · have d1 : decide (q ≤ u) = false := by simp; omega
              have hqe : q - f = u - f + 1 := by have := hfu'.out; omega
              rw [hqe, hbb.out]
              clear hqe hqu s0
              cases bb
              · go_wp2
                go_roundw
                case rel => exact ⟨k + 1, by omega, by go_num, by rw [hon.out]; simp, hbw, hbx⟩
                case measure => simp [intOf]; omega
              · go_wp2
                go_roundw
                case rel => exact ⟨k + 1, by omega, by go_num, by rw [hon.out, hw3]; simp [Int.add_assoc], hbw, hbx⟩
                case measure => simp [intOf]; omega
        · obtain rfl : k = p.spans.length := by omega
          have hfin := Lib.hid (hS.out _ rfl)
          clear hsp0
          go_wp2
          go_ret
          exact ⟨by rw [hfin.out]; rfl, hbw⟩
end Go.Proofs.Ytlakellmdcdaaaa.Pc
