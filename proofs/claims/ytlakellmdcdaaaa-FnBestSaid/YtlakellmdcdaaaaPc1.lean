/-
  The contracts of inRange, l01In, CountOf.
  Conditions: the piece reads as a piece.
-/
import Derived.Test.YtlakellmdcdaaaaPiece
import Derived.Test.YtlakellmdcdaaaaAll
namespace Go.Proofs.Ytlakellmdcdaaaa.Pc
open Go.RowKit Go.Proofs.Ytlakellmdcdaaaa.Row Go.Proofs.Ytlakellmdcdaaaa.Mem Go.Proofs.Ytlakellmdcdaaaa.Mix Go.Proofs.Ytlakellmdcdaaaa.Recs Go.Proofs.Ytlakellmdcdaaaa.Owns Go.Proofs.Ytlakellmdcdaaaa.Blocks Go.Proofs.Ytlakellmdcdaaaa.Piece Go.Proofs.Ytlakellmdcdaaaa.All
theorem impl_inRange (n a b : Int) (w : World) : Calls Try.prog 67 #[.int .i64 n, .int .i64 a, .int .i64 b] w fun e w' => e = .returned (.bool (inR n a b)) ∧ w = w' := by
  by_cases h1 : a ≤ n
  · by_cases h2 : n ≤ b
    · have hv := Lib.hid (inR_yes h1 h2)
      go_enter Try.func67, Try.ntmps67
      go_wp2
      go_ret
      exact ⟨by rw [hv.out]; rfl, rfl⟩
    · have hv := Lib.hid (inR_no (n := n) (a := a) (b := b) (by omega))
      have h3 : b < n := by omega
      have d3 : decide (n ≤ b) = false := by simpa using h3
      clear h2
      go_enter Try.func67, Try.ntmps67
      go_wp2
      go_ret
      exact ⟨by rw [hv.out]; rfl, rfl⟩
  · have hv := Lib.hid (inR_no (n := n) (a := a) (b := b) (by omega))
    have h3 : n < a := by omega
    clear h1
    go_enter Try.func67, Try.ntmps67
    go_wp2
    go_ret
    exact ⟨by rw [hv.out]; rfl, rfl⟩
theorem spec_inRange (n a b : Int) (w : World) : Calls Try.prog 62 #[.int .i64 n, .int .i64 a, .int .i64 b] w fun e w' => e = .returned (.bool (inR n a b)) ∧ w = w' := by
  by_cases h1 : a ≤ n
  · by_cases h2 : n ≤ b
    · have hv := Lib.hid (inR_yes h1 h2)
      go_enter Try.func62, Try.ntmps62
      go_wp2
      go_ret
      exact ⟨by rw [hv.out]; rfl, rfl⟩
    · have hv := Lib.hid (inR_no (n := n) (a := a) (b := b) (by omega))
      have h3 : b < n := by omega
      have d3 : decide (n ≤ b) = false := by simpa using h3
      clear h2
      go_enter Try.func62, Try.ntmps62
      go_wp2
      go_ret
      exact ⟨by rw [hv.out]; rfl, rfl⟩
  · have hv := Lib.hid (inR_no (n := n) (a := a) (b := b) (by omega))
    have h3 : n < a := by omega
    clear h1
    go_enter Try.func62, Try.ntmps62
    go_wp2
    go_ret
    exact ⟨by rw [hv.out]; rfl, rfl⟩
def ruleAt (p : P) (i : Nat) : Rule.T := p.rules.getD i default
theorem ruleAt_eq {p : P} {i : Nat} (h : i < p.rules.length) : ruleAt p i = p.rules[i] := getD_at h _
def okV (p : P) (i : Nat) : Bool := inR (ruleAt p i).v 2 3
def prod (p : P) : Nat → Int
  | 0 => 1
  | k + 1 => prod p k * (ruleAt p k).v
theorem prod_bd {p : P} : ∀ {k : Nat}, k ≤ 8 → allTo (okV p) k = true → 1 ≤ prod p k ∧ prod p k ≤ 3 ^ k
  | 0, _, _ => by simp [prod]
  | k + 1, hk, h => by
    simp only [allTo, Bool.and_eq_true] at h
    obtain ⟨h1, h2⟩ := prod_bd (k := k) (by omega) h.1
    have h3 := inR_iff.1 h.2
    rw [prod, Int.pow_succ]
    constructor
    · have := Int.mul_le_mul h1 h3.1 (by omega) (by omega)
      omega
    · exact Int.mul_le_mul h2 h3.2 (by omega) (Int.pow_nonneg (by omega))
theorem pow3 {k : Nat} (h : k ≤ 8) : (3 : Int) ^ k ≤ 6561 := by
  match k, h with
  | 0, _ | 1, _ | 2, _ | 3, _ | 4, _ | 5, _ | 6, _ | 7, _ | 8, _ => decide
def countOf (p : P) : Int := if allTo (okV p) (min p.rules.length 8) = true then prod p (min p.rules.length 8) else 0
set_option maxRecDepth 100000 in
set_option maxHeartbeats 1600000 in
theorem spec_CountOf {p : P} {r c s t : Value} {w : World} (h : PRow w p r c s t) :
    Calls Try.prog 16 #[pv p.ind r c s t] w fun e w' => e = .returned (.int .i64 (countOf p)) ∧ Below w.heap.size w w' := by
  obtain ⟨⟨A1, m1, rfl⟩, ⟨A2, m2, rfl⟩, ⟨A3, m3, rfl⟩, ⟨A4, m4, rfl⟩⟩ := h.lits
  obtain ⟨A, c1, e1, -, hn, hnc, hcm, ha⟩ := h.rules
  injection e1 with ea el ec
  subst ea ec
  clear el h
  go_enter Try.func16, Try.ntmps16
  go_wp2
  go_loopw [3, 4] (fun q i wr => ∃ k : Nat, k ≤ min p.rules.length 8 ∧ i = .int .i64 k ∧ q = .int .i64 (prod p k) ∧ Hid (allTo (okV p) k = true) ∧ Below w.heap.size w wr ∧ Hid (wr.heap[w.heap.size]? = some (.cells #[.int .i64 p.ind, .slice A1 p.rules.length m1, .slice A2 p.chunks.length m2, .slice A3 p.spans.length m3, .slice A4 p.ties.length m4] 35 (0, 0)))) (fun _ i _ => 8 - (intOf i).toNat)
  case atStart => exact ⟨0, by omega, rfl, rfl, Lib.hid rfl, (Below.refl _ _).alloc (Nat.le_refl _) _, Lib.hid (heap_alloc_new w _)⟩
  case round =>
    obtain ⟨k, hk, rfl, rfl, hr, hbw, hbx⟩ := hrel
    obtain ⟨x0, x1, x2, x3, x4⟩ := blk5 hbx.out
    clear x0 x2 x3 x4
    have hbd := prod_bd (p := p) (k := k) (by omega) hr.out
    have hp3 := pow3 (k := k) (by omega)
    by_cases hlt : k < p.rules.length
    · by_cases h8 : k < 8
      · have d8 : decide ((k : Int) < 8) = true := by simp; omega
        obtain ⟨b, off, rfl, hb, hc⟩ := ha (by omega)
        obtain ⟨c0, c1⟩ := Rule.cells_ (fun j u hu => (cells_of hbw b _ hb).trans (hc j u hu)) hlt
        clear hc ha c1
        have hat := Lib.hid (ruleAt_eq hlt)
        have hps := Lib.hid (show prod p (k + 1) = prod p k * p.rules[k].v by rw [prod, hat.out])
        cases hv : inR p.rules[k].v 2 3
        · have hno := Lib.hid (show countOf p = 0 by unfold countOf; rw [if_neg]; rw [allTo_off (k := k) (show okV p k = false by unfold okV; rw [hat.out, hv]) _ (by omega)]; simp)
          go_wp2_with (go_at_call 62; refine (spec_inRange _ _ _ _).mono ?_; rintro e w1 ⟨rfl, rfl⟩)
          go_ret
          exact ⟨by rw [hno.out]; rfl, hbw⟩
        · have hon := Lib.hid (allTo_on hr.out (show okV p k = true by unfold okV; rw [hat.out, hv]))
          have hb2 := inR_iff.1 hv
          have hm1 : 0 ≤ prod p k * p.rules[k].v := Int.mul_nonneg (by omega) (by omega)
          have hm2 : prod p k * p.rules[k].v ≤ 19683 := by
            have := Int.mul_le_mul (show prod p k ≤ 6561 by omega) hb2.2 (by omega) (by omega)
            omega
          clear hbd hp3
          generalize prod p k = q at *
          go_wp2_with (go_at_call 62; refine (spec_inRange _ _ _ _).mono ?_; rintro e w1 ⟨rfl, rfl⟩)
          go_roundw
          case rel => exact ⟨k + 1, by omega, by go_num, by rw [hps.out], hon, hbw, hbx⟩
          case measure => simp [intOf]; omega
      · have hfin := Lib.hid (show countOf p = prod p k by unfold countOf; rw [show min p.rules.length 8 = k by omega, if_pos hr.out])
        have d8 : decide ((k : Int) < 8) = false := by simp; omega
        go_wp2
        go_ret
        exact ⟨by rw [hfin.out]; rfl, hbw⟩
    · have hfin := Lib.hid (show countOf p = prod p k by unfold countOf; rw [show min p.rules.length 8 = k by omega, if_pos hr.out])
      go_wp2
      go_ret
      exact ⟨by rw [hfin.out]; rfl, hbw⟩
set_option maxRecDepth 100000 in
set_option maxHeartbeats 1600000 in
theorem impl_CountOf {p : P} {r c s t : Value} {w : World} (h : PRow w p r c s t) :
    Calls Try.prog 18 #[pv p.ind r c s t] w fun e w' => e = .returned (.int .i64 (countOf p)) ∧ Below w.heap.size w w' := by
  obtain ⟨⟨A1, m1, rfl⟩, ⟨A2, m2, rfl⟩, ⟨A3, m3, rfl⟩, ⟨A4, m4, rfl⟩⟩ := h.lits
  obtain ⟨A, c1, e1, -, hn, hnc, hcm, ha⟩ := h.rules
  injection e1 with ea el ec
  subst ea ec
  clear el h
  by_cases hn8 : p.rules.length ≤ 8
  · have hco := Lib.hid (show countOf p = if allTo (okV p) p.rules.length = true then prod p p.rules.length else 0 by unfold countOf; rw [show min p.rules.length 8 = p.rules.length by omega])
    have f1 : (p.rules.length : Int) ≤ 8 := by omega
    have f2 : max (p.rules.length : Int) 0 = (p.rules.length : Int) := by omega
    go_enter Try.func18, Try.ntmps18
    go_wp2
    go_loopw [3, 14] (fun q i wr => ∃ k : Nat, k ≤ p.rules.length ∧ i = .int .i64 k ∧ q = .int .i64 (prod p k) ∧ Hid (allTo (okV p) k = true) ∧ Below w.heap.size w wr) (fun _ i _ => 8 - (intOf i).toNat)
    case atStart => exact ⟨0, by omega, rfl, rfl, Lib.hid rfl, (Below.refl _ _).alloc (Nat.le_refl _) _⟩
    case round =>
      obtain ⟨k, hk, rfl, rfl, hr, hbw⟩ := hrel
      have hbd := prod_bd (p := p) (k := k) (by omega) hr.out
      have hp3 := pow3 (k := k) (by omega)
      by_cases hlt : k < p.rules.length
      · obtain ⟨b, off, rfl, hb, hc⟩ := ha (by omega)
        obtain ⟨c0, c1⟩ := Rule.cells_ (fun j u hu => (cells_of hbw b _ hb).trans (hc j u hu)) (show k < p.rules.length by omega)
        clear hc ha
        have hs := hbw.size
        have z3 : b ≠ wr.heap.size := by omega
        have hat := Lib.hid (ruleAt_eq (show k < p.rules.length by omega))
        have hps := Lib.hid (show prod p (k + 1) = prod p k * p.rules[k].v by rw [prod, hat.out])
        have hb1 := Lib.hid (hbw.alloc hs (.cells #[.int .i64 p.rules[k].v, .int .i64 p.rules[k].c] 80))
        cases hv : inR p.rules[k].v 2 3
        · have hno := Lib.hid (show countOf p = 0 by rw [hco.out, if_neg]; rw [allTo_off (k := k) (show okV p k = false by unfold okV; rw [hat.out, hv]) _ (by omega)]; simp)
          clear hbw hp3 hbd
          go_wp2_with (go_at_call 67; refine (impl_inRange _ _ _ _).mono ?_; rintro e w1 ⟨rfl, rfl⟩)
          go_ret
          exact ⟨by rw [hno.out]; rfl, hb1.out⟩
        · have hon := Lib.hid (allTo_on hr.out (show okV p k = true by unfold okV; rw [hat.out, hv]))
          have hb2 := inR_iff.1 hv
          have hm1 : 0 ≤ prod p k * p.rules[k].v := Int.mul_nonneg (by omega) (by omega)
          have hm2 : prod p k * p.rules[k].v ≤ 19683 := by
            have := Int.mul_le_mul (show prod p k ≤ 6561 by omega) hb2.2 (by omega) (by omega)
            omega
          clear hbd hp3 hbw
          generalize prod p k = q at *
          go_wp2_with (go_at_call 67; refine (impl_inRange _ _ _ _).mono ?_; rintro e w1 ⟨rfl, rfl⟩)
          go_roundw
          case rel => exact ⟨k + 1, by omega, by go_num, by rw [hps.out], hon, hb1.out⟩
          case measure => simp [intOf]; omega
      · obtain rfl : k = p.rules.length := by omega
        have hfin := Lib.hid (show countOf p = prod p p.rules.length by rw [hco.out, if_pos hr.out])
        go_wp2
        go_ret
        exact ⟨by rw [hfin.out]; rfl, hbw⟩
  · have hco := Lib.hid (show countOf p = if allTo (okV p) 8 = true then prod p 8 else 0 by unfold countOf; rw [show min p.rules.length 8 = 8 by omega])
    have f1 : (8 : Int) < (p.rules.length : Int) := by omega
    have f2 : max (8 : Int) 0 = 8 := by omega
    have f3 : 8 ≤ m1 := by omega
    go_enter Try.func18, Try.ntmps18
    go_wp2
    go_loopw [3, 14] (fun q i wr => ∃ k : Nat, k ≤ 8 ∧ i = .int .i64 k ∧ q = .int .i64 (prod p k) ∧ Hid (allTo (okV p) k = true) ∧ Below w.heap.size w wr) (fun _ i _ => 8 - (intOf i).toNat)
    case atStart => exact ⟨0, by omega, rfl, rfl, Lib.hid rfl, (Below.refl _ _).alloc (Nat.le_refl _) _⟩
    case round =>
      obtain ⟨k, hk, rfl, rfl, hr, hbw⟩ := hrel
      have hbd := prod_bd (p := p) (k := k) (by omega) hr.out
      have hp3 := pow3 (k := k) (by omega)
      by_cases hlt : k < 8
      · obtain ⟨b, off, rfl, hb, hc⟩ := ha (by omega)
        obtain ⟨c0, c1⟩ := Rule.cells_ (fun j u hu => (cells_of hbw b _ hb).trans (hc j u hu)) (show k < p.rules.length by omega)
        clear hc ha
        have hs := hbw.size
        have z3 : b ≠ wr.heap.size := by omega
        have hat := Lib.hid (ruleAt_eq (show k < p.rules.length by omega))
        have hps := Lib.hid (show prod p (k + 1) = prod p k * p.rules[k].v by rw [prod, hat.out])
        have hb1 := Lib.hid (hbw.alloc hs (.cells #[.int .i64 p.rules[k].v, .int .i64 p.rules[k].c] 80))
        cases hv : inR p.rules[k].v 2 3
        · have hno := Lib.hid (show countOf p = 0 by rw [hco.out, if_neg]; rw [allTo_off (k := k) (show okV p k = false by unfold okV; rw [hat.out, hv]) _ (by omega)]; simp)
          clear hbw hp3 hbd
          go_wp2_with (go_at_call 67; refine (impl_inRange _ _ _ _).mono ?_; rintro e w1 ⟨rfl, rfl⟩)
          go_ret
          exact ⟨by rw [hno.out]; rfl, hb1.out⟩
        · have hon := Lib.hid (allTo_on hr.out (show okV p k = true by unfold okV; rw [hat.out, hv]))
          have hb2 := inR_iff.1 hv
          have hm1 : 0 ≤ prod p k * p.rules[k].v := Int.mul_nonneg (by omega) (by omega)
          have hm2 : prod p k * p.rules[k].v ≤ 19683 := by
            have := Int.mul_le_mul (show prod p k ≤ 6561 by omega) hb2.2 (by omega) (by omega)
            omega
          clear hbd hp3 hbw
          generalize prod p k = q at *
          go_wp2_with (go_at_call 67; refine (impl_inRange _ _ _ _).mono ?_; rintro e w1 ⟨rfl, rfl⟩)
          go_roundw
          case rel => exact ⟨k + 1, by omega, by go_num, by rw [hps.out], hon, hb1.out⟩
          case measure => simp [intOf]; omega
      · obtain rfl : k = 8 := by omega
        have hfin := Lib.hid (show countOf p = prod p 8 by rw [hco.out, if_pos hr.out])
        go_wp2
        go_ret
        exact ⟨by rw [hfin.out]; rfl, hbw⟩
end Go.Proofs.Ytlakellmdcdaaaa.Pc
