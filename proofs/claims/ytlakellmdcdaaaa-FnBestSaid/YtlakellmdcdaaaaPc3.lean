/-
  The contracts of isRule, tiesHold, TiesHold.
  Conditions: the piece reads as a piece, the values as a list of numbers.
-/
import Derived.Test.YtlakellmdcdaaaaPc2
namespace Go.Proofs.Ytlakellmdcdaaaa.Pc
open Go.RowKit Go.Proofs.Ytlakellmdcdaaaa.Row Go.Proofs.Ytlakellmdcdaaaa.Mem Go.Proofs.Ytlakellmdcdaaaa.Mix Go.Proofs.Ytlakellmdcdaaaa.Recs Go.Proofs.Ytlakellmdcdaaaa.Owns Go.Proofs.Ytlakellmdcdaaaa.Blocks Go.Proofs.Ytlakellmdcdaaaa.Piece Go.Proofs.Ytlakellmdcdaaaa.All Go.Proofs.Ytlakellmdcdaaaa.Ints
def tieAt (p : P) (i : Nat) : Tie.T := p.ties.getD i default
theorem tieAt_eq {p : P} {i : Nat} (h : i < p.ties.length) : tieAt p i = p.ties[i] := getD_at h _
def isR (p : P) (k : Int) : Bool := inR k 0 ((p.rules.length : Int) - 1)
def tieOk (p : P) (xs : List Int) (i : Nat) : Bool := isR p (tieAt p i).k && (isR p (tieAt p i).u && !(decide (0 < valAt xs (tieAt p i).k.toNat) && valAt xs (tieAt p i).u.toNat == 0))
def tiesOk (p : P) (xs : List Int) : Bool := allTo (tieOk p xs) p.ties.length
def tiesHold (p : P) (xs : List Int) : Bool := valuesOk p xs && tiesOk p xs
theorem valuesOk_length {p : P} {xs : List Int} (h : valuesOk p xs = true) : xs.length = p.rules.length := by
  unfold valuesOk at h
  simp only [Bool.and_eq_true, decide_eq_true_eq] at h
  exact h.1
theorem isR_nat {p : P} {k : Int} (h : isR p k = true) : ∃ n : Nat, k = (n : Int) ∧ n < p.rules.length := by
  have := inR_iff.1 h
  exact ⟨k.toNat, by omega, by omega⟩
set_option maxRecDepth 100000 in
theorem impl_isRule {p : P} {r c s t : Value} {w : World} (hr : ∃ A k, r = .slice A p.rules.length k) (hn : p.rules.length ≤ 9223372036854775807) (k : Int) :
    Calls Try.prog 77 #[pv p.ind r c s t, .int .i64 k] w fun e w' => e = .returned (.bool (inR k 0 ((p.rules.length : Int) - 1))) ∧ w' = w.alloc (.cells #[.int .i64 p.ind, r, c, s, t] 35) := by
  obtain ⟨A1, m1, rfl⟩ := hr
  have hcall := Lib.hid (impl_inRange k 0 ((p.rules.length : Int) - 1))
  generalize inR k 0 ((p.rules.length : Int) - 1) = q at *
  go_enter Try.func77, Try.ntmps77
  go_wp2_with (go_at_call 67; refine (hcall.out _).mono ?_; rintro e w1 ⟨rfl, rfl⟩)
  go_ret
  exact ⟨rfl, rfl⟩
set_option maxRecDepth 100000 in
set_option maxHeartbeats 3200000 in
theorem impl_tiesOk {p : P} {r c s t v : Value} {xs : List Int} {w : World} (h : PRow w p r c s t) (hv : Row w v 1 xs.length (ints xs)) (hl : xs.length = p.rules.length) :
    Calls Try.prog 72 #[pv p.ind r c s t, v] w fun e w' => e = .returned (.bool (tiesOk p xs)) ∧ Below w.heap.size w w' := by
  obtain ⟨⟨A1, m1, rfl⟩, ⟨A2, m2, rfl⟩, ⟨A3, m3, rfl⟩, ⟨A4, m4, rfl⟩⟩ := h.lits
  obtain ⟨A, c1, e1, -, hn, hnc, hcm, ha⟩ := h.ties
  injection e1 with ea el ec
  subst ea ec
  have hrn : p.rules.length ≤ 9223372036854775807 := by obtain ⟨_, _, _, _, h, _⟩ := h.rules; exact h
  obtain ⟨Av, cv, rfl, -, vn, vnc, vcm, va⟩ := hv
  have hle : xs.length ≤ p.rules.length := by omega
  have hge : p.rules.length ≤ xs.length := by omega
  replace hl := Lib.hid hl
  clear el h
  go_enter Try.func72, Try.ntmps72
  go_wp2
  go_loopw [10] (fun i wr => ∃ k : Nat, k ≤ p.ties.length ∧ i = .int .i64 k ∧ Hid (allTo (tieOk p xs) k = true) ∧ Below w.heap.size w wr ∧ Hid (wr.heap[w.heap.size]? = some (.cells #[.int .i64 p.ind, .slice A1 p.rules.length m1, .slice A2 p.chunks.length m2, .slice A3 p.spans.length m3, .slice A4 p.ties.length m4] 35 (0, 0)))) (fun i _ => p.ties.length - (intOf i).toNat)
  case atStart => exact ⟨0, by omega, rfl, Lib.hid rfl, (Below.refl _ _).alloc (Nat.le_refl _) _, Lib.hid (heap_alloc_new w _)⟩
  case round =>
      obtain ⟨k, hk, rfl, hr, hbw, hbx⟩ := hrel
      by_cases hlt : k < p.ties.length
      · have hs0 := blk_lt hbx.out
        have hs := hbw.size
        obtain ⟨x0, x1, x2, x3, x4⟩ := blk5 hbx.out
        obtain ⟨b, off, rfl, hb, hc⟩ := ha (by omega)
        obtain ⟨c0, c1⟩ := Tie.cells_ (fun j u hu => (cells_of hbw b _ hb).trans (hc j u hu)) hlt
        have z3 : b ≠ wr.heap.size := by omega
        have z4 : w.heap.size ≠ wr.heap.size := by omega
        clear hc ha
        have hat := Lib.hid (show tieOk p xs k = (inR p.ties[k].k 0 ((p.rules.length : Int) - 1) && (inR p.ties[k].u 0 ((p.rules.length : Int) - 1) && !(decide (0 < valAt xs p.ties[k].k.toNat) && valAt xs p.ties[k].u.toNat == 0))) by unfold tieOk isR; rw [tieAt_eq hlt])
        have hbn := Lib.hid (hbw.alloc hs (.cells #[.int .i64 p.ties[k].k, .int .i64 p.ties[k].u] 90))
        have hbxn := Lib.hid ((Below.heap_alloc wr (.cells #[.int .i64 p.ties[k].k, .int .i64 p.ties[k].u] 90) _ hs0).trans hbx.out)
        cases h1 : inR p.ties[k].k 0 ((p.rules.length : Int) - 1)
        · have hno := Lib.hid (show tiesOk p xs = false from allTo_off (k := k) (by rw [hat.out, h1]; rfl) _ hlt)
          clear va
          go_wp2_with (go_at_call 77; refine (impl_isRule ⟨_, _, rfl⟩ hrn _).mono ?_; rintro e w1 ⟨rfl, rfl⟩)
          go_ret
          refine ⟨by rw [hno.out]; rfl, ?_⟩
          repeat (first | exact hbn.out | refine Below.alloc ?_ (by first | omega | (simp <;> omega)) _)
        · cases h2 : inR p.ties[k].u 0 ((p.rules.length : Int) - 1)
          · have hno := Lib.hid (show tiesOk p xs = false from allTo_off (k := k) (by rw [hat.out, h1, h2]; rfl) _ hlt)
            clear va
            go_wp2_with (go_at_call 77; refine (impl_isRule ⟨_, _, rfl⟩ hrn _).mono ?_; rintro e w1 ⟨rfl, rfl⟩)
            go_ret
            refine ⟨by rw [hno.out]; rfl, ?_⟩
            repeat (first | exact hbn.out | refine Below.alloc ?_ (by first | omega | (simp <;> omega)) _)
          · obtain ⟨i1, j1⟩ := inR_iff.1 h1
            obtain ⟨i2, j2⟩ := inR_iff.1 h2
            obtain ⟨a, ea⟩ : ∃ a : Nat, p.ties[k].k = (a : Int) := ⟨p.ties[k].k.toNat, by omega⟩
            obtain ⟨u, eu⟩ : ∃ a : Nat, p.ties[k].u = (a : Int) := ⟨p.ties[k].u.toNat, by omega⟩
            have hax : a < xs.length := by omega
            have hux : u < xs.length := by omega
            obtain ⟨b2, off2, rfl, hb2, hc2⟩ := va (by omega)
            have y0 := (cells_of hbw b2 (off2 + a) hb2).trans (hc2 a _ (at_one hax .i64))
            have y1 := (cells_of hbw b2 (off2 + u) hb2).trans (hc2 u _ (at_one hux .i64))
            have z5 : b2 ≠ wr.heap.size := by omega
            have z8 : b2 < wr.heap.size := by omega
            have z9 : b2 < wr.heap.size + 1 := by omega
            have z10 : b2 < wr.heap.size + 1 + 1 := by omega
            have z6 : b2 ≠ wr.heap.size + 1 := by omega
            have z7 : b2 ≠ wr.heap.size + 1 + 1 := by omega
            rw [ea, eu] at hat hbn hbxn
            rw [ea] at c0 h1
            rw [eu] at c1 h2
            have hat2 := Lib.hid (hat.out.trans (show _ = !(decide (0 < xs[a]) && xs[u] == 0) by rw [h1, h2, Int.toNat_natCast, Int.toNat_natCast, valAt_eq hax, valAt_eq hux]; rfl))
            clear ea eu i1 j1 i2 j2 hat hc2
            cases h3 : decide (0 < xs[a])
            · have hon := Lib.hid (allTo_on hr.out (show tieOk p xs k = true by rw [hat2.out, h3]; rfl))
              clear hat2
              go_wp2_with (go_at_call 77; refine (impl_isRule ⟨_, _, rfl⟩ hrn _).mono ?_; rintro e w1 ⟨rfl, rfl⟩)
              go_roundw
              case rel => exact ⟨k + 1, by omega, by go_num, hon, by (repeat (first | exact hbn.out | refine Below.alloc ?_ (by first | omega | (simp <;> omega)) _)), Lib.hid (by (repeat (first | exact hbxn.out | exact (Below.heap_alloc _ _ _ (by first | omega | (simp <;> omega))).trans hbxn.out | refine (Below.heap_alloc _ _ _ (by first | omega | (simp <;> omega))).trans ?_)))⟩
              case measure => simp [intOf]; omega
            · cases h4 : (xs[u] == 0)
              · have hon := Lib.hid (allTo_on hr.out (show tieOk p xs k = true by rw [hat2.out, h3, h4]; rfl))
                clear hat2
                go_wp2_with (go_at_call 77; refine (impl_isRule ⟨_, _, rfl⟩ hrn _).mono ?_; rintro e w1 ⟨rfl, rfl⟩)
                go_roundw
                case rel => exact ⟨k + 1, by omega, by go_num, hon, by (repeat (first | exact hbn.out | refine Below.alloc ?_ (by first | omega | (simp <;> omega)) _)), Lib.hid (by (repeat (first | exact hbxn.out | exact (Below.heap_alloc _ _ _ (by first | omega | (simp <;> omega))).trans hbxn.out | refine (Below.heap_alloc _ _ _ (by first | omega | (simp <;> omega))).trans ?_)))⟩
                case measure => simp [intOf]; omega
              · have hno := Lib.hid (show tiesOk p xs = false from allTo_off (k := k) (by rw [hat2.out, h3, h4]; rfl) _ hlt)
                clear hat2
                go_wp2_with (go_at_call 77; refine (impl_isRule ⟨_, _, rfl⟩ hrn _).mono ?_; rintro e w1 ⟨rfl, rfl⟩)
                go_ret
                refine ⟨by rw [hno.out]; rfl, ?_⟩
                repeat (first | exact hbn.out | refine Below.alloc ?_ (by first | omega | (simp <;> omega)) _)
      · have hyes := Lib.hid (show tiesOk p xs = true by have := hr.out; rwa [show k = p.ties.length by omega] at this)
        have hs0 := blk_lt hbx.out
        obtain ⟨x0, x1, x2, x3, x4⟩ := blk5 hbx.out
        go_wp2
        go_ret
        exact ⟨by rw [hyes.out]; rfl, hbw⟩
set_option maxRecDepth 100000 in
set_option maxHeartbeats 1600000 in
theorem impl_TiesHold {p : P} {r c s t v : Value} {xs : List Int} {w : World} (h : PRow w p r c s t) (hv : Row w v 1 xs.length (ints xs)) :
    Calls Try.prog 25 #[pv p.ind r c s t, v] w fun e w' => e = .returned (.bool (tiesHold p xs)) ∧ Below w.heap.size w w' := by
  obtain ⟨⟨A1, m1, rfl⟩, ⟨A2, m2, rfl⟩, ⟨A3, m3, rfl⟩, ⟨A4, m4, rfl⟩⟩ := h.lits
  have hB := (Below.refl w.heap.size w).alloc (Nat.le_refl _) (.cells #[.int .i64 p.ind, .slice A1 p.rules.length m1, .slice A2 p.chunks.length m2, .slice A3 p.spans.length m3, .slice A4 p.ties.length m4] 35)
  have hc1 := Lib.hid (impl_ValuesOk (h.below hB) (hv.below hB))
  have k0 := heap_alloc_new w (.cells #[.int .i64 p.ind, .slice A1 p.rules.length m1, .slice A2 p.chunks.length m2, .slice A3 p.spans.length m3, .slice A4 p.ties.length m4] 35)
  replace h := Lib.hid h
  replace hv := Lib.hid hv
  replace hB := Lib.hid hB
  replace k0 := Lib.hid k0
  cases hvo : valuesOk p xs
  · rw [hvo] at hc1
    have hno := Lib.hid (show tiesHold p xs = false by unfold tiesHold; rw [hvo]; rfl)
    clear hvo
    go_enter Try.func25, Try.ntmps25
    go_wp2_with fail
    refine hc1.out.mono ?_
    rintro e w1 ⟨rfl, b1⟩
    go_wp2
    go_ret
    exact ⟨by rw [hno.out]; rfl, hB.out.trans (b1.mono hB.out.size)⟩
  · rw [hvo] at hc1
    have hl := Lib.hid (valuesOk_length hvo)
    have hyes := Lib.hid (show tiesHold p xs = tiesOk p xs by unfold tiesHold; rw [hvo]; rfl)
    rw [hyes.out]
    clear hvo hyes
    go_enter Try.func25, Try.ntmps25
    go_wp2_with fail
    refine hc1.out.mono ?_
    rintro e w1 ⟨rfl, b1⟩
    replace hB := Lib.hid (hB.out.trans (b1.mono hB.out.size))
    obtain ⟨x0, x1, x2, x3, x4⟩ := blk5 (blk_below k0.out b1)
    clear b1
    go_wp2_with fail
    refine (impl_tiesOk (h.out.below hB.out) (hv.out.below hB.out) hl.out).mono ?_
    rintro e w2 ⟨rfl, b2⟩
    go_wp2
    go_ret
    exact ⟨rfl, hB.out.trans (b2.mono hB.out.size)⟩
set_option maxRecDepth 100000 in
set_option maxHeartbeats 3200000 in
theorem spec_TiesHold {p : P} {r c s t v : Value} {xs : List Int} {w : World} (h : PRow w p r c s t) (hv : Row w v 1 xs.length (ints xs)) :
    Calls Try.prog 24 #[pv p.ind r c s t, v] w fun e w' => e = .returned (.bool (tiesHold p xs)) ∧ Below w.heap.size w w' := by
  have hv0 := hv
  obtain ⟨⟨A1, m1, rfl⟩, ⟨A2, m2, rfl⟩, ⟨A3, m3, rfl⟩, ⟨A4, m4, rfl⟩⟩ := h.lits
  obtain ⟨A, c1, e1, -, hn, hnc, hcm, ha⟩ := h.ties
  injection e1 with ea el ec
  subst ea ec
  have hrn : p.rules.length ≤ 9223372036854775807 := by obtain ⟨_, _, _, _, h, _⟩ := h.rules; exact h
  obtain ⟨Av, cv, rfl, -, vn, vnc, vcm, va⟩ := hv
  have hB := (Below.refl w.heap.size w).alloc (Nat.le_refl _) (.cells #[.int .i64 p.ind, .slice A1 p.rules.length m1, .slice A2 p.chunks.length m2, .slice A3 p.spans.length m3, .slice A4 p.ties.length m4] 35)
  have hc1 := Lib.hid (spec_ValuesOk (h.below hB) (hv0.below hB))
  have k0 := heap_alloc_new w (.cells #[.int .i64 p.ind, .slice A1 p.rules.length m1, .slice A2 p.chunks.length m2, .slice A3 p.spans.length m3, .slice A4 p.ties.length m4] 35)
  replace hB := Lib.hid hB
  replace k0 := Lib.hid k0
  clear el h hv0
  cases hvo : valuesOk p xs
  · rw [hvo] at hc1
    have hno := Lib.hid (show tiesHold p xs = false by unfold tiesHold; rw [hvo]; rfl)
    clear hvo
    go_enter Try.func24, Try.ntmps24
    go_wp2_with fail
    refine hc1.out.mono ?_
    rintro e w1 ⟨rfl, b1⟩
    go_wp2
    go_ret
    exact ⟨by rw [hno.out]; rfl, hB.out.trans (b1.mono hB.out.size)⟩
  · rw [hvo] at hc1
    have hl := valuesOk_length hvo
    have hle : xs.length ≤ p.rules.length := by omega
    have hge : p.rules.length ≤ xs.length := by omega
    replace hl := Lib.hid hl
    have hth := Lib.hid (show tiesHold p xs = tiesOk p xs by unfold tiesHold; rw [hvo]; rfl)
    rw [hth.out]
    clear hth
    clear hvo
    go_enter Try.func24, Try.ntmps24
    go_wp2_with fail
    refine hc1.out.mono ?_
    rintro e w1 ⟨rfl, b1⟩
    replace hB := Lib.hid (hB.out.trans (b1.mono hB.out.size))
    replace k0 := Lib.hid (blk_below k0.out b1)
    obtain ⟨x0, x1, x2, x3, x4⟩ := blk5 k0.out
    clear b1 hc1
    go_wp2
    go_loopw [5, 6] (fun i _ wr => ∃ k : Nat, k ≤ p.ties.length ∧ i = .int .i64 k ∧ Hid (allTo (tieOk p xs) k = true) ∧ Below w.heap.size w wr ∧ Hid (wr.heap[w.heap.size]? = some (.cells #[.int .i64 p.ind, .slice A1 p.rules.length m1, .slice A2 p.chunks.length m2, .slice A3 p.spans.length m3, .slice A4 p.ties.length m4] 35 (0, 0)))) (fun i _ _ => p.ties.length - (intOf i).toNat)
    case atStart => exact ⟨0, by omega, rfl, Lib.hid rfl, hB.out, k0⟩
    case round =>
      clear x0 x1 x2 x3 x4 k0
      obtain ⟨k, hk, rfl, hr, hbw, hbx⟩ := hrel
      by_cases hlt : k < p.ties.length
      · have hs0 := blk_lt hbx.out
        have hs := hbw.size
        obtain ⟨x0, x1, x2, x3, x4⟩ := blk5 hbx.out
        obtain ⟨b, off, rfl, hb, hc⟩ := ha (by omega)
        obtain ⟨c0, c1⟩ := Tie.cells_ (fun j u hu => (cells_of hbw b _ hb).trans (hc j u hu)) hlt
        have z3 : b ≠ wr.heap.size := by omega
        have z4 : w.heap.size ≠ wr.heap.size := by omega
        clear hc ha
        have hat := Lib.hid (show tieOk p xs k = (inR p.ties[k].k 0 ((xs.length : Int) - 1) && (inR p.ties[k].u 0 ((xs.length : Int) - 1) && !(decide (0 < valAt xs p.ties[k].k.toNat) && valAt xs p.ties[k].u.toNat == 0))) by unfold tieOk isR; rw [tieAt_eq hlt]; rw [← hl.out])
        have hbn := Lib.hid (hbw.alloc hs (.cells #[.int .i64 p.ties[k].k, .int .i64 p.ties[k].u] 90))
        have hbxn := Lib.hid ((Below.heap_alloc wr (.cells #[.int .i64 p.ties[k].k, .int .i64 p.ties[k].u] 90) _ hs0).trans hbx.out)
        cases h1 : inR p.ties[k].k 0 ((xs.length : Int) - 1)
        · have hno := Lib.hid (show tiesOk p xs = false from allTo_off (k := k) (by rw [hat.out, h1]; rfl) _ hlt)
          clear va
          go_wp2_with (go_at_call 62; refine (spec_inRange _ _ _ _).mono ?_; rintro e w1 ⟨rfl, rfl⟩)
          go_ret
          refine ⟨by rw [hno.out]; rfl, ?_⟩
          repeat (first | exact hbn.out | refine Below.alloc ?_ (by first | omega | (simp <;> omega)) _)
        · cases h2 : inR p.ties[k].u 0 ((xs.length : Int) - 1)
          · have hno := Lib.hid (show tiesOk p xs = false from allTo_off (k := k) (by rw [hat.out, h1, h2]; rfl) _ hlt)
            clear va
            go_wp2_with (go_at_call 62; refine (spec_inRange _ _ _ _).mono ?_; rintro e w1 ⟨rfl, rfl⟩)
            go_ret
            refine ⟨by rw [hno.out]; rfl, ?_⟩
            repeat (first | exact hbn.out | refine Below.alloc ?_ (by first | omega | (simp <;> omega)) _)
          · obtain ⟨i1, j1⟩ := inR_iff.1 h1
            obtain ⟨i2, j2⟩ := inR_iff.1 h2
            obtain ⟨a, ea⟩ : ∃ a : Nat, p.ties[k].k = (a : Int) := ⟨p.ties[k].k.toNat, by omega⟩
            obtain ⟨u, eu⟩ : ∃ a : Nat, p.ties[k].u = (a : Int) := ⟨p.ties[k].u.toNat, by omega⟩
            have hax : a < xs.length := by omega
            have hux : u < xs.length := by omega
            obtain ⟨b2, off2, rfl, hb2, hc2⟩ := va (by omega)
            have y0 := (cells_of hbw b2 (off2 + a) hb2).trans (hc2 a _ (at_one hax .i64))
            have y1 := (cells_of hbw b2 (off2 + u) hb2).trans (hc2 u _ (at_one hux .i64))
            have z5 : b2 ≠ wr.heap.size := by omega
            have z8 : b2 < wr.heap.size := by omega
            have z9 : b2 < wr.heap.size + 1 := by omega
            have z10 : b2 < wr.heap.size + 1 + 1 := by omega
            have z6 : b2 ≠ wr.heap.size + 1 := by omega
            have z7 : b2 ≠ wr.heap.size + 1 + 1 := by omega
            rw [ea, eu] at hat hbn hbxn
            rw [ea] at c0 h1
            rw [eu] at c1 h2
            have hat2 := Lib.hid (hat.out.trans (show _ = !(decide (0 < xs[a]) && xs[u] == 0) by rw [h1, h2, Int.toNat_natCast, Int.toNat_natCast, valAt_eq hax, valAt_eq hux]; rfl))
            clear ea eu i1 j1 i2 j2 hat hc2
            cases h3 : decide (0 < xs[a])
            · have hon := Lib.hid (allTo_on hr.out (show tieOk p xs k = true by rw [hat2.out, h3]; rfl))
              clear hat2
              go_wp2_with (go_at_call 62; refine (spec_inRange _ _ _ _).mono ?_; rintro e w1 ⟨rfl, rfl⟩)
              go_roundw
              case rel => exact ⟨k + 1, by omega, by go_num, hon, by (repeat (first | exact hbn.out | refine Below.alloc ?_ (by first | omega | (simp <;> omega)) _)), Lib.hid (by (repeat (first | exact hbxn.out | exact (Below.heap_alloc _ _ _ (by first | omega | (simp <;> omega))).trans hbxn.out | refine (Below.heap_alloc _ _ _ (by first | omega | (simp <;> omega))).trans ?_)))⟩
              case measure => simp [intOf]; omega
            · cases h4 : (xs[u] == 0)
              · have hon := Lib.hid (allTo_on hr.out (show tieOk p xs k = true by rw [hat2.out, h3, h4]; rfl))
                clear hat2
                go_wp2_with (go_at_call 62; refine (spec_inRange _ _ _ _).mono ?_; rintro e w1 ⟨rfl, rfl⟩)
                go_roundw
                case rel => exact ⟨k + 1, by omega, by go_num, hon, by (repeat (first | exact hbn.out | refine Below.alloc ?_ (by first | omega | (simp <;> omega)) _)), Lib.hid (by (repeat (first | exact hbxn.out | exact (Below.heap_alloc _ _ _ (by first | omega | (simp <;> omega))).trans hbxn.out | refine (Below.heap_alloc _ _ _ (by first | omega | (simp <;> omega))).trans ?_)))⟩
                case measure => simp [intOf]; omega
              · have hno := Lib.hid (show tiesOk p xs = false from allTo_off (k := k) (by rw [hat2.out, h3, h4]; rfl) _ hlt)
                clear hat2
                go_wp2_with (go_at_call 62; refine (spec_inRange _ _ _ _).mono ?_; rintro e w1 ⟨rfl, rfl⟩)
                go_ret
                refine ⟨by rw [hno.out]; rfl, ?_⟩
                repeat (first | exact hbn.out | refine Below.alloc ?_ (by first | omega | (simp <;> omega)) _)
      · have hyes := Lib.hid (show tiesOk p xs = true by have := hr.out; rwa [show k = p.ties.length by omega] at this)
        have hs0 := blk_lt hbx.out
        obtain ⟨x0, x1, x2, x3, x4⟩ := blk5 hbx.out
        go_wp2
        go_ret
        exact ⟨by rw [hyes.out]; rfl, hbw⟩
end Go.Proofs.Ytlakellmdcdaaaa.Pc
