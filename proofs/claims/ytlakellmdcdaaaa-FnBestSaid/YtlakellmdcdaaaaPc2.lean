/-
  The contracts of impl.ValuesOk and spec.ValuesOk.
  Conditions: the piece reads as a piece, the values as a list of numbers.
-/
import Derived.Test.YtlakellmdcdaaaaPc1
namespace Go.Proofs.Ytlakellmdcdaaaa.Pc
open Go.RowKit Go.Proofs.Ytlakellmdcdaaaa.Row Go.Proofs.Ytlakellmdcdaaaa.Mem Go.Proofs.Ytlakellmdcdaaaa.Mix Go.Proofs.Ytlakellmdcdaaaa.Recs Go.Proofs.Ytlakellmdcdaaaa.Owns Go.Proofs.Ytlakellmdcdaaaa.Blocks Go.Proofs.Ytlakellmdcdaaaa.Piece Go.Proofs.Ytlakellmdcdaaaa.All Go.Proofs.Ytlakellmdcdaaaa.Ints
/-- one less, as Go has it -/
def dec (v : Int) : Int := wrap64 (v - 1)
theorem wrap_eq (n : Int) : IntKind.i64.wrap n = wrap64 n := by rw [IntKind.wrap_i64, wrap64]
def valAt (xs : List Int) (i : Nat) : Int := xs.getD i 0
theorem valAt_eq {xs : List Int} {i : Nat} (h : i < xs.length) : valAt xs i = xs[i] := getD_at h _
def fits (p : P) (xs : List Int) (i : Nat) : Bool := inR (valAt xs i) 0 (dec (ruleAt p i).v)
def valuesOk (p : P) (xs : List Int) : Bool := decide (xs.length = p.rules.length) && allTo (fits p xs) xs.length
theorem valuesOk_no {p : P} {xs : List Int} {k : Nat} (hk : k < xs.length) (h : fits p xs k = false) : valuesOk p xs = false := by
  unfold valuesOk; rw [allTo_off h _ hk, Bool.and_false]
theorem valuesOk_yes {p : P} {xs : List Int} (hl : xs.length = p.rules.length) (h : allTo (fits p xs) xs.length = true) : valuesOk p xs = true := by
  unfold valuesOk; rw [h, decide_eq_true hl]; rfl
theorem valuesOk_len {p : P} {xs : List Int} (hl : ¬ xs.length = p.rules.length) : valuesOk p xs = false := by
  unfold valuesOk; rw [decide_eq_false hl]; rfl
set_option maxRecDepth 100000 in
set_option maxHeartbeats 1600000 in
theorem impl_ValuesOk {p : P} {r c s t v : Value} {xs : List Int} {w : World} (h : PRow w p r c s t) (hv : Row w v 1 xs.length (ints xs)) :
    Calls Try.prog 22 #[pv p.ind r c s t, v] w fun e w' => e = .returned (.bool (valuesOk p xs)) ∧ Below w.heap.size w w' := by
  obtain ⟨⟨A1, m1, rfl⟩, ⟨A2, m2, rfl⟩, ⟨A3, m3, rfl⟩, ⟨A4, m4, rfl⟩⟩ := h.lits
  obtain ⟨A, c1, e1, -, hn, hnc, hcm, ha⟩ := h.rules
  injection e1 with ea el ec
  subst ea ec
  obtain ⟨Av, cv, rfl, -, vn, vnc, vcm, va⟩ := hv
  clear el h
  by_cases hl : xs.length = p.rules.length
  · have d1 : (xs.length == p.rules.length) = true := by simpa using hl
    have d2 : (xs.length != p.rules.length) = false := by simpa using hl
    have d3 : ((xs.length : Int) != (p.rules.length : Int)) = false := by simp; omega
    have hle : xs.length ≤ p.rules.length := by omega
    replace hl := Lib.hid hl
    go_enter Try.func22, Try.ntmps22
    go_wp2
    go_loopw [15] (fun i wr => ∃ k : Nat, k ≤ xs.length ∧ i = .int .i64 k ∧ Hid (allTo (fits p xs) k = true) ∧ Below w.heap.size w wr ∧ Hid (wr.heap[w.heap.size]? = some (.cells #[.int .i64 p.ind, .slice A1 p.rules.length m1, .slice A2 p.chunks.length m2, .slice A3 p.spans.length m3, .slice A4 p.ties.length m4] 35 (0, 0)))) (fun i _ => xs.length - (intOf i).toNat)
    case atStart => exact ⟨0, by omega, rfl, Lib.hid rfl, (Below.refl _ _).alloc (Nat.le_refl _) _, Lib.hid (heap_alloc_new w _)⟩
    case round =>
      obtain ⟨k, hk, rfl, hr, hbw, hbx⟩ := hrel
      by_cases hlt : k < xs.length
      · have hlt2 : k < p.rules.length := by omega
        have hs0 := blk_lt hbx.out
        obtain ⟨x0, x1, x2, x3, x4⟩ := blk5 hbx.out
        clear x0 x2 x3 x4
        obtain ⟨b, off, rfl, hb, hc⟩ := ha (by omega)
        obtain ⟨c0, c1⟩ := Rule.cells_ (fun j u hu => (cells_of hbw b _ hb).trans (hc j u hu)) hlt2
        obtain ⟨b2, off2, rfl, hb2, hc2⟩ := va (by omega)
        have y0 := (cells_of hbw b2 (off2 + k) hb2).trans (hc2 k _ (at_one hlt .i64))
        clear hc ha hc2 va c1
        have hat := Lib.hid (show fits p xs k = inR xs[k] 0 (wrap64 (p.rules[k].v - 1)) by unfold fits; rw [valAt_eq hlt, ruleAt_eq hlt2]; rfl)
        have hcall := Lib.hid (impl_inRange xs[k] 0 (wrap64 (p.rules[k].v - 1)))
        have hwr : IntKind.i64.wrap (p.rules[k].v - 1) = wrap64 (p.rules[k].v - 1) := wrap_eq _
        have i0 : (0 : Int) ≤ (k : Int) := by omega
        have i1 : (k : Int) < (xs.length : Int) := by omega
        have i2 : (k : Int) < (p.rules.length : Int) := by omega
        have z1 := Nat.lt_of_lt_of_le hb hbw.size
        have z2 := Nat.lt_of_lt_of_le hb2 hbw.size
        cases hi : inR xs[k] 0 (wrap64 (p.rules[k].v - 1))
        · rw [hi] at hcall hat
          have hno := Lib.hid (valuesOk_no hlt hat.out)
          clear hi
          go_wp2_with (go_at_call 67; refine (hcall.out _).mono ?_; rintro e w1 ⟨rfl, rfl⟩)
          go_ret
          exact ⟨by rw [hno.out]; rfl, hbw⟩
        · rw [hi] at hcall hat
          have hon := Lib.hid (allTo_on hr.out hat.out)
          clear hi
          go_wp2_with (go_at_call 67; refine (hcall.out _).mono ?_; rintro e w1 ⟨rfl, rfl⟩)
          go_roundw
          case rel => exact ⟨k + 1, by omega, by go_num, hon, hbw, hbx⟩
          case measure => simp [intOf]; omega
      · have hyes := Lib.hid (valuesOk_yes hl.out (by have := hr.out; rwa [show k = xs.length by omega] at this))
        go_wp2
        go_ret
        exact ⟨by rw [hyes.out]; rfl, hbw⟩
  · have d1 : (xs.length == p.rules.length) = false := by simpa using hl
    have d2 : (xs.length != p.rules.length) = true := by simpa using hl
    have d3 : ((xs.length : Int) != (p.rules.length : Int)) = true := by simp; omega
    have hno := Lib.hid (valuesOk_len hl)
    clear hl
    go_enter Try.func22, Try.ntmps22
    go_wp2
    go_ret
    refine ⟨by rw [hno.out]; rfl, ?_⟩
    repeat (first | exact Below.refl _ _ | assumption | refine Below.setCell ?_ (by first | omega | (simp <;> omega)) _ | refine Below.alloc ?_ (by first | omega | (simp <;> omega)) _ | refine Below.drew ?_)
set_option maxRecDepth 100000 in
set_option maxHeartbeats 1600000 in
theorem spec_ValuesOk {p : P} {r c s t v : Value} {xs : List Int} {w : World} (h : PRow w p r c s t) (hv : Row w v 1 xs.length (ints xs)) :
    Calls Try.prog 20 #[pv p.ind r c s t, v] w fun e w' => e = .returned (.bool (valuesOk p xs)) ∧ Below w.heap.size w w' := by
  obtain ⟨⟨A1, m1, rfl⟩, ⟨A2, m2, rfl⟩, ⟨A3, m3, rfl⟩, ⟨A4, m4, rfl⟩⟩ := h.lits
  obtain ⟨A, c1, e1, -, hn, hnc, hcm, ha⟩ := h.rules
  injection e1 with ea el ec
  subst ea ec
  obtain ⟨Av, cv, rfl, -, vn, vnc, vcm, va⟩ := hv
  clear el h
  by_cases hl : xs.length = p.rules.length
  · have d1 : (xs.length == p.rules.length) = true := by simpa using hl
    have d2 : (xs.length != p.rules.length) = false := by simpa using hl
    have d3 : ((xs.length : Int) != (p.rules.length : Int)) = false := by simp; omega
    have hle : xs.length ≤ p.rules.length := by omega
    replace hl := Lib.hid hl
    go_enter Try.func20, Try.ntmps20
    go_wp2
    go_loopw [5] (fun i wr => ∃ k : Nat, k ≤ xs.length ∧ i = .int .i64 k ∧ Hid (allTo (fits p xs) k = true) ∧ Below w.heap.size w wr ∧ Hid (wr.heap[w.heap.size]? = some (.cells #[.int .i64 p.ind, .slice A1 p.rules.length m1, .slice A2 p.chunks.length m2, .slice A3 p.spans.length m3, .slice A4 p.ties.length m4] 35 (0, 0)))) (fun i _ => xs.length - (intOf i).toNat)
    case atStart => exact ⟨0, by omega, rfl, Lib.hid rfl, (Below.refl _ _).alloc (Nat.le_refl _) _, Lib.hid (heap_alloc_new w _)⟩
    case round =>
      obtain ⟨k, hk, rfl, hr, hbw, hbx⟩ := hrel
      by_cases hlt : k < xs.length
      · have hlt2 : k < p.rules.length := by omega
        have hs0 := blk_lt hbx.out
        obtain ⟨x0, x1, x2, x3, x4⟩ := blk5 hbx.out
        clear x0 x2 x3 x4
        obtain ⟨b, off, rfl, hb, hc⟩ := ha (by omega)
        obtain ⟨c0, c1⟩ := Rule.cells_ (fun j u hu => (cells_of hbw b _ hb).trans (hc j u hu)) hlt2
        obtain ⟨b2, off2, rfl, hb2, hc2⟩ := va (by omega)
        have y0 := (cells_of hbw b2 (off2 + k) hb2).trans (hc2 k _ (at_one hlt .i64))
        clear hc ha hc2 va c1
        have hat := Lib.hid (show fits p xs k = inR xs[k] 0 (wrap64 (p.rules[k].v - 1)) by unfold fits; rw [valAt_eq hlt, ruleAt_eq hlt2]; rfl)
        have hcall := Lib.hid (spec_inRange xs[k] 0 (wrap64 (p.rules[k].v - 1)))
        have hwr : IntKind.i64.wrap (p.rules[k].v - 1) = wrap64 (p.rules[k].v - 1) := wrap_eq _
        have i0 : (0 : Int) ≤ (k : Int) := by omega
        have i1 : (k : Int) < (xs.length : Int) := by omega
        have i2 : (k : Int) < (p.rules.length : Int) := by omega
        have z1 := Nat.lt_of_lt_of_le hb hbw.size
        have z2 := Nat.lt_of_lt_of_le hb2 hbw.size
        cases hi : inR xs[k] 0 (wrap64 (p.rules[k].v - 1))
        · rw [hi] at hcall hat
          have hno := Lib.hid (valuesOk_no hlt hat.out)
          clear hi
          go_wp2
          refine wp_region_below [(0, true), (1, true), (2, true), (3, true), (4, true), (5, true), (6, true), (7, true), (8, true), (9, true), (10, true), (11, false), (12, false)] (by kernel_rfl) (by kernel_rfl) (fun d _ _ _ _ h => by cases d <;> exact h) ?_
          repeat
           (refine mix_still rfl (by rfl) ?_
            apply Exists.intro
            refine ⟨fun w' hS => ?_, ?_⟩
            · (have hS' := cells_of hS; clear hS; go_simp; (try go_bits); first | with_reducible rfl | (refine (if_pos ?_).trans ?_; omega; with_reducible rfl))
            (go_simp; (try go_bits)))
          refine mix_loud rfl (fun K hK => ?_)
          (go_simp; (try go_bits))
          refine (hcall.out _).mono ?_
          rintro _ w0 ⟨rfl, rfl⟩
          refine hK _ _ (no_need (by kernel_rfl)) ?_
          clear hK K
          go_simp
          refine mix_loud rfl (fun K hK => ?_)
          (go_simp; (try go_bits))
          refine hK _ _ (no_need (by kernel_rfl)) ?_
          clear hK K
          try (go_simp; (try go_bits))
          refine mix_nil ?_
          go_wp2
          go_ret
          exact ⟨by rw [hno.out]; rfl, hbw.drew⟩
        · rw [hi] at hcall hat
          have hon := Lib.hid (allTo_on hr.out hat.out)
          clear hi
          go_wp2
          refine wp_region_below [(0, true), (1, true), (2, true), (3, true), (4, true), (5, true), (6, true), (7, true), (8, true), (9, true), (10, true), (11, false), (12, false)] (by kernel_rfl) (by kernel_rfl) (fun d _ _ _ _ h => by cases d <;> exact h) ?_
          repeat
           (refine mix_still rfl (by rfl) ?_
            apply Exists.intro
            refine ⟨fun w' hS => ?_, ?_⟩
            · (have hS' := cells_of hS; clear hS; go_simp; (try go_bits); first | with_reducible rfl | (refine (if_pos ?_).trans ?_; omega; with_reducible rfl))
            (go_simp; (try go_bits)))
          refine mix_loud rfl (fun K hK => ?_)
          (go_simp; (try go_bits))
          refine (hcall.out _).mono ?_
          rintro _ w0 ⟨rfl, rfl⟩
          refine hK _ _ (no_need (by kernel_rfl)) ?_
          clear hK K
          go_simp
          refine mix_loud rfl (fun K hK => ?_)
          (go_simp; (try go_bits))
          refine hK _ _ (no_need (by kernel_rfl)) ?_
          clear hK K
          try (go_simp; (try go_bits))
          refine mix_nil ?_
          go_wp2
          go_roundw
          case rel => exact ⟨k + 1, by omega, by go_num, hon, hbw.drew, hbx⟩
          case measure => simp [intOf]; omega
      · have hyes := Lib.hid (valuesOk_yes hl.out (by have := hr.out; rwa [show k = xs.length by omega] at this))
        go_wp2
        go_ret
        exact ⟨by rw [hyes.out]; rfl, hbw⟩
  · have d1 : (xs.length == p.rules.length) = false := by simpa using hl
    have d2 : (xs.length != p.rules.length) = true := by simpa using hl
    have d3 : ((xs.length : Int) != (p.rules.length : Int)) = true := by simp; omega
    have hno := Lib.hid (valuesOk_len hl)
    clear hl
    go_enter Try.func20, Try.ntmps20
    go_wp2
    go_ret
    refine ⟨by rw [hno.out]; rfl, ?_⟩
    repeat (first | exact Below.refl _ _ | assumption | refine Below.setCell ?_ (by first | omega | (simp <;> omega)) _ | refine Below.alloc ?_ (by first | omega | (simp <;> omega)) _ | refine Below.drew ?_)
end Go.Proofs.Ytlakellmdcdaaaa.Pc
