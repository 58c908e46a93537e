/-
  The contracts of laws.toSign, eqSign, szSign and of toSignS, eqSignS, szSignS, markSignS.
  Conditions: the slices read as lists of signs.
-/
import Derived.Test.YtklhfjeonhjobaaDoorRecs
import Derived.Test.YtklhfjeonhjobaaDoorStrs
namespace Go.Proofs.YtklhfjeonhjobaaDoor.Sign
open Go.RowKit Go.Proofs.YtklhfjeonhjobaaDoor.Row Go.Proofs.YtklhfjeonhjobaaDoor.Mem Go.Proofs.YtklhfjeonhjobaaDoor.Mix Go.Proofs.YtklhfjeonhjobaaDoor.Recs
structure Sign where
  k : Int
  t : ByteArray
  a : Int
  b : Bool
deriving DecidableEq
def Sign.cells (x : Sign) : List Value := [.int .i64 x.k, .string x.t, .int .i64 x.a, .bool x.b]
abbrev sign (x : Sign) : Value := .agg #[.int .i64 x.k, .string x.t, .int .i64 x.a, .bool x.b]
abbrev signs (xs : List Sign) : List Value := xs.flatMap Sign.cells
theorem cells_len (x : Sign) : x.cells.length = 4 := rfl
theorem at_sign {xs : List Sign} {i : Nat} (h : i < xs.length) : (signs xs)[i * 4 + 0]? = some (.int .i64 xs[i].k) ∧ (signs xs)[i * 4 + 1]? = some (.string xs[i].t) ∧ (signs xs)[i * 4 + 2]? = some (.int .i64 xs[i].a) ∧ (signs xs)[i * 4 + 3]? = some (.bool xs[i].b) :=
  ⟨flat_at cells_len xs i 0 h (by omega), flat_at cells_len xs i 1 h (by omega), flat_at cells_len xs i 2 h (by omega), flat_at cells_len xs i 3 h (by omega)⟩
theorem cells4 {w : World} {b off : Nat} {xs : List Sign} (hc : ∀ j u, (signs xs)[j]? = some u → w.cell? ⟨b, off + j, none⟩ = some u) {i : Nat} (h : i < xs.length) :
    w.cell? ⟨b, off + i * 4, none⟩ = some (.int .i64 xs[i].k) ∧ w.cell? ⟨b, off + i * 4 + 1, none⟩ = some (.string xs[i].t) ∧ w.cell? ⟨b, off + i * 4 + 2, none⟩ = some (.int .i64 xs[i].a) ∧ w.cell? ⟨b, off + i * 4 + 3, none⟩ = some (.bool xs[i].b) := by
  obtain ⟨a0, a1, a2, a3⟩ := at_sign h
  exact ⟨hc _ _ a0, hc _ _ a1, hc _ _ a2, hc _ _ a3⟩
set_option maxHeartbeats 800000 in
theorem eq_one (x y : Sign) (w : World) : Calls Tryd.prog 81 #[sign x, sign y] w fun e w' => e = .returned (.bool (decide (x = y))) ∧ Below w.heap.size w w' := by
  obtain ⟨k, t, a, b⟩ := x
  obtain ⟨k2, t2, a2, b2⟩ := y
  go_enter Tryd.func81, Tryd.ntmps81
  go_wp2
  all_goals
    go_ret
    refine ⟨by simp_all [Strs.toList_iff], ?_⟩
    repeat (first | exact Below.refl _ _ | assumption | refine Below.setCell ?_ (by first | omega | (simp <;> omega)) _ | refine Below.alloc ?_ (by first | omega | (simp <;> omega)) _ | refine Below.drew ?_)
theorem ESg : Elem Tryd.prog 53 61 (.agg #[.int .i64 0, .string ByteArray.empty, .int .i64 0, .bool false]) 4 40 := ⟨Tryd.underlying53, by kernel_rfl, rfl, by omega⟩
theorem take_eq {α : Type} {xs ys : List α} {k : Nat} (h1 : k < xs.length) (h2 : k < ys.length) (h : xs.take k = ys.take k) (he : xs[k] = ys[k]) : xs.take (k + 1) = ys.take (k + 1) := by
  rw [List.take_succ_eq_append_getElem h1, List.take_succ_eq_append_getElem h2, h, he]
theorem get_eq {α : Type} {xs ys : List α} (h : xs = ys) {k : Nat} (h1 : k < xs.length) (h2 : k < ys.length) : xs[k] = ys[k] := by subst h; rfl
set_option maxRecDepth 100000 in
set_option maxHeartbeats 1600000 in
theorem eq_any {v1 v2 : Value} {xs ys : List Sign} {w : World} (h1 : Row w v1 4 xs.length (signs xs)) (h2 : Row w v2 4 ys.length (signs ys)) :
    Calls Tryd.prog 42 #[v1, v2] w fun e w' => e = .returned (.bool (decide (xs = ys))) ∧ Below w.heap.size w w' := by
  obtain ⟨A, c, rfl, -, hn, hnc, hcm, ha⟩ := h1
  obtain ⟨A2, c2, rfl, -, hn2, hnc2, hcm2, ha2⟩ := h2
  by_cases hl : xs.length = ys.length
  · have d1 : (xs.length == ys.length) = true := by simpa using hl
    have d2 : (xs.length != ys.length) = false := by simpa using hl
    have d3 : ((xs.length : Int) != (ys.length : Int)) = false := by simp; omega
    have hle : xs.length ≤ ys.length := by omega
    have hge : ys.length ≤ xs.length := by omega
    replace hl := Lib.hid hl
    go_enter Tryd.func42, Tryd.ntmps42
    go_wp2
    go_loopw [5] (fun i wr => ∃ k : Nat, k ≤ xs.length ∧ i = .int .i64 k ∧ Below w.heap.size w wr ∧ Hid (xs.take k = ys.take k)) (fun i _ => xs.length - (intOf i).toNat)
    case atStart => exact ⟨0, by omega, rfl, Below.refl _ _, Lib.hid (by simp)⟩
    case round =>
      obtain ⟨k, hk, rfl, hbw, hr⟩ := hrel
      by_cases hlt : k < xs.length
      · have hlt2 : k < ys.length := by omega
        obtain ⟨b, off, rfl, hb, hc⟩ := ha (by omega)
        obtain ⟨b2, off2, rfl, hb2, hc2⟩ := ha2 (by omega)
        obtain ⟨p0, p1, p2, p3⟩ := cells4 (fun j u hu => (cells_of hbw b _ hb).trans (hc j u hu)) hlt
        obtain ⟨q0, q1, q2, q3⟩ := cells4 (fun j u hu => (cells_of hbw b2 _ hb2).trans (hc2 j u hu)) hlt2
        clear hc hc2 ha ha2
        have i0 : (0 : Int) ≤ (k : Int) := by omega
        have i1 : (k : Int) < (xs.length : Int) := by omega
        have i2 : (k : Int) < (ys.length : Int) := by omega
        have z1 := Nat.lt_of_lt_of_le hb hbw.size
        have z2 := Nat.lt_of_lt_of_le hb2 hbw.size
        by_cases h : xs[k] = ys[k]
        · have e1 : decide (xs[k] = ys[k]) = true := by simpa using h
          have hon := Lib.hid (take_eq hlt hlt2 hr.out h)
          replace h := Lib.hid h
          go_wp2
          refine wp_region_below [(0, true), (1, true), (2, true), (3, true), (4, true), (5, true), (6, true), (7, true), (8, false), (9, false)] (by kernel_rfl) (by kernel_rfl) (fun d _ _ _ _ h => by cases d <;> exact h) ?_
          repeat
           (refine mix_still rfl (by rfl) ?_
            apply Exists.intro
            refine ⟨fun w' hS => ?_, ?_⟩
            · (have hS' := cells_of hS; clear hS; go_simp; (try go_bits); first | with_reducible rfl | (refine (if_pos ?_).trans ?_; omega; with_reducible rfl))
            (go_simp; (try go_bits)))
          refine mix_loud rfl (fun K hK => ?_)
          (go_simp; (try go_bits))
          refine (eq_one xs[k] ys[k] _).mono ?_
          rintro _ w1 ⟨rfl, hb1⟩
          replace hb1 := of_drew hb1
          refine hK _ _ (fun _ => hb1) ?_
          clear hK K
          (go_simp; (try go_bits))
          refine mix_loud rfl (fun K hK => ?_)
          (go_simp; (try go_bits))
          refine hK _ _ (no_need (by kernel_rfl)) ?_
          clear hK K
          try (go_simp; (try go_bits))
          refine mix_nil ?_
          have hbx := hbw.trans (hb1.mono hbw.size)
          clear p0 p1 p2 p3 q0 q1 q2 q3
          go_wp2
          go_roundw
          case rel => exact ⟨k + 1, by omega, by go_num, hbx, hon⟩
          case measure => simp [intOf]; omega
        · have e1 : decide (xs[k] = ys[k]) = false := by simpa using h
          have hne := Lib.hid (show decide (xs = ys) = false by apply decide_eq_false; intro he; exact h (get_eq he hlt hlt2))
          replace h := Lib.hid h
          go_wp2
          refine wp_region_below [(0, true), (1, true), (2, true), (3, true), (4, true), (5, true), (6, true), (7, true), (8, false), (9, false)] (by kernel_rfl) (by kernel_rfl) (fun d _ _ _ _ h => by cases d <;> exact h) ?_
          repeat
           (refine mix_still rfl (by rfl) ?_
            apply Exists.intro
            refine ⟨fun w' hS => ?_, ?_⟩
            · (have hS' := cells_of hS; clear hS; go_simp; (try go_bits); first | with_reducible rfl | (refine (if_pos ?_).trans ?_; omega; with_reducible rfl))
            (go_simp; (try go_bits)))
          refine mix_loud rfl (fun K hK => ?_)
          (go_simp; (try go_bits))
          refine (eq_one xs[k] ys[k] _).mono ?_
          rintro _ w1 ⟨rfl, hb1⟩
          replace hb1 := of_drew hb1
          refine hK _ _ (fun _ => hb1) ?_
          clear hK K
          (go_simp; (try go_bits))
          refine mix_loud rfl (fun K hK => ?_)
          (go_simp; (try go_bits))
          refine hK _ _ (no_need (by kernel_rfl)) ?_
          clear hK K
          try (go_simp; (try go_bits))
          refine mix_nil ?_
          have hbx := hbw.trans (hb1.mono hbw.size)
          clear p0 p1 p2 p3 q0 q1 q2 q3
          go_wp2
          go_ret
          exact ⟨by rw [hne.out]; rfl, hbx⟩
      · have hyes := Lib.hid (show decide (xs = ys) = true by
          apply decide_eq_true
          have := hr.out
          rw [List.take_of_length_le (by omega), List.take_of_length_le (by omega)] at this
          exact this)
        go_wp2
        go_ret
        exact ⟨by rw [hyes.out]; rfl, hbw⟩
  · have d1 : (xs.length == ys.length) = false := by simpa using hl
    have d2 : (xs.length != ys.length) = true := by simpa using hl
    have d3 : ((xs.length : Int) != (ys.length : Int)) = true := by simp; omega
    have hne := Lib.hid (show decide (xs = ys) = false by apply decide_eq_false; intro he; subst he; exact hl rfl)
    replace hl := Lib.hid hl
    go_enter Tryd.func42, Tryd.ntmps42
    go_wp2
    go_ret
    exact ⟨by rw [hne.out]; rfl, Below.refl _ _⟩
theorem eq_self {v1 v2 : Value} {xs : List Sign} {w : World} (h1 : Row w v1 4 xs.length (signs xs)) (h2 : Row w v2 4 xs.length (signs xs)) :
    Calls Tryd.prog 42 #[v1, v2] w fun e w' => e = .returned (.bool true) ∧ Below w.heap.size w w' :=
  (eq_any h1 h2).mono fun e w' h => ⟨by rw [h.1, decide_eq_true rfl], h.2⟩
abbrev texts (xs : List Sign) : List ByteArray := xs.map Sign.t
end Go.Proofs.YtklhfjeonhjobaaDoor.Sign
