/-
  The contracts of laws.toSign, eqSign, szSign and of toSignS, eqSignS, szSignS, markSignS.
  Conditions: the slices read as lists of signs.
-/
import Derived.Test.YtfhigagbipkipaaRecs
import Derived.Test.YtfhigagbipkipaaStrs
namespace Go.Proofs.Ytfhigagbipkipaa.Sign
open Go.RowKit Go.Proofs.Ytfhigagbipkipaa.Row Go.Proofs.Ytfhigagbipkipaa.Mem Go.Proofs.Ytfhigagbipkipaa.Mix Go.Proofs.Ytfhigagbipkipaa.Recs
structure Sign where
  k : Int
  t : ByteArray
  a : Int
  b : Bool
deriving DecidableEq
def Sign.cells (x : Sign) : List Value := [.int .i64 x.k, .string x.t, .int .i64 x.a, .bool x.b]
abbrev sign (x : Sign) : Value := .agg #[.int .i64 x.k, .string x.t, .int .i64 x.a, .bool x.b]
abbrev signs (xs : List Sign) : List Value := xs.flatMap Sign.cells
theorem cells_len (x : Sign) : x.cells.length = 4 := rfl
theorem at_sign {xs : List Sign} {i : Nat} (h : i < xs.length) : (signs xs)[i * 4 + 0]? = some (.int .i64 xs[i].k) ∧ (signs xs)[i * 4 + 1]? = some (.string xs[i].t) ∧ (signs xs)[i * 4 + 2]? = some (.int .i64 xs[i].a) ∧ (signs xs)[i * 4 + 3]? = some (.bool xs[i].b) :=
  ⟨flat_at cells_len xs i 0 h (by omega), flat_at cells_len xs i 1 h (by omega), flat_at cells_len xs i 2 h (by omega), flat_at cells_len xs i 3 h (by omega)⟩
theorem cells4 {w : World} {b off : Nat} {xs : List Sign} (hc : ∀ j u, (signs xs)[j]? = some u → w.cell? ⟨b, off + j, none⟩ = some u) {i : Nat} (h : i < xs.length) :
    w.cell? ⟨b, off + i * 4, none⟩ = some (.int .i64 xs[i].k) ∧ w.cell? ⟨b, off + i * 4 + 1, none⟩ = some (.string xs[i].t) ∧ w.cell? ⟨b, off + i * 4 + 2, none⟩ = some (.int .i64 xs[i].a) ∧ w.cell? ⟨b, off + i * 4 + 3, none⟩ = some (.bool xs[i].b) := by
  obtain ⟨a0, a1, a2, a3⟩ := at_sign h
  exact ⟨hc _ _ a0, hc _ _ a1, hc _ _ a2, hc _ _ a3⟩
set_option maxHeartbeats 400000 in
theorem to_one (x : Sign) (w : World) : Calls Try.prog 34 #[sign x] w fun e w' => e = .returned (sign x) ∧ Below w.heap.size w w' := by
  obtain ⟨k, t, a, b⟩ := x
  go_enter Try.func34, Try.ntmps34
  go_wp2
  refine bodyPost_ret (v := sign ⟨k, t, a, b⟩) (by simp [results, Try.results34, go_sem]) rfl ⟨rfl, ?_⟩
  repeat (first | exact Below.refl _ _ | refine Below.setCell ?_ (by simp <;> omega) _ | refine Below.alloc ?_ (by simp <;> omega) _)
set_option maxHeartbeats 800000 in
theorem eq_one (x y : Sign) (w : World) : Calls Try.prog 35 #[sign x, sign y] w fun e w' => e = .returned (.bool (decide (x = y))) ∧ Below w.heap.size w w' := by
  obtain ⟨k, t, a, b⟩ := x
  obtain ⟨k2, t2, a2, b2⟩ := y
  go_enter Try.func35, Try.ntmps35
  go_wp2
  all_goals
    go_ret
    refine ⟨by simp_all [Strs.toList_iff], ?_⟩
    repeat (first | exact Below.refl _ _ | assumption | refine Below.setCell ?_ (by first | omega | (simp <;> omega)) _ | refine Below.alloc ?_ (by first | omega | (simp <;> omega)) _ | refine Below.drew ?_)
set_option maxHeartbeats 400000 in
theorem sz_one (x : Sign) (left : Int) (hs : x.t.size ≤ maxLen) (h0 : 0 ≤ left) (hm : left ≤ 1048576) (w : World) : Calls Try.prog 33 #[sign x, .int .i64 left] w fun e w' => e = .returned (.int .i64 (if (x.t.size : Int) ≤ left then left - x.t.size else -1)) ∧ Below w.heap.size w w' := by
  obtain ⟨k, t, a, b⟩ := x
  simp only [maxLen] at hs
  by_cases h : (t.size : Int) ≤ left
  · rw [if_pos h]
    have d : decide (left - (t.size : Int) < 0) = false := by simp; omega
    go_enter Try.func33, Try.ntmps33
    go_wp2
    go_ret
    refine ⟨rfl, ?_⟩
    repeat (first | exact Below.refl _ _ | assumption | refine Below.setCell ?_ (by first | omega | (simp <;> omega)) _ | refine Below.alloc ?_ (by first | omega | (simp <;> omega)) _ | refine Below.drew ?_)
  · rw [if_neg h]
    have d : decide (left - (t.size : Int) < 0) = true := by simp; omega
    go_enter Try.func33, Try.ntmps33
    go_wp2
    go_ret
    refine ⟨rfl, ?_⟩
    repeat (first | exact Below.refl _ _ | assumption | refine Below.setCell ?_ (by first | omega | (simp <;> omega)) _ | refine Below.alloc ?_ (by first | omega | (simp <;> omega)) _ | refine Below.drew ?_)
theorem ESg : Elem Try.prog 26 59 (.agg #[.int .i64 0, .string ByteArray.empty, .int .i64 0, .bool false]) 4 40 := ⟨Try.underlying26, by kernel_rfl, rfl, by omega⟩
set_option maxRecDepth 100000 in
set_option maxHeartbeats 800000 in
theorem to_any {v : Value} {xs : List Sign} {w : World} (h1 : Row w v 4 xs.length (signs xs)) (hb8 : xs.length * 40 ≤ 140737488355328) :
    Calls Try.prog 9 #[v] w fun e w' => e = .returned (.slice (some ⟨w.heap.size, 0, none⟩) xs.length xs.length) ∧
      Own w' (.slice (some ⟨w.heap.size, 0, none⟩) xs.length xs.length) 59 4 w.heap.size xs.length (signs xs) ∧ Below w.heap.size w w' := by
  obtain ⟨A, c, rfl, -, hn, hnc, hcm, ha⟩ := h1
  have hmk : ∀ W, (Instr.makeSlice 26 (.int .i64 (xs.length : Int)) (.int .i64 (xs.length : Int))).run Try.prog W = .ok (.slice (some ⟨W.heap.size, 0, none⟩) xs.length xs.length) (W.alloc (.cells (madeCells #[.int .i64 0, .string ByteArray.empty, .int .i64 0, .bool false] (xs.length * 4)) 59)) := fun W =>
    make_run ESg xs.length xs.length (by omega) (by omega) (by simp only [maxLen]; omega) W
  go_enter Try.func9, Try.ntmps9
  go_wp2
  go_loopw [4] (fun i wr => ∃ k : Nat, k ≤ xs.length ∧ i = .int .i64 k ∧ Fill wr w.heap.size 59 4 xs.length k (signs (xs.take k)) ∧ Below w.heap.size w wr) (fun i _ => xs.length - (intOf i).toNat)
  case atStart => exact ⟨0, by omega, rfl, Fill.made w _ (by simp [madeCells]), (Below.refl _ _).alloc (Nat.le_refl _) _⟩
  case round =>
    obtain ⟨k, hk, rfl, hf, hbw⟩ := hrel
    by_cases hlt : k < xs.length
    · obtain ⟨b, off, rfl, hb, hc⟩ := ha (by omega)
      obtain ⟨c0, c1, c2, c3⟩ := cells4 (fun j u hu => (cells_of hbw b _ hb).trans (hc j u hu)) hlt
      clear hc
      go_wp2_with fail
      refine (to_one xs[k] _).mono ?_
      rintro e w2 ⟨rfl, hb2⟩
      have hf2 := hf.below hb2
      have hbw2 := hbw.trans (hb2.mono hbw.size)
      clear hf hbw hb2 c0 c1 c2 c3
      obtain ⟨u0, e0⟩ := hf2.cell (j := k * 4) (by omega)
      obtain ⟨u1, e1⟩ := hf2.cell (j := k * 4 + 1) (by omega)
      obtain ⟨u2, e2⟩ := hf2.cell (j := k * 4 + 2) (by omega)
      obtain ⟨u3, e3⟩ := hf2.cell (j := k * 4 + 3) (by omega)
      have f0 := hf2.frozen (k * 4)
      have f1 := hf2.frozen (k * 4 + 1)
      have f2 := hf2.frozen (k * 4 + 2)
      have f3 := hf2.frozen (k * 4 + 3)
      have hst := Lib.hid (hf2.put hlt xs[k].cells rfl)
      have hwb := Lib.hid (below_setAll (g := w.heap.size) xs[k].cells (k * 4) hbw2 (Nat.le_refl _))
      have htk := Lib.hid (flat_take (f := Sign.cells) xs k hlt)
      clear hf2 hbw2
      go_wp2
      exact ⟨⟨k + 1, by omega, by go_num, by unfold signs; rw [htk.out]; exact hst.out, hwb.out⟩, by simp [intOf]; omega⟩
    · obtain rfl : k = xs.length := by omega
      have hd := hf.done (by omega)
      rw [List.take_length] at hd
      replace hd := Lib.hid hd
      go_wp2
      go_ret
      exact ⟨rfl, hd.out, hbw⟩
theorem take_eq {α : Type} {xs ys : List α} {k : Nat} (h1 : k < xs.length) (h2 : k < ys.length) (h : xs.take k = ys.take k) (he : xs[k] = ys[k]) : xs.take (k + 1) = ys.take (k + 1) := by
  rw [List.take_succ_eq_append_getElem h1, List.take_succ_eq_append_getElem h2, h, he]
theorem get_eq {α : Type} {xs ys : List α} (h : xs = ys) {k : Nat} (h1 : k < xs.length) (h2 : k < ys.length) : xs[k] = ys[k] := by subst h; rfl
set_option maxRecDepth 100000 in
set_option maxHeartbeats 1600000 in
theorem eq_any {v1 v2 : Value} {xs ys : List Sign} {w : World} (h1 : Row w v1 4 xs.length (signs xs)) (h2 : Row w v2 4 ys.length (signs ys)) :
    Calls Try.prog 12 #[v1, v2] w fun e w' => e = .returned (.bool (decide (xs = ys))) ∧ Below w.heap.size w w' := by
  obtain ⟨A, c, rfl, -, hn, hnc, hcm, ha⟩ := h1
  obtain ⟨A2, c2, rfl, -, hn2, hnc2, hcm2, ha2⟩ := h2
  by_cases hl : xs.length = ys.length
  · have d1 : (xs.length == ys.length) = true := by simpa using hl
    have d2 : (xs.length != ys.length) = false := by simpa using hl
    have d3 : ((xs.length : Int) != (ys.length : Int)) = false := by simp; omega
    have hle : xs.length ≤ ys.length := by omega
    have hge : ys.length ≤ xs.length := by omega
    replace hl := Lib.hid hl
    go_enter Try.func12, Try.ntmps12
    go_wp2
    go_loopw [5] (fun i wr => ∃ k : Nat, k ≤ xs.length ∧ i = .int .i64 k ∧ Below w.heap.size w wr ∧ Hid (xs.take k = ys.take k)) (fun i _ => xs.length - (intOf i).toNat)
    case atStart => exact ⟨0, by omega, rfl, Below.refl _ _, Lib.hid (by simp)⟩
    case round =>
      obtain ⟨k, hk, rfl, hbw, hr⟩ := hrel
      by_cases hlt : k < xs.length
      · have hlt2 : k < ys.length := by omega
        obtain ⟨b, off, rfl, hb, hc⟩ := ha (by omega)
        obtain ⟨b2, off2, rfl, hb2, hc2⟩ := ha2 (by omega)
        obtain ⟨p0, p1, p2, p3⟩ := cells4 (fun j u hu => (cells_of hbw b _ hb).trans (hc j u hu)) hlt
        obtain ⟨q0, q1, q2, q3⟩ := cells4 (fun j u hu => (cells_of hbw b2 _ hb2).trans (hc2 j u hu)) hlt2
        clear hc hc2 ha ha2
        have i0 : (0 : Int) ≤ (k : Int) := by omega
        have i1 : (k : Int) < (xs.length : Int) := by omega
        have i2 : (k : Int) < (ys.length : Int) := by omega
        have z1 := Nat.lt_of_lt_of_le hb hbw.size
        have z2 := Nat.lt_of_lt_of_le hb2 hbw.size
        by_cases h : xs[k] = ys[k]
        · have e1 : decide (xs[k] = ys[k]) = true := by simpa using h
          have hon := Lib.hid (take_eq hlt hlt2 hr.out h)
          replace h := Lib.hid h
          go_wp2
          refine wp_region_below [(0, true), (1, true), (2, true), (3, true), (4, true), (5, true), (6, true), (7, true), (8, false), (9, false)] (by kernel_rfl) (by kernel_rfl) (fun d _ _ _ _ h => by cases d <;> exact h) ?_
          repeat
           (refine mix_still rfl (by rfl) ?_
            apply Exists.intro
            refine ⟨fun w' hS => ?_, ?_⟩
            · (have hS' := cells_of hS; clear hS; go_simp; (try go_bits); first | with_reducible rfl | (refine (if_pos ?_).trans ?_; omega; with_reducible rfl))
            (go_simp; (try go_bits)))
          refine mix_loud rfl (fun K hK => ?_)
          (go_simp; (try go_bits))
          refine (eq_one xs[k] ys[k] _).mono ?_
          rintro _ w1 ⟨rfl, hb1⟩
          replace hb1 := of_drew hb1
          refine hK _ _ (fun _ => hb1) ?_
          clear hK K
          (go_simp; (try go_bits))
          refine mix_loud rfl (fun K hK => ?_)
          (go_simp; (try go_bits))
          refine hK _ _ (no_need (by kernel_rfl)) ?_
          clear hK K
          try (go_simp; (try go_bits))
          refine mix_nil ?_
          have hbx := hbw.trans (hb1.mono hbw.size)
          clear p0 p1 p2 p3 q0 q1 q2 q3
          go_wp2
          go_roundw
          case rel => exact ⟨k + 1, by omega, by go_num, hbx, hon⟩
          case measure => simp [intOf]; omega
        · have e1 : decide (xs[k] = ys[k]) = false := by simpa using h
          have hne := Lib.hid (show decide (xs = ys) = false by apply decide_eq_false; intro he; exact h (get_eq he hlt hlt2))
          replace h := Lib.hid h
          go_wp2
          refine wp_region_below [(0, true), (1, true), (2, true), (3, true), (4, true), (5, true), (6, true), (7, true), (8, false), (9, false)] (by kernel_rfl) (by kernel_rfl) (fun d _ _ _ _ h => by cases d <;> exact h) ?_
          repeat
           (refine mix_still rfl (by rfl) ?_
            apply Exists.intro
            refine ⟨fun w' hS => ?_, ?_⟩
            · (have hS' := cells_of hS; clear hS; go_simp; (try go_bits); first | with_reducible rfl | (refine (if_pos ?_).trans ?_; omega; with_reducible rfl))
            (go_simp; (try go_bits)))
          refine mix_loud rfl (fun K hK => ?_)
          (go_simp; (try go_bits))
          refine (eq_one xs[k] ys[k] _).mono ?_
          rintro _ w1 ⟨rfl, hb1⟩
          replace hb1 := of_drew hb1
          refine hK _ _ (fun _ => hb1) ?_
          clear hK K
          (go_simp; (try go_bits))
          refine mix_loud rfl (fun K hK => ?_)
          (go_simp; (try go_bits))
          refine hK _ _ (no_need (by kernel_rfl)) ?_
          clear hK K
          try (go_simp; (try go_bits))
          refine mix_nil ?_
          have hbx := hbw.trans (hb1.mono hbw.size)
          clear p0 p1 p2 p3 q0 q1 q2 q3
          go_wp2
          go_ret
          exact ⟨by rw [hne.out]; rfl, hbx⟩
      · have hyes := Lib.hid (show decide (xs = ys) = true by
          apply decide_eq_true
          have := hr.out
          rw [List.take_of_length_le (by omega), List.take_of_length_le (by omega)] at this
          exact this)
        go_wp2
        go_ret
        exact ⟨by rw [hyes.out]; rfl, hbw⟩
  · have d1 : (xs.length == ys.length) = false := by simpa using hl
    have d2 : (xs.length != ys.length) = true := by simpa using hl
    have d3 : ((xs.length : Int) != (ys.length : Int)) = true := by simp; omega
    have hne := Lib.hid (show decide (xs = ys) = false by apply decide_eq_false; intro he; subst he; exact hl rfl)
    replace hl := Lib.hid hl
    go_enter Try.func12, Try.ntmps12
    go_wp2
    go_ret
    exact ⟨by rw [hne.out]; rfl, Below.refl _ _⟩
theorem eq_self {v1 v2 : Value} {xs : List Sign} {w : World} (h1 : Row w v1 4 xs.length (signs xs)) (h2 : Row w v2 4 xs.length (signs xs)) :
    Calls Try.prog 12 #[v1, v2] w fun e w' => e = .returned (.bool true) ∧ Below w.heap.size w w' :=
  (eq_any h1 h2).mono fun e w' h => ⟨by rw [h.1, decide_eq_true rfl], h.2⟩
abbrev texts (xs : List Sign) : List ByteArray := xs.map Sign.t
set_option maxRecDepth 100000 in
set_option maxHeartbeats 1600000 in
theorem sz_any {v : Value} {xs : List Sign} {w : World} (h1 : Row w v 4 xs.length (signs xs)) (hs : ∀ x ∈ xs, x.t.size ≤ maxLen) (left : Int) (h0 : 0 ≤ left) (hm : left ≤ 1048576) :
    Calls Try.prog 7 #[v, .int .i64 left] w fun e w' => e = .returned (.int .i64 (Strs.sz (texts xs) left)) ∧ Below w.heap.size w w' := by
  obtain ⟨A, c, rfl, -, hn, hnc, hcm, ha⟩ := h1
  have hlen : (texts xs).length = xs.length := by simp
  by_cases hl : (xs.length : Int) ≤ left
  · have d1 : decide (left - (xs.length : Int) < 0) = false := by simp; omega
    go_enter Try.func7, Try.ntmps7
    go_wp2
    go_loopw [1, 5] (fun l i wr => ∃ k : Nat, k ≤ xs.length ∧ i = .int .i64 k ∧ l = .int .i64 (left - (xs.length : Int) - (Strs.tot ((texts xs).take k) : Int)) ∧ 0 ≤ left - (xs.length : Int) - (Strs.tot ((texts xs).take k) : Int) ∧ Below w.heap.size w wr) (fun _ i _ => xs.length - (intOf i).toNat)
    case atStart => exact ⟨0, by omega, rfl, by simp [Strs.tot], by simp [Strs.tot]; omega, Below.refl _ _⟩
    case round =>
      obtain ⟨k, hk, rfl, rfl, hle, hbw⟩ := hrel
      by_cases hlt : k < xs.length
      · obtain ⟨b, off, rfl, hb, hc⟩ := ha (by omega)
        obtain ⟨p0, p1, p2, p3⟩ := cells4 (fun j u hu => (cells_of hbw b _ hb).trans (hc j u hu)) hlt
        have hsz := hs xs[k] (List.getElem_mem hlt)
        have hsz' := hsz
        simp only [maxLen] at hsz
        have hon := Lib.hid (show Strs.tot ((texts xs).take (k + 1)) = Strs.tot ((texts xs).take k) + xs[k].t.size by rw [List.take_succ_eq_append_getElem (by simpa using hlt), Strs.tot_snoc]; simp)
        have ht := Strs.tot_take (texts xs) (k + 1)
        rw [hon.out] at ht
        clear hc ha hs
        generalize Strs.tot ((texts xs).take k) = t at *
        have hc1 := Lib.hid (sz_one xs[k] (left - (xs.length : Int) - (t : Int)) hsz' hle (by omega))
        clear hsz'
        by_cases hneg : (xs[k].t.size : Int) ≤ left - (xs.length : Int) - (t : Int)
        · rw [if_pos hneg] at hc1
          have d2 : decide (left - (xs.length : Int) - (t : Int) - (xs[k].t.size : Int) < 0) = false := by simp; omega
          clear ht
          go_wp2_with fail
          refine (hc1.out _).mono ?_
          rintro e w2 ⟨rfl, hb2⟩
          have hbx := hbw.trans (hb2.mono hbw.size)
          clear p0 p1 p2 p3 hc1
          go_wp2
          go_roundw
          case rel => exact ⟨k + 1, by omega, by go_num, by rw [hon.out]; go_num, by rw [hon.out]; omega, hbx⟩
          case measure => simp [intOf]; omega
        · rw [if_neg hneg] at hc1
          have hv := Lib.hid (show Strs.sz (texts xs) left = -1 by unfold Strs.sz; rw [if_neg (by omega)])
          clear ht
          go_wp2_with fail
          refine (hc1.out _).mono ?_
          rintro e w2 ⟨rfl, hb2⟩
          have hbx := hbw.trans (hb2.mono hbw.size)
          clear p0 p1 p2 p3 hc1
          go_wp2
          go_ret
          exact ⟨by rw [hv.out]; rfl, hbx⟩
      · have hv := Lib.hid (show Strs.sz (texts xs) left = left - (xs.length : Int) - (Strs.tot ((texts xs).take k) : Int) by
          rw [List.take_of_length_le (by omega)] at hle ⊢
          unfold Strs.sz; rw [hlen, if_pos (by omega)])
        go_wp2
        go_ret
        exact ⟨by rw [hv.out]; rfl, hbw⟩
  · have hv := Lib.hid (show Strs.sz (texts xs) left = -1 by unfold Strs.sz; rw [hlen, if_neg (by omega)])
    have d1 : decide (left - (xs.length : Int) < 0) = true := by simp; omega
    go_enter Try.func7, Try.ntmps7
    go_wp2
    go_ret
    exact ⟨by rw [hv.out]; rfl, Below.refl _ _⟩
end Go.Proofs.Ytfhigagbipkipaa.Sign
