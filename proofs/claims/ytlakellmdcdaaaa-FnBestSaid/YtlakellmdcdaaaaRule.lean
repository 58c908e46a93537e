/-
  The contracts of the laws' helpers over Rule: copied, compared, marked.
  Conditions: the slices read as lists of these records.
-/
import Derived.Test.YtlakellmdcdaaaaRecs
import Derived.Test.YtlakellmdcdaaaaInts
import Derived.Test.YtlakellmdcdaaaaStrs
import Derived.Test.YtlakellmdcdaaaaOwns
namespace Go.Proofs.Ytlakellmdcdaaaa.Rule
open Go.RowKit Go.Proofs.Ytlakellmdcdaaaa.Row Go.Proofs.Ytlakellmdcdaaaa.Mem Go.Proofs.Ytlakellmdcdaaaa.Mix Go.Proofs.Ytlakellmdcdaaaa.Recs Go.Proofs.Ytlakellmdcdaaaa.Owns
structure T where
  v : Int
  c : Int
deriving DecidableEq
instance : Inhabited T := ⟨⟨0, 0⟩⟩
def T.cells (x : T) : List Value := [.int .i64 x.v, .int .i64 x.c]
abbrev val (x : T) : Value := .agg #[.int .i64 x.v, .int .i64 x.c]
abbrev cs (xs : List T) : List Value := xs.flatMap T.cells
theorem cells_len (x : T) : x.cells.length = 2 := rfl
theorem at_ {xs : List T} {i : Nat} (h : i < xs.length) : (cs xs)[i * 2 + 0]? = some (.int .i64 xs[i].v) ∧ (cs xs)[i * 2 + 1]? = some (.int .i64 xs[i].c) :=
  ⟨flat_at cells_len xs i 0 h (by omega), flat_at cells_len xs i 1 h (by omega)⟩
theorem cells_ {w : World} {b off : Nat} {xs : List T} (hc : ∀ j u, (cs xs)[j]? = some u → w.cell? ⟨b, off + j, none⟩ = some u) {i : Nat} (h : i < xs.length) :
    w.cell? ⟨b, off + i * 2, none⟩ = some (.int .i64 xs[i].v) ∧ w.cell? ⟨b, off + i * 2 + 1, none⟩ = some (.int .i64 xs[i].c) := by
  obtain ⟨a0, a1⟩ := at_ h
  exact ⟨hc _ _ a0, hc _ _ a1⟩
set_option maxRecDepth 100000 in
set_option maxHeartbeats 400000 in
theorem to_one (x : T) (w : World) : Calls Try.prog 100 #[val x] w fun e w' => e = .returned (val x) ∧ Below w.heap.size w w' := by
  obtain ⟨v, c⟩ := x
  go_enter Try.func100, Try.ntmps100
  go_wp2
  refine bodyPost_ret (v := val ⟨v, c⟩) (by simp [results, Try.results100, go_sem]) rfl ⟨rfl, ?_⟩
  repeat (first | exact Below.refl _ _ | refine Below.setCell ?_ (by simp <;> omega) _ | refine Below.alloc ?_ (by simp <;> omega) _)
set_option maxRecDepth 100000 in
set_option maxHeartbeats 800000 in
theorem eq_one (x y : T) (w : World) : Calls Try.prog 104 #[val x, val y] w fun e w' => e = .returned (.bool (decide (x = y))) ∧ Below w.heap.size w w' := by
  obtain ⟨v, c⟩ := x
  obtain ⟨v2, c2⟩ := y
  go_enter Try.func104, Try.ntmps104
  go_wp2
  all_goals
    go_ret
    refine ⟨by simp_all [Strs.toList_iff], ?_⟩
    repeat (first | exact Below.refl _ _ | assumption | refine Below.setCell ?_ (by first | omega | (simp <;> omega)) _ | refine Below.alloc ?_ (by first | omega | (simp <;> omega)) _ | refine Below.drew ?_)
theorem E : Elem Try.prog 30 80 (.agg #[.int .i64 0, .int .i64 0]) 2 16 := ⟨Try.underlying30, by kernel_rfl, rfl, by omega⟩
set_option maxRecDepth 100000 in
set_option maxHeartbeats 800000 in
theorem to_any {v : Value} {xs : List T} {w : World} (h1 : Row w v 2 xs.length (cs xs)) (hb8 : xs.length * 16 ≤ 140737488355328) :
    Calls Try.prog 63 #[v] w fun e w' => e = .returned (.slice (some ⟨w.heap.size, 0, none⟩) xs.length xs.length) ∧
      Own w' (.slice (some ⟨w.heap.size, 0, none⟩) xs.length xs.length) 80 2 w.heap.size xs.length (cs xs) ∧ Below w.heap.size w w' := by
  obtain ⟨A, c, rfl, -, hn, hnc, hcm, ha⟩ := h1
  have hmk : ∀ W, (Instr.makeSlice 30 (.int .i64 (xs.length : Int)) (.int .i64 (xs.length : Int))).run Try.prog W = .ok (.slice (some ⟨W.heap.size, 0, none⟩) xs.length xs.length) (W.alloc (.cells (madeCells #[.int .i64 0, .int .i64 0] (xs.length * 2)) 80)) := fun W =>
    make_run E xs.length xs.length (by omega) (by omega) (by simp only [maxLen]; omega) W
  go_enter Try.func63, Try.ntmps63
  go_wp2
  go_loopw [4] (fun i wr => ∃ k : Nat, k ≤ xs.length ∧ i = .int .i64 k ∧ Fill wr w.heap.size 80 2 xs.length k (cs (xs.take k)) ∧ Below w.heap.size w wr) (fun i _ => xs.length - (intOf i).toNat)
  case atStart => exact ⟨0, by omega, rfl, Fill.made w _ (by simp [madeCells]), (Below.refl _ _).alloc (Nat.le_refl _) _⟩
  case round =>
    obtain ⟨k, hk, rfl, hf, hbw⟩ := hrel
    by_cases hlt : k < xs.length
    · obtain ⟨b, off, rfl, hb, hc⟩ := ha (by omega)
      obtain ⟨c0, c1⟩ := cells_ (fun j u hu => (cells_of hbw b _ hb).trans (hc j u hu)) hlt
      clear hc
      go_wp2_with fail
      refine (to_one xs[k] _).mono ?_
      rintro e w2 ⟨rfl, hb2⟩
      have hf2 := hf.below hb2
      have hbw2 := hbw.trans (hb2.mono hbw.size)
      clear hf hbw hb2 c0 c1
      obtain ⟨u0, e0⟩ := hf2.cell (j := k * 2) (by omega)
      obtain ⟨u1, e1⟩ := hf2.cell (j := k * 2 + 1) (by omega)
      have f0 := hf2.frozen (k * 2)
      have f1 := hf2.frozen (k * 2 + 1)
      have hst := Lib.hid (hf2.put hlt xs[k].cells rfl)
      have hwb := Lib.hid (below_setAll (g := w.heap.size) xs[k].cells (k * 2) hbw2 (Nat.le_refl _))
      have htk := Lib.hid (flat_take (f := T.cells) xs k hlt)
      clear hf2 hbw2
      go_wp2
      exact ⟨⟨k + 1, by omega, by go_num, by unfold cs; rw [htk.out]; exact hst.out, hwb.out⟩, by simp [intOf]; omega⟩
    · obtain rfl : k = xs.length := by omega
      have hd := hf.done (by omega)
      rw [List.take_length] at hd
      replace hd := Lib.hid hd
      go_wp2
      go_ret
      exact ⟨rfl, hd.out, hbw⟩
set_option maxRecDepth 100000 in
set_option maxHeartbeats 1600000 in
theorem eq_any {v1 v2 : Value} {xs ys : List T} {w : World} (h1 : Row w v1 2 xs.length (cs xs)) (h2 : Row w v2 2 ys.length (cs ys)) :
    Calls Try.prog 68 #[v1, v2] w fun e w' => e = .returned (.bool (decide (xs = ys))) ∧ Below w.heap.size w w' := by
  obtain ⟨A, c, rfl, -, hn, hnc, hcm, ha⟩ := h1
  obtain ⟨A2, c2, rfl, -, hn2, hnc2, hcm2, ha2⟩ := h2
  by_cases hl : xs.length = ys.length
  · have d1 : (xs.length == ys.length) = true := by simpa using hl
    have d2 : (xs.length != ys.length) = false := by simpa using hl
    have d3 : ((xs.length : Int) != (ys.length : Int)) = false := by simp; omega
    have hle : xs.length ≤ ys.length := by omega
    have hge : ys.length ≤ xs.length := by omega
    replace hl := Lib.hid hl
    go_enter Try.func68, Try.ntmps68
    go_wp2
    go_loopw [5] (fun i wr => ∃ k : Nat, k ≤ xs.length ∧ i = .int .i64 k ∧ Below w.heap.size w wr ∧ Hid (xs.take k = ys.take k)) (fun i _ => xs.length - (intOf i).toNat)
    case atStart => exact ⟨0, by omega, rfl, Below.refl _ _, Lib.hid (by simp)⟩
    case round =>
      obtain ⟨k, hk, rfl, hbw, hr⟩ := hrel
      by_cases hlt : k < xs.length
      · have hlt2 : k < ys.length := by omega
        obtain ⟨b, off, rfl, hb, hc⟩ := ha (by omega)
        obtain ⟨b2, off2, rfl, hb2, hc2⟩ := ha2 (by omega)
        obtain ⟨p0, p1⟩ := cells_ (fun j u hu => (cells_of hbw b _ hb).trans (hc j u hu)) hlt
        obtain ⟨q0, q1⟩ := cells_ (fun j u hu => (cells_of hbw b2 _ hb2).trans (hc2 j u hu)) hlt2
        clear hc hc2 ha ha2
        have i0 : (0 : Int) ≤ (k : Int) := by omega
        have i1 : (k : Int) < (xs.length : Int) := by omega
        have i2 : (k : Int) < (ys.length : Int) := by omega
        have z1 := Nat.lt_of_lt_of_le hb hbw.size
        have z2 := Nat.lt_of_lt_of_le hb2 hbw.size
        by_cases h : xs[k] = ys[k]
        · have e1 : decide (xs[k] = ys[k]) = true := by simpa using h
          have hon := Lib.hid (take_eq hlt hlt2 hr.out h)
          replace h := Lib.hid h
          go_wp2
          refine wp_region_below [(0, true), (1, true), (2, true), (3, true), (4, true), (5, true), (6, true), (7, true), (8, false), (9, false)] (by kernel_rfl) (by kernel_rfl) (fun d _ _ _ _ h => by cases d <;> exact h) ?_
          repeat
           (refine mix_still rfl (by rfl) ?_
            apply Exists.intro
            refine ⟨fun w' hS => ?_, ?_⟩
            · (have hS' := cells_of hS; clear hS; go_simp; (try go_bits); first | with_reducible rfl | (refine (if_pos ?_).trans ?_; omega; with_reducible rfl))
            (go_simp; (try go_bits)))
          refine mix_loud rfl (fun K hK => ?_)
          (go_simp; (try go_bits))
          refine (eq_one xs[k] ys[k] _).mono ?_
          rintro _ w1 ⟨rfl, hb1⟩
          replace hb1 := of_drew hb1
          refine hK _ _ (fun _ => hb1) ?_
          clear hK K
          (go_simp; (try go_bits))
          refine mix_loud rfl (fun K hK => ?_)
          (go_simp; (try go_bits))
          refine hK _ _ (no_need (by kernel_rfl)) ?_
          clear hK K
          try (go_simp; (try go_bits))
          refine mix_nil ?_
          have hbx := hbw.trans (hb1.mono hbw.size)
          clear p0 p1 q0 q1
          go_wp2
          go_roundw
          case rel => exact ⟨k + 1, by omega, by go_num, hbx, hon⟩
          case measure => simp [intOf]; omega
        · have e1 : decide (xs[k] = ys[k]) = false := by simpa using h
          have hne := Lib.hid (show decide (xs = ys) = false by apply decide_eq_false; intro he; exact h (get_eq he hlt hlt2))
          replace h := Lib.hid h
          go_wp2
          refine wp_region_below [(0, true), (1, true), (2, true), (3, true), (4, true), (5, true), (6, true), (7, true), (8, false), (9, false)] (by kernel_rfl) (by kernel_rfl) (fun d _ _ _ _ h => by cases d <;> exact h) ?_
          repeat
           (refine mix_still rfl (by rfl) ?_
            apply Exists.intro
            refine ⟨fun w' hS => ?_, ?_⟩
            · (have hS' := cells_of hS; clear hS; go_simp; (try go_bits); first | with_reducible rfl | (refine (if_pos ?_).trans ?_; omega; with_reducible rfl))
            (go_simp; (try go_bits)))
          refine mix_loud rfl (fun K hK => ?_)
          (go_simp; (try go_bits))
          refine (eq_one xs[k] ys[k] _).mono ?_
          rintro _ w1 ⟨rfl, hb1⟩
          replace hb1 := of_drew hb1
          refine hK _ _ (fun _ => hb1) ?_
          clear hK K
          (go_simp; (try go_bits))
          refine mix_loud rfl (fun K hK => ?_)
          (go_simp; (try go_bits))
          refine hK _ _ (no_need (by kernel_rfl)) ?_
          clear hK K
          try (go_simp; (try go_bits))
          refine mix_nil ?_
          have hbx := hbw.trans (hb1.mono hbw.size)
          clear p0 p1 q0 q1
          go_wp2
          go_ret
          exact ⟨by rw [hne.out]; rfl, hbx⟩
      · have hyes := Lib.hid (show decide (xs = ys) = true by
          apply decide_eq_true
          have := hr.out
          rw [List.take_of_length_le (by omega), List.take_of_length_le (by omega)] at this
          exact this)
        go_wp2
        go_ret
        exact ⟨by rw [hyes.out]; rfl, hbw⟩
  · have d1 : (xs.length == ys.length) = false := by simpa using hl
    have d2 : (xs.length != ys.length) = true := by simpa using hl
    have d3 : ((xs.length : Int) != (ys.length : Int)) = true := by simp; omega
    have hne := Lib.hid (show decide (xs = ys) = false by apply decide_eq_false; intro he; subst he; exact hl rfl)
    replace hl := Lib.hid hl
    go_enter Try.func68, Try.ntmps68
    go_wp2
    go_ret
    exact ⟨by rw [hne.out]; rfl, Below.refl _ _⟩
theorem eq_self {v1 v2 : Value} {xs : List T} {w : World} (h1 : Row w v1 2 xs.length (cs xs)) (h2 : Row w v2 2 xs.length (cs xs)) :
    Calls Try.prog 68 #[v1, v2] w fun e w' => e = .returned (.bool true) ∧ Below w.heap.size w w' :=
  (eq_any h1 h2).mono fun e w' h => ⟨by rw [h.1, decide_eq_true rfl], h.2⟩
set_option maxHeartbeats 400000 in
theorem sz_any {v : Value} {xs : List T} {w : World} (h1 : Row w v 2 xs.length (cs xs)) (left : Int) (h0 : 0 ≤ left) (hm : left ≤ 1048576) :
    Calls Try.prog 58 #[v, .int .i64 left] w fun e w' => e = .returned (.int .i64 (szi xs.length left)) ∧ w = w' := by
  obtain ⟨A, c, rfl, -, hn, -⟩ := h1
  unfold szi
  by_cases h : (xs.length : Int) ≤ left
  · rw [if_pos h]
    have d : decide (left - (xs.length : Int) < 0) = false := by simp; omega
    go_enter Try.func58, Try.ntmps58
    go_wp2
    go_ret
    exact ⟨rfl, rfl⟩
  · rw [if_neg h]
    have d : decide (left - (xs.length : Int) < 0) = true := by simp; omega
    go_enter Try.func58, Try.ntmps58
    go_wp2
    go_ret
    exact ⟨rfl, rfl⟩
/-- the marks: the numbers from k on -/
def mk (k : Nat) : T := ⟨(k : Int), (k : Int) + 1⟩
def mks (k n : Nat) : List T := (List.range n).map fun j => mk (k + j * 2)
theorem mks_succ (k n : Nat) : mks k (n + 1) = mks k n ++ [mk (k + n * 2)] := by simp [mks, List.range_succ]
theorem mks_len (k n : Nat) : (mks k n).length = n := by simp [mks]
set_option maxRecDepth 100000 in
set_option maxHeartbeats 1600000 in
theorem mark_any {v : Value} {n base k : Nat} {us : List Value} {w : World} (h : w.ownsRow base 80 2 v n us) (hk : k + n * 2 ≤ 1099511627776) :
    Calls Try.prog 78 #[v, .int .i64 k] w fun e w' => e = .returned (.int .i64 ((k + n * 2 : Nat) : Int)) ∧ w'.ownsRow base 80 2 v n (cs (mks k n)) ∧ w.grownBy w' v.ownBlock := by
  rcases owns_fill h with ⟨rfl, rfl, rfl⟩ | ⟨g, cap, rfl, hg, hnc, hcm, hf0⟩
  · have e0 : Hid (k + 0 * 2 = k) := Lib.hid (by omega)
    go_enter Try.func78, Try.ntmps78
    go_wp2
    go_loopw [1, 5] (fun q i wr => q = .int .i64 k ∧ i = .int .i64 0 ∧ wr = w) (fun i _ _ => 0)
    case atStart => exact ⟨rfl, rfl, rfl⟩
    case round =>
      obtain ⟨rfl, rfl, rfl⟩ := hrel
      go_wp2
      go_ret
      exact ⟨by rw [e0.out]; rfl, h, World.grownBy.refl _ _⟩
  · clear h
    go_enter Try.func78, Try.ntmps78
    go_wp2
    go_loopw [1, 5] (fun q i wr => ∃ j : Nat, j ≤ n ∧ i = .int .i64 j ∧ q = .int .i64 ((k + j * 2 : Nat) : Int) ∧ Fill wr g 80 2 cap j (cs (mks k j)) ∧ w.grownBy wr (some g)) (fun _ i _ => n - (intOf i).toNat)
    case atStart => exact ⟨0, by omega, rfl, by simp, hf0, World.grownBy.refl _ _⟩
    case round =>
      obtain ⟨j, hj, rfl, rfl, hf, hgw⟩ := hrel
      by_cases hlt : j < n
      · have hjc : j < cap := by omega
        obtain ⟨u0, e0⟩ := hf.cell (j := j * 2) (by omega)
        have f0 := hf.frozen (j * 2)
        obtain ⟨u1, e1⟩ := hf.cell (j := j * 2 + 1) (by omega)
        have f1 := hf.frozen (j * 2 + 1)
        have hst := Lib.hid (hf.put hjc (mk (k + j * 2)).cells rfl)
        have hwb := Lib.hid (grown_setAll (g := g) (mk (k + j * 2)).cells (j * 2) hgw)
        have hsn := Lib.hid (mks_succ k j)
        have hnum := Lib.hid (show ((k + (j + 1) * 2 : Nat) : Int) = ((k + j * 2 : Nat) : Int) + 1 + 1 by omega)
        have hbd : k + j * 2 ≤ 1099511627776 := by
          have : j * 2 ≤ n * 2 := Nat.mul_le_mul (by omega) (Nat.le_refl _)
          omega
        unfold mk T.cells at hst hwb
        generalize k + j * 2 = m at *
        clear hf hgw
        go_wp2
        refine ⟨⟨j + 1, by omega, by go_num, by rw [hnum.out], ?_, ?_⟩, by simp [intOf]; omega⟩
        · unfold cs
          rw [hsn.out, List.flatMap_append, List.flatMap_singleton]
          exact hst.out
        · exact hwb.out
      · obtain rfl : j = n := by omega
        have hd := Lib.hid (owns_of_fill hf hg hnc hcm)
        go_wp2
        go_ret
        exact ⟨rfl, hd.out, hgw⟩
end Go.Proofs.Ytlakellmdcdaaaa.Rule
