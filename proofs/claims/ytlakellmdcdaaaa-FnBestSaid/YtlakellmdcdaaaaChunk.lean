/-
  The contracts of the laws' helpers over Chunk: copied, compared, marked.
  Conditions: the slices read as lists of these records.
-/
import Derived.Test.YtlakellmdcdaaaaRecs
import Derived.Test.YtlakellmdcdaaaaInts
import Derived.Test.YtlakellmdcdaaaaStrs
import Derived.Test.YtlakellmdcdaaaaOwns
import Derived.Test.YtlakellmdcdaaaaSplit
import Derived.Test.YtlakellmdcdaaaaMarkText
import Derived.Test.YtlakellmdcdaaaaBlocks
namespace Go.Proofs.Ytlakellmdcdaaaa.Chunk
open Go.RowKit Go.Proofs.Ytlakellmdcdaaaa.Row Go.Proofs.Ytlakellmdcdaaaa.Mem Go.Proofs.Ytlakellmdcdaaaa.Mix Go.Proofs.Ytlakellmdcdaaaa.Recs Go.Proofs.Ytlakellmdcdaaaa.Owns Go.Proofs.Ytlakellmdcdaaaa.Blocks
structure T where
  t : ByteArray
  r : Int
  f : Int
  s : Bool
  n : Int
deriving DecidableEq
instance : Inhabited T := ⟨⟨ByteArray.empty, 0, 0, false, 0⟩⟩
def T.cells (x : T) : List Value := [.string x.t, .int .i64 x.r, .int .i64 x.f, .bool x.s, .int .i64 x.n]
abbrev val (x : T) : Value := .agg #[.string x.t, .int .i64 x.r, .int .i64 x.f, .bool x.s, .int .i64 x.n]
abbrev cs (xs : List T) : List Value := xs.flatMap T.cells
theorem cells_len (x : T) : x.cells.length = 5 := rfl
theorem at_ {xs : List T} {i : Nat} (h : i < xs.length) : (cs xs)[i * 5 + 0]? = some (.string xs[i].t) ∧ (cs xs)[i * 5 + 1]? = some (.int .i64 xs[i].r) ∧ (cs xs)[i * 5 + 2]? = some (.int .i64 xs[i].f) ∧ (cs xs)[i * 5 + 3]? = some (.bool xs[i].s) ∧ (cs xs)[i * 5 + 4]? = some (.int .i64 xs[i].n) :=
  ⟨flat_at cells_len xs i 0 h (by omega), flat_at cells_len xs i 1 h (by omega), flat_at cells_len xs i 2 h (by omega), flat_at cells_len xs i 3 h (by omega), flat_at cells_len xs i 4 h (by omega)⟩
theorem cells_ {w : World} {b off : Nat} {xs : List T} (hc : ∀ j u, (cs xs)[j]? = some u → w.cell? ⟨b, off + j, none⟩ = some u) {i : Nat} (h : i < xs.length) :
    w.cell? ⟨b, off + i * 5, none⟩ = some (.string xs[i].t) ∧ w.cell? ⟨b, off + i * 5 + 1, none⟩ = some (.int .i64 xs[i].r) ∧ w.cell? ⟨b, off + i * 5 + 2, none⟩ = some (.int .i64 xs[i].f) ∧ w.cell? ⟨b, off + i * 5 + 3, none⟩ = some (.bool xs[i].s) ∧ w.cell? ⟨b, off + i * 5 + 4, none⟩ = some (.int .i64 xs[i].n) := by
  obtain ⟨a0, a1, a2, a3, a4⟩ := at_ h
  exact ⟨hc _ _ a0, hc _ _ a1, hc _ _ a2, hc _ _ a3, hc _ _ a4⟩
def split (x : T) : Split.T := ⟨x.r, x.f, x.s, x.n⟩
theorem ext {x y : T} (h1 : x.t = y.t) (h2 : split x = split y) : x = y := by
  obtain ⟨a, b, c, d, e⟩ := x
  obtain ⟨a2, b2, c2, d2, e2⟩ := y
  simp [split] at h1 h2
  simp [h1, h2]
set_option maxRecDepth 100000 in
set_option maxHeartbeats 800000 in
theorem to_one (x : T) (w : World) : Calls Try.prog 101 #[val x] w fun e w' => e = .returned (val x) ∧ Below w.heap.size w w' := by
  obtain ⟨t, r, f, s, n⟩ := x
  go_enter Try.func101, Try.ntmps101
  go_wp2_with fail
  refine (Split.to_one ⟨r, f, s, n⟩ _).mono ?_
  rintro e w1 ⟨rfl, hb⟩
  obtain ⟨k0, k1, k2, hsz⟩ := three w (.cells #[.string t, .int .i64 r, .int .i64 f, .bool s, .int .i64 n] 113) (.cells #[.string ⟨#[]⟩, .int .i64 0, .int .i64 0, .bool false, .int .i64 0] 95) (.cells #[.string t, .int .i64 0, .int .i64 0, .bool false, .int .i64 0] 95)
  generalize hW : ((w.alloc _).alloc _).alloc _ = W at hb
  have hbw : Below w.heap.size w W := by rw [← hW]; exact below3 w _ _ _
  rw [hW] at k0 k1 k2 hsz
  rw [← hb.block _ (by omega)] at k0 k1 k2
  clear hW
  have hB := Lib.hid (hbw.trans (hb.mono hbw.size))
  obtain ⟨a0, a1, a2, a3, a4⟩ := blk5 k1
  obtain ⟨b0, b1, b2, b3, b4⟩ := blk5 k2
  have f1 : ∀ j, w1.frozen? ⟨w.heap.size + 1, j, none⟩ = false := fun j => by simp [World.frozen?, k1]
  have f2 : ∀ j, w1.frozen? ⟨w.heap.size + 1 + 1, j, none⟩ = false := fun j => by simp [World.frozen?, k2]
  clear k0 k1 k2 hsz hb hbw
  go_wp2
  refine bodyPost_ret (v := val ⟨t, r, f, s, n⟩) (by simp [results, Try.results101, go_sem, a0, a1, a2, a3, a4]) rfl ⟨rfl, ?_⟩
  repeat (first | (with_reducible exact hB.out) | refine Below.setCell ?_ (by simp <;> omega) _)
set_option maxRecDepth 100000 in
set_option maxHeartbeats 800000 in
theorem eq_one (x y : T) (w : World) : Calls Try.prog 105 #[val x, val y] w fun e w' => e = .returned (.bool (decide (x = y))) ∧ Below w.heap.size w w' := by
  by_cases ht : x.t = y.t
  · have hv := Lib.hid (show decide (x = y) = decide (split x = split y) from decide_eq_decide.2 ⟨fun h => by rw [h], fun h => ext ht h⟩)
    obtain ⟨t, r, f, s, n⟩ := x
    obtain ⟨t2, r2, f2, s2, n2⟩ := y
    simp only at ht
    subst ht
    unfold split at hv
    have d1 : (t.toList != t.toList) = false := by simp
    have hc := Lib.hid (Split.eq_one ⟨r, f, s, n⟩ ⟨r2, f2, s2, n2⟩)
    generalize decide ((⟨r, f, s, n⟩ : Split.T) = ⟨r2, f2, s2, n2⟩) = q at *
    cases q
    all_goals
      go_enter Try.func105, Try.ntmps105
      go_wp2_with (go_at_call 123; refine (hc.out _).mono ?_; rintro e w1 ⟨rfl, hb⟩)
      go_ret
      refine ⟨by rw [hv.out]; rfl, ?_⟩
      exact (below2 w _ _).trans (hb.mono (by simp; omega))
  · have hv := Lib.hid (show decide (x = y) = false from decide_eq_false fun h => ht (by rw [h]))
    obtain ⟨t, r, f, s, n⟩ := x
    obtain ⟨t2, r2, f2, s2, n2⟩ := y
    simp only at ht
    have d1 : (t.toList == t2.toList) = false := by simp [Strs.eq_bytes, ht]
    replace ht := Lib.hid ht
    go_enter Try.func105, Try.ntmps105
    go_wp2
    go_ret
    refine ⟨by rw [hv.out]; rfl, ?_⟩
    repeat (first | exact Below.refl _ _ | assumption | refine Below.setCell ?_ (by first | omega | (simp <;> omega)) _ | refine Below.alloc ?_ (by first | omega | (simp <;> omega)) _ | refine Below.drew ?_)
set_option maxRecDepth 100000 in
set_option maxHeartbeats 400000 in
theorem sz_one (x : T) (left : Int) (hs : x.t.size ≤ maxLen) (h0 : 0 ≤ left) (hm : left ≤ 1048576) (w : World) : Calls Try.prog 99 #[val x, .int .i64 left] w fun e w' => e = .returned (.int .i64 (if (x.t.size : Int) ≤ left then left - x.t.size else -1)) ∧ Below w.heap.size w w' := by
  obtain ⟨t, r, f, s, n⟩ := x
  simp only [maxLen] at hs
  by_cases h : (t.size : Int) ≤ left
  · rw [if_pos h]
    have d : decide (left - (t.size : Int) < 0) = false := by simp; omega
    go_enter Try.func99, Try.ntmps99
    go_wp2
    go_ret
    refine ⟨rfl, ?_⟩
    repeat (first | exact Below.refl _ _ | assumption | refine Below.setCell ?_ (by first | omega | (simp <;> omega)) _ | refine Below.alloc ?_ (by first | omega | (simp <;> omega)) _ | refine Below.drew ?_)
  · rw [if_neg h]
    have d : decide (left - (t.size : Int) < 0) = true := by simp; omega
    go_enter Try.func99, Try.ntmps99
    go_wp2
    go_ret
    refine ⟨rfl, ?_⟩
    repeat (first | exact Below.refl _ _ | assumption | refine Below.setCell ?_ (by first | omega | (simp <;> omega)) _ | refine Below.alloc ?_ (by first | omega | (simp <;> omega)) _ | refine Below.drew ?_)
theorem E : Elem Try.prog 31 95 (.agg #[.string ByteArray.empty, .int .i64 0, .int .i64 0, .bool false, .int .i64 0]) 5 48 := ⟨Try.underlying31, by kernel_rfl, rfl, by omega⟩
set_option maxRecDepth 100000 in
set_option maxHeartbeats 800000 in
theorem to_any {v : Value} {xs : List T} {w : World} (h1 : Row w v 5 xs.length (cs xs)) (hb8 : xs.length * 48 ≤ 140737488355328) :
    Calls Try.prog 64 #[v] w fun e w' => e = .returned (.slice (some ⟨w.heap.size, 0, none⟩) xs.length xs.length) ∧
      Own w' (.slice (some ⟨w.heap.size, 0, none⟩) xs.length xs.length) 95 5 w.heap.size xs.length (cs xs) ∧ Below w.heap.size w w' := by
  obtain ⟨A, c, rfl, -, hn, hnc, hcm, ha⟩ := h1
  have hmk : ∀ W, (Instr.makeSlice 31 (.int .i64 (xs.length : Int)) (.int .i64 (xs.length : Int))).run Try.prog W = .ok (.slice (some ⟨W.heap.size, 0, none⟩) xs.length xs.length) (W.alloc (.cells (madeCells #[.string ByteArray.empty, .int .i64 0, .int .i64 0, .bool false, .int .i64 0] (xs.length * 5)) 95)) := fun W =>
    make_run E xs.length xs.length (by omega) (by omega) (by simp only [maxLen]; omega) W
  go_enter Try.func64, Try.ntmps64
  go_wp2
  go_loopw [4] (fun i wr => ∃ k : Nat, k ≤ xs.length ∧ i = .int .i64 k ∧ Fill wr w.heap.size 95 5 xs.length k (cs (xs.take k)) ∧ Below w.heap.size w wr) (fun i _ => xs.length - (intOf i).toNat)
  case atStart => exact ⟨0, by omega, rfl, Fill.made w _ (by simp [madeCells]), (Below.refl _ _).alloc (Nat.le_refl _) _⟩
  case round =>
    obtain ⟨k, hk, rfl, hf, hbw⟩ := hrel
    by_cases hlt : k < xs.length
    · obtain ⟨b, off, rfl, hb, hc⟩ := ha (by omega)
      obtain ⟨c0, c1, c2, c3, c4⟩ := cells_ (fun j u hu => (cells_of hbw b _ hb).trans (hc j u hu)) hlt
      clear hc
      go_wp2_with fail
      refine (to_one xs[k] _).mono ?_
      rintro e w2 ⟨rfl, hb2⟩
      have hf2 := hf.below hb2
      have hbw2 := hbw.trans (hb2.mono hbw.size)
      clear hf hbw hb2 c0 c1 c2 c3 c4
      obtain ⟨u0, e0⟩ := hf2.cell (j := k * 5) (by omega)
      obtain ⟨u1, e1⟩ := hf2.cell (j := k * 5 + 1) (by omega)
      obtain ⟨u2, e2⟩ := hf2.cell (j := k * 5 + 2) (by omega)
      obtain ⟨u3, e3⟩ := hf2.cell (j := k * 5 + 3) (by omega)
      obtain ⟨u4, e4⟩ := hf2.cell (j := k * 5 + 4) (by omega)
      have f0 := hf2.frozen (k * 5)
      have f1 := hf2.frozen (k * 5 + 1)
      have f2 := hf2.frozen (k * 5 + 2)
      have f3 := hf2.frozen (k * 5 + 3)
      have f4 := hf2.frozen (k * 5 + 4)
      have hst := Lib.hid (hf2.put hlt xs[k].cells rfl)
      have hwb := Lib.hid (below_setAll (g := w.heap.size) xs[k].cells (k * 5) hbw2 (Nat.le_refl _))
      have htk := Lib.hid (flat_take (f := T.cells) xs k hlt)
      clear hf2 hbw2
      go_wp2
      exact ⟨⟨k + 1, by omega, by go_num, by unfold cs; rw [htk.out]; exact hst.out, hwb.out⟩, by simp [intOf]; omega⟩
    · obtain rfl : k = xs.length := by omega
      have hd := hf.done (by omega)
      rw [List.take_length] at hd
      replace hd := Lib.hid hd
      go_wp2
      go_ret
      exact ⟨rfl, hd.out, hbw⟩
set_option maxRecDepth 100000 in
set_option maxHeartbeats 1600000 in
theorem eq_any {v1 v2 : Value} {xs ys : List T} {w : World} (h1 : Row w v1 5 xs.length (cs xs)) (h2 : Row w v2 5 ys.length (cs ys)) :
    Calls Try.prog 69 #[v1, v2] w fun e w' => e = .returned (.bool (decide (xs = ys))) ∧ Below w.heap.size w w' := by
  obtain ⟨A, c, rfl, -, hn, hnc, hcm, ha⟩ := h1
  obtain ⟨A2, c2, rfl, -, hn2, hnc2, hcm2, ha2⟩ := h2
  by_cases hl : xs.length = ys.length
  · have d1 : (xs.length == ys.length) = true := by simpa using hl
    have d2 : (xs.length != ys.length) = false := by simpa using hl
    have d3 : ((xs.length : Int) != (ys.length : Int)) = false := by simp; omega
    have hle : xs.length ≤ ys.length := by omega
    have hge : ys.length ≤ xs.length := by omega
    replace hl := Lib.hid hl
    go_enter Try.func69, Try.ntmps69
    go_wp2
    go_loopw [5] (fun i wr => ∃ k : Nat, k ≤ xs.length ∧ i = .int .i64 k ∧ Below w.heap.size w wr ∧ Hid (xs.take k = ys.take k)) (fun i _ => xs.length - (intOf i).toNat)
    case atStart => exact ⟨0, by omega, rfl, Below.refl _ _, Lib.hid (by simp)⟩
    case round =>
      obtain ⟨k, hk, rfl, hbw, hr⟩ := hrel
      by_cases hlt : k < xs.length
      · have hlt2 : k < ys.length := by omega
        obtain ⟨b, off, rfl, hb, hc⟩ := ha (by omega)
        obtain ⟨b2, off2, rfl, hb2, hc2⟩ := ha2 (by omega)
        obtain ⟨p0, p1, p2, p3, p4⟩ := cells_ (fun j u hu => (cells_of hbw b _ hb).trans (hc j u hu)) hlt
        obtain ⟨q0, q1, q2, q3, q4⟩ := cells_ (fun j u hu => (cells_of hbw b2 _ hb2).trans (hc2 j u hu)) hlt2
        clear hc hc2 ha ha2
        have i0 : (0 : Int) ≤ (k : Int) := by omega
        have i1 : (k : Int) < (xs.length : Int) := by omega
        have i2 : (k : Int) < (ys.length : Int) := by omega
        have z1 := Nat.lt_of_lt_of_le hb hbw.size
        have z2 := Nat.lt_of_lt_of_le hb2 hbw.size
        by_cases h : xs[k] = ys[k]
        · have e1 : decide (xs[k] = ys[k]) = true := by simpa using h
          have hon := Lib.hid (take_eq hlt hlt2 hr.out h)
          replace h := Lib.hid h
          go_wp2
          refine wp_region_below [(0, true), (1, true), (2, true), (3, true), (4, true), (5, true), (6, true), (7, true), (8, false), (9, false)] (by kernel_rfl) (by kernel_rfl) (fun d _ _ _ _ h => by cases d <;> exact h) ?_
          repeat
           (refine mix_still rfl (by rfl) ?_
            apply Exists.intro
            refine ⟨fun w' hS => ?_, ?_⟩
            · (have hS' := cells_of hS; clear hS; go_simp; (try go_bits); first | with_reducible rfl | (refine (if_pos ?_).trans ?_; omega; with_reducible rfl))
            (go_simp; (try go_bits)))
          refine mix_loud rfl (fun K hK => ?_)
          (go_simp; (try go_bits))
          refine (eq_one xs[k] ys[k] _).mono ?_
          rintro _ w1 ⟨rfl, hb1⟩
          replace hb1 := of_drew hb1
          refine hK _ _ (fun _ => hb1) ?_
          clear hK K
          (go_simp; (try go_bits))
          refine mix_loud rfl (fun K hK => ?_)
          (go_simp; (try go_bits))
          refine hK _ _ (no_need (by kernel_rfl)) ?_
          clear hK K
          try (go_simp; (try go_bits))
          refine mix_nil ?_
          have hbx := hbw.trans (hb1.mono hbw.size)
          clear p0 p1 p2 p3 p4 q0 q1 q2 q3 q4
          go_wp2
          go_roundw
          case rel => exact ⟨k + 1, by omega, by go_num, hbx, hon⟩
          case measure => simp [intOf]; omega
        · have e1 : decide (xs[k] = ys[k]) = false := by simpa using h
          have hne := Lib.hid (show decide (xs = ys) = false by apply decide_eq_false; intro he; exact h (get_eq he hlt hlt2))
          replace h := Lib.hid h
          go_wp2
          refine wp_region_below [(0, true), (1, true), (2, true), (3, true), (4, true), (5, true), (6, true), (7, true), (8, false), (9, false)] (by kernel_rfl) (by kernel_rfl) (fun d _ _ _ _ h => by cases d <;> exact h) ?_
          repeat
           (refine mix_still rfl (by rfl) ?_
            apply Exists.intro
            refine ⟨fun w' hS => ?_, ?_⟩
            · (have hS' := cells_of hS; clear hS; go_simp; (try go_bits); first | with_reducible rfl | (refine (if_pos ?_).trans ?_; omega; with_reducible rfl))
            (go_simp; (try go_bits)))
          refine mix_loud rfl (fun K hK => ?_)
          (go_simp; (try go_bits))
          refine (eq_one xs[k] ys[k] _).mono ?_
          rintro _ w1 ⟨rfl, hb1⟩
          replace hb1 := of_drew hb1
          refine hK _ _ (fun _ => hb1) ?_
          clear hK K
          (go_simp; (try go_bits))
          refine mix_loud rfl (fun K hK => ?_)
          (go_simp; (try go_bits))
          refine hK _ _ (no_need (by kernel_rfl)) ?_
          clear hK K
          try (go_simp; (try go_bits))
          refine mix_nil ?_
          have hbx := hbw.trans (hb1.mono hbw.size)
          clear p0 p1 p2 p3 p4 q0 q1 q2 q3 q4
          go_wp2
          go_ret
          exact ⟨by rw [hne.out]; rfl, hbx⟩
      · have hyes := Lib.hid (show decide (xs = ys) = true by
          apply decide_eq_true
          have := hr.out
          rw [List.take_of_length_le (by omega), List.take_of_length_le (by omega)] at this
          exact this)
        go_wp2
        go_ret
        exact ⟨by rw [hyes.out]; rfl, hbw⟩
  · have d1 : (xs.length == ys.length) = false := by simpa using hl
    have d2 : (xs.length != ys.length) = true := by simpa using hl
    have d3 : ((xs.length : Int) != (ys.length : Int)) = true := by simp; omega
    have hne := Lib.hid (show decide (xs = ys) = false by apply decide_eq_false; intro he; subst he; exact hl rfl)
    replace hl := Lib.hid hl
    go_enter Try.func69, Try.ntmps69
    go_wp2
    go_ret
    exact ⟨by rw [hne.out]; rfl, Below.refl _ _⟩
theorem eq_self {v1 v2 : Value} {xs : List T} {w : World} (h1 : Row w v1 5 xs.length (cs xs)) (h2 : Row w v2 5 xs.length (cs xs)) :
    Calls Try.prog 69 #[v1, v2] w fun e w' => e = .returned (.bool true) ∧ Below w.heap.size w w' :=
  (eq_any h1 h2).mono fun e w' h => ⟨by rw [h.1, decide_eq_true rfl], h.2⟩
abbrev texts (xs : List T) : List ByteArray := xs.map T.t
set_option maxRecDepth 100000 in
set_option maxHeartbeats 1600000 in
theorem sz_any {v : Value} {xs : List T} {w : World} (h1 : Row w v 5 xs.length (cs xs)) (hs : ∀ x ∈ xs, x.t.size ≤ maxLen) (left : Int) (h0 : 0 ≤ left) (hm : left ≤ 1048576) :
    Calls Try.prog 59 #[v, .int .i64 left] w fun e w' => e = .returned (.int .i64 (Strs.sz (texts xs) left)) ∧ Below w.heap.size w w' := by
  obtain ⟨A, c, rfl, -, hn, hnc, hcm, ha⟩ := h1
  have hlen : (texts xs).length = xs.length := by simp
  by_cases hl : (xs.length : Int) ≤ left
  · have d1 : decide (left - (xs.length : Int) < 0) = false := by simp; omega
    go_enter Try.func59, Try.ntmps59
    go_wp2
    go_loopw [1, 5] (fun l i wr => ∃ k : Nat, k ≤ xs.length ∧ i = .int .i64 k ∧ l = .int .i64 (left - (xs.length : Int) - (Strs.tot ((texts xs).take k) : Int)) ∧ 0 ≤ left - (xs.length : Int) - (Strs.tot ((texts xs).take k) : Int) ∧ Below w.heap.size w wr) (fun _ i _ => xs.length - (intOf i).toNat)
    case atStart => exact ⟨0, by omega, rfl, by simp [Strs.tot], by simp [Strs.tot]; omega, Below.refl _ _⟩
    case round =>
      obtain ⟨k, hk, rfl, rfl, hle, hbw⟩ := hrel
      by_cases hlt : k < xs.length
      · obtain ⟨b, off, rfl, hb, hc⟩ := ha (by omega)
        obtain ⟨p0, p1, p2, p3, p4⟩ := cells_ (fun j u hu => (cells_of hbw b _ hb).trans (hc j u hu)) hlt
        have hsz := hs xs[k] (List.getElem_mem hlt)
        have hsz' := hsz
        simp only [maxLen] at hsz
        have hon := Lib.hid (show Strs.tot ((texts xs).take (k + 1)) = Strs.tot ((texts xs).take k) + xs[k].t.size by rw [List.take_succ_eq_append_getElem (by simpa using hlt), Strs.tot_snoc]; simp)
        have ht := Strs.tot_take (texts xs) (k + 1)
        rw [hon.out] at ht
        clear hc ha hs
        generalize Strs.tot ((texts xs).take k) = t at *
        have hc1 := Lib.hid (sz_one xs[k] (left - (xs.length : Int) - (t : Int)) hsz' hle (by omega))
        clear hsz'
        by_cases hneg : (xs[k].t.size : Int) ≤ left - (xs.length : Int) - (t : Int)
        · rw [if_pos hneg] at hc1
          have d2 : decide (left - (xs.length : Int) - (t : Int) - (xs[k].t.size : Int) < 0) = false := by simp; omega
          clear ht
          go_wp2_with fail
          refine (hc1.out _).mono ?_
          rintro e w2 ⟨rfl, hb2⟩
          have hbx := hbw.trans (hb2.mono hbw.size)
          clear p0 p1 p2 p3 p4 hc1
          go_wp2
          go_roundw
          case rel => exact ⟨k + 1, by omega, by go_num, by rw [hon.out]; go_num, by rw [hon.out]; omega, hbx⟩
          case measure => simp [intOf]; omega
        · rw [if_neg hneg] at hc1
          have hv := Lib.hid (show Strs.sz (texts xs) left = -1 by unfold Strs.sz; rw [if_neg (by omega)])
          clear ht
          go_wp2_with fail
          refine (hc1.out _).mono ?_
          rintro e w2 ⟨rfl, hb2⟩
          have hbx := hbw.trans (hb2.mono hbw.size)
          clear p0 p1 p2 p3 p4 hc1
          go_wp2
          go_ret
          exact ⟨by rw [hv.out]; rfl, hbx⟩
      · have hv := Lib.hid (show Strs.sz (texts xs) left = left - (xs.length : Int) - (Strs.tot ((texts xs).take k) : Int) by
          rw [List.take_of_length_le (by omega)] at hle ⊢
          unfold Strs.sz; rw [hlen, if_pos (by omega)])
        go_wp2
        go_ret
        exact ⟨by rw [hv.out]; rfl, hbw⟩
  · have hv := Lib.hid (show Strs.sz (texts xs) left = -1 by unfold Strs.sz; rw [hlen, if_neg (by omega)])
    have d1 : decide (left - (xs.length : Int) < 0) = true := by simp; omega
    go_enter Try.func59, Try.ntmps59
    go_wp2
    go_ret
    exact ⟨by rw [hv.out]; rfl, Below.refl _ _⟩
/-- the marks: the numbers from k on -/
def mk (k : Nat) : T := ⟨MarkText.mt (k), (k : Int) + 1, (k : Int) + 1 + 1, (((k : Int) + 1 + 1 + 1) % 3 == 0), (k : Int) + 1 + 1 + 1 + 1⟩
def mks (k n : Nat) : List T := (List.range n).map fun j => mk (k + j * 5)
theorem mks_succ (k n : Nat) : mks k (n + 1) = mks k n ++ [mk (k + n * 5)] := by simp [mks, List.range_succ]
theorem mks_len (k n : Nat) : (mks k n).length = n := by simp [mks]
set_option maxRecDepth 100000 in
set_option maxHeartbeats 1600000 in
theorem mark_any {v : Value} {n base k : Nat} {us : List Value} {w : World} (h : w.ownsRow base 95 5 v n us) (h1 : 1 ≤ k) (hk : k + n * 5 ≤ 1099511627776) :
    Calls Try.prog 79 #[v, .int .i64 k] w fun e w' => e = .returned (.int .i64 ((k + n * 5 : Nat) : Int)) ∧ w'.ownsRow base 95 5 v n (cs (mks k n)) ∧ w.grownBy w' v.ownBlock := by
  rcases owns_fill h with ⟨rfl, rfl, rfl⟩ | ⟨g, cap, rfl, hg, hnc, hcm, hf0⟩
  · have e0 : Hid (k + 0 * 5 = k) := Lib.hid (by omega)
    go_enter Try.func79, Try.ntmps79
    go_wp2
    go_loopw [1, 5] (fun q i wr => q = .int .i64 k ∧ i = .int .i64 0 ∧ wr = w) (fun i _ _ => 0)
    case atStart => exact ⟨rfl, rfl, rfl⟩
    case round =>
      obtain ⟨rfl, rfl, rfl⟩ := hrel
      go_wp2
      go_ret
      exact ⟨by rw [e0.out]; rfl, h, World.grownBy.refl _ _⟩
  · clear h
    go_enter Try.func79, Try.ntmps79
    go_wp2
    go_loopw [1, 5] (fun q i wr => ∃ j : Nat, j ≤ n ∧ i = .int .i64 j ∧ q = .int .i64 ((k + j * 5 : Nat) : Int) ∧ Fill wr g 95 5 cap j (cs (mks k j)) ∧ w.grownBy wr (some g)) (fun _ i _ => n - (intOf i).toNat)
    case atStart => exact ⟨0, by omega, rfl, by simp, hf0, World.grownBy.refl _ _⟩
    case round =>
      obtain ⟨j, hj, rfl, rfl, hf, hgw⟩ := hrel
      by_cases hlt : j < n
      · have hsn := Lib.hid (mks_succ k j)
        have hnum := Lib.hid (show ((k + (j + 1) * 5 : Nat) : Int) = ((k + j * 5 : Nat) : Int) + 1 + 1 + 1 + 1 + 1 by omega)
        have hbd : k + j * 5 + 5 ≤ 1099511627776 := by
          have : (j + 1) * 5 ≤ n * 5 := Nat.mul_le_mul (by omega) (Nat.le_refl _)
          omega
        have hb1 : 1 ≤ k + j * 5 := by omega
        have hall : j * 5 + 5 ≤ cap * 5 := by
          have : (j + 1) * 5 ≤ cap * 5 := Nat.mul_le_mul (by omega) (Nat.le_refl _)
          omega
        have hC := fillC_of hf
        clear hf
        generalize k + j * 5 = m at *
        generalize hall0 : cap * 5 = all at *
        replace hall0 := Lib.hid hall0
        replace hC := Lib.hid hC
        replace hgw := Lib.hid hgw
        have hcall := MarkText.mark_any (m) (by omega) (by omega)
        replace hcall := Lib.hid hcall
        go_wp2_with fail
        refine (hcall.out _).mono ?_
        rintro e w2 ⟨rfl, hb2⟩
        replace hC := hC.out.below hb2
        replace hgw := grown_below hgw.out hb2
        clear hcall hb2
        obtain ⟨u0, e0⟩ := hC.cell (j := j * 5) (by omega)
        have f0 := hC.frozen (j * 5)
        obtain ⟨u1, e1⟩ := hC.cell (j := j * 5 + 1) (by omega)
        have f1 := hC.frozen (j * 5 + 1)
        obtain ⟨u2, e2⟩ := hC.cell (j := j * 5 + 2) (by omega)
        have f2 := hC.frozen (j * 5 + 2)
        obtain ⟨u3, e3⟩ := hC.cell (j := j * 5 + 3) (by omega)
        have f3 := hC.frozen (j * 5 + 3)
        obtain ⟨u4, e4⟩ := hC.cell (j := j * 5 + 4) (by omega)
        have f4 := hC.frozen (j * 5 + 4)
        replace hC := hC.put (by omega) (.string (MarkText.mt (m)))
        replace hgw := grown_set hgw (j * 5) (.string (MarkText.mt (m)))
        replace hC := hC.put (by omega) (.int .i64 ((m : Int) + 1))
        replace hgw := grown_set hgw (j * 5 + 1) (.int .i64 ((m : Int) + 1))
        replace hC := hC.put (by omega) (.int .i64 ((m : Int) + 1 + 1))
        replace hgw := grown_set hgw (j * 5 + 2) (.int .i64 ((m : Int) + 1 + 1))
        replace hC := hC.put (by omega) (.bool (((m : Int) + 1 + 1 + 1) % 3 == 0))
        replace hgw := grown_set hgw (j * 5 + 3) (.bool (((m : Int) + 1 + 1 + 1) % 3 == 0))
        replace hC := hC.put (by omega) (.int .i64 ((m : Int) + 1 + 1 + 1 + 1))
        replace hgw := grown_set hgw (j * 5 + 4) (.int .i64 ((m : Int) + 1 + 1 + 1 + 1))
        replace hC := Lib.hid hC
        replace hgw := Lib.hid hgw
        go_wp2
        refine ⟨⟨j + 1, by omega, by go_num, by rw [hnum.out], ?_, hgw.out⟩, by simp [intOf]; omega⟩
        unfold cs
        rw [hsn.out, List.flatMap_append, List.flatMap_singleton]
        have h := hC.out
        rw [← hall0.out] at h
        have h2 := fill_of h (k := j + 1) (by omega) (by omega)
        simpa [mk, T.cells] using h2
      · obtain rfl : j = n := by omega
        have hd := Lib.hid (owns_of_fill hf hg hnc hcm)
        go_wp2
        go_ret
        exact ⟨rfl, hd.out, hgw⟩
end Go.Proofs.Ytlakellmdcdaaaa.Chunk
