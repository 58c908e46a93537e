/-
  The contracts of impl.nextOf and spec.l10Next: the values counted on, in place.
  Conditions: the piece reads as a piece in the world w0; the values lie in a slice laid after w0; as many values as rules.
-/
import Derived.Test.YtlakellmdcdaaaaPc2
import Derived.Test.YtlakellmdcdaaaaOwnSet
namespace Go.Proofs.Ytlakellmdcdaaaa.Pc
open Go.RowKit Go.Proofs.Ytlakellmdcdaaaa.Row Go.Proofs.Ytlakellmdcdaaaa.Mem Go.Proofs.Ytlakellmdcdaaaa.Mix Go.Proofs.Ytlakellmdcdaaaa.Recs Go.Proofs.Ytlakellmdcdaaaa.Owns Go.Proofs.Ytlakellmdcdaaaa.Blocks Go.Proofs.Ytlakellmdcdaaaa.Piece Go.Proofs.Ytlakellmdcdaaaa.All Go.Proofs.Ytlakellmdcdaaaa.Ints
def nextTo (p : P) : Nat → List Int → List Int × Bool
  | 0, xs => (xs, false)
  | k + 1, xs => if wrap64 (valAt xs k + 1) < (ruleAt p k).v then (xs.set k (wrap64 (valAt xs k + 1)), true) else nextTo p k (xs.set k 0)
theorem nextTo_len (p : P) : ∀ (k : Nat) (xs : List Int), (nextTo p k xs).1.length = xs.length
  | 0, _ => rfl
  | k + 1, xs => by
    unfold nextTo
    split
    · simp
    · rw [nextTo_len p k]; simp
theorem ints_set (xs : List Int) (k : Nat) (u : Int) : (ints xs).set k (.int .i64 u) = ints (xs.set k u) := by simp [ints, List.map_set]
set_option maxRecDepth 100000 in
set_option maxHeartbeats 3200000 in
theorem impl_next {p : P} {r c s t v : Value} {xs : List Int} {w0 w : World} (h : PRow w0 p r c s t) (hB : Below w0.heap.size w0 w) (hl : xs.length = p.rules.length) (ho : w.ownsRow w0.heap.size 3 1 v xs.length (ints xs)) :
    Calls Try.prog 86 #[pv p.ind r c s t, v] w fun e w' => e = .returned (.bool (nextTo p xs.length xs).2) ∧ w'.ownsRow w0.heap.size 3 1 v xs.length (ints (nextTo p xs.length xs).1) ∧ w.grownBy w' v.ownBlock := by
  obtain ⟨⟨A1, m1, rfl⟩, ⟨A2, m2, rfl⟩, ⟨A3, m3, rfl⟩, ⟨A4, m4, rfl⟩⟩ := h.lits
  obtain ⟨A, c1, e1, -, hn, hnc, hcm, ha⟩ := h.rules
  injection e1 with ea el ec
  subst ea ec
  obtain ⟨Av, cv, rfl, -, vn, vnc, vcm, -⟩ := row_of_owns ho
  clear el h
  have hs := hB.size
  have hobl := Lib.hid (fun q hq => (ho.lt q hq).2)
  replace hl := Lib.hid hl
  go_enter Try.func86, Try.ntmps86
  go_wp2
  go_loopw [5] (fun i wr => ∃ (j : Int) (k : Nat) (ys : List Int), k ≤ xs.length ∧ j = (k : Int) - 1 ∧ i = .int .i64 j ∧ Hid (ys.length = xs.length) ∧ wr.ownsRow w0.heap.size 3 1 (.slice Av xs.length cv) xs.length (ints ys) ∧ Hid (nextTo p k ys = nextTo p xs.length xs) ∧ Hid (w.grownBy wr (Value.slice Av xs.length cv).ownBlock) ∧ w0.heap.size ≤ wr.heap.size ∧ Below w0.heap.size w0 wr ∧ Hid (wr.heap[w.heap.size]? = some (.cells #[.int .i64 p.ind, .slice A1 p.rules.length m1, .slice A2 p.chunks.length m2, .slice A3 p.spans.length m3, .slice A4 p.ties.length m4] 35 (0, 0)))) (fun i _ => (intOf i + 1).toNat)
  case atStart =>
    have ax := (Below.refl w.heap.size w).alloc (Nat.le_refl _) (.cells #[.int .i64 p.ind, .slice A1 p.rules.length m1, .slice A2 p.chunks.length m2, .slice A3 p.spans.length m3, .slice A4 p.ties.length m4] 35)
    exact ⟨_, xs.length, xs, by omega, rfl, by go_num, Lib.hid rfl, own_below ho ax, Lib.hid rfl, Lib.hid ⟨ax.os, ax.tape, ax.output, ax.size, fun i hi _ => ax.block i hi⟩, by simp; omega, hB.trans (ax.mono hs), Lib.hid (heap_alloc_new w _)⟩
  case round =>
    obtain ⟨j, k, ys, hk, hj, rfl, hyl, hown, hnx, hgr, hws, hbw, hbx⟩ := hrel
    rcases k with _ | k
    · have hj0 : j < 0 := by omega
      have dj : decide (0 ≤ j) = false := by simp; omega
      clear hj
      go_wp2
      go_ret
      have hnx := hnx.out
      rw [← hnx]
      refine ⟨rfl, hown, hgr.out⟩
    · obtain rfl : j = (k : Int) := by omega
      clear hj
      have hky : k < ys.length := by rw [hyl.out]; omega
      have hlt2 : k < p.rules.length := by rw [← hl.out]; omega
      obtain ⟨g, rfl, hg0, hgl, hgc, hgf⟩ := owns_open hown (by omega)
      have hgw := hobl.out g rfl
      have y0 := hgc k _ (at_one hky .i64)
      have f0 := hgf k
      have hne : g ≠ w.heap.size := by omega
      have hos := owns_set hown k (.int .i64 (wrap64 (ys[k] + 1)))
      rw [ints_set] at hos
      have hgs := grown_set hgr.out k (.int .i64 (wrap64 (ys[k] + 1)))
      have hbs := hbw.setCell (p := ⟨g, k, none⟩) hg0 (.int .i64 (wrap64 (ys[k] + 1)))
      have hxs := (Below.heap_setCell wr ⟨g, k, none⟩ (.int .i64 (wrap64 (ys[k] + 1))) w.heap.size (by simp; omega)).trans hbx.out
      generalize hW1 : wr.setCell ⟨g, k, none⟩ (.int .i64 (wrap64 (ys[k] + 1))) = W1 at hos hgs hbs hxs
      replace hW1 := Lib.hid hW1
      obtain ⟨b, off, rfl, hb, hc⟩ := ha (by omega)
      have z1 := Nat.lt_of_lt_of_le hb hbs.size
      obtain ⟨c0, c1⟩ := Rule.cells_ (fun j u hu => (cells_of hbs b _ hb).trans (hc j u hu)) hlt2
      clear hc ha c1
      obtain ⟨g', e', hg1, hgl1, hgc1, hgf1⟩ := owns_open hos (by omega)
      cases e'
      have hys : (ys.set k (wrap64 (ys[k] + 1)))[k]? = some (wrap64 (ys[k] + 1)) := by simp [hky]
      have y1 := hgc1 k (.int .i64 (wrap64 (ys[k] + 1))) (by rw [ints, List.getElem?_map, hys]; rfl)
      have f1 := hgf1 k
      have hs0 := blk_lt hxs
      obtain ⟨x0, x1, x2, x3, x4⟩ := blk5 hxs
      clear x0 x2 x3 x4 hgc hgf hgc1 hgf1 hys
      have i0 : (0 : Int) ≤ (k : Int) := by omega
      have i1 : (k : Int) < (xs.length : Int) := by omega
      have i2 : (k : Int) < (p.rules.length : Int) := by omega
      have hva := Lib.hid (valAt_eq hky)
      have hra := Lib.hid (ruleAt_eq hlt2)
      have hwr : IntKind.i64.wrap (ys[k] + 1) = wrap64 (ys[k] + 1) := wrap_eq _
      clear hg1 hbw hown hgr hbx
      replace hos := Lib.hid hos
      replace hgs := Lib.hid hgs
      replace hxs := Lib.hid hxs
      by_cases hlt : wrap64 (ys[k] + 1) < p.rules[k].v
      · have hnx' : Hid (nextTo p xs.length xs = (ys.set k (wrap64 (ys[k] + 1)), true)) := Lib.hid (by rw [← hnx.out, nextTo, hva.out, hra.out, if_pos hlt])
        clear hnx
        go_wp2
        rw [hW1.out]
        refine wp_region_below [(0, true), (1, true), (2, true), (3, true), (4, true), (5, true), (6, true), (7, true), (8, true), (9, true), (10, true)] (by kernel_rfl) (by kernel_rfl) (fun d _ _ _ _ h => by cases d <;> exact h) ?_
        repeat
         (refine mix_still rfl (by rfl) ?_
          apply Exists.intro
          refine ⟨fun w' hS => ?_, ?_⟩
          · (have hS' := cells_of hS; clear hS; go_simp; (try go_bits); first | with_reducible rfl | (refine (if_pos ?_).trans ?_; omega; with_reducible rfl))
          (go_simp; (try go_bits)))
        refine mix_nil ?_
        go_wp2
        go_ret
        rw [hnx'.out]
        exact ⟨rfl, hos.out, grown_drew hgs.out⟩
      · have hnx' : Hid (nextTo p xs.length xs = nextTo p k (ys.set k 0)) := Lib.hid (by rw [← hnx.out, nextTo, hva.out, hra.out, if_neg hlt])
        have hlt' : p.rules[k].v ≤ wrap64 (ys[k] + 1) := by omega
        have dlt : decide (wrap64 (ys[k] + 1) < p.rules[k].v) = false := by simpa using hlt'
        have hot := owns_set (w := W1.drew) hos.out k (.int .i64 0)
        rw [ints_set, List.set_set] at hot
        replace hot := Lib.hid hot
        have hgt := Lib.hid (grown_set (grown_drew hgs.out) k (.int .i64 0))
        have hbt := Lib.hid (hbs.drew.setCell (p := ⟨g, k, none⟩) hg0 (.int .i64 0))
        have hxt := Lib.hid ((Below.heap_setCell W1.drew ⟨g, k, none⟩ (.int .i64 0) w.heap.size (by simp; omega)).trans hxs.out)
        have hst : w0.heap.size ≤ (W1.drew.setCell ⟨g, k, none⟩ (.int .i64 0)).heap.size := hbt.out.size
        clear hnx hbs
        go_wp2
        rw [hW1.out]
        refine wp_region_below [(0, true), (1, true), (2, true), (3, true), (4, true), (5, true), (6, true), (7, true), (8, true), (9, true), (10, true)] (by kernel_rfl) (by kernel_rfl) (fun d _ _ _ _ h => by cases d <;> exact h) ?_
        repeat
         (refine mix_still rfl (by rfl) ?_
          apply Exists.intro
          refine ⟨fun w' hS => ?_, ?_⟩
          · (have hS' := cells_of hS; clear hS; go_simp; (try go_bits); first | with_reducible rfl | (refine (if_pos ?_).trans ?_; omega; with_reducible rfl))
          (go_simp; (try go_bits)))
        refine mix_nil ?_
        go_wp2
        go_roundw
        case rel => exact ⟨_, k, ys.set k 0, by omega, rfl, by go_num, Lib.hid (by rw [List.length_set]; exact hyl.out), hot.out, Lib.hid hnx'.out.symm, hgt, hst, hbt.out, hxt⟩
        case measure => simp [intOf]
set_option maxRecDepth 100000 in
set_option maxHeartbeats 3200000 in
theorem spec_next {p : P} {r c s t v : Value} {xs : List Int} {w0 w : World} (h : PRow w0 p r c s t) (hB : Below w0.heap.size w0 w) (hl : xs.length = p.rules.length) (ho : w.ownsRow w0.heap.size 3 1 v xs.length (ints xs)) :
    Calls Try.prog 84 #[pv p.ind r c s t, v] w fun e w' => e = .returned (.bool (nextTo p xs.length xs).2) ∧ w'.ownsRow w0.heap.size 3 1 v xs.length (ints (nextTo p xs.length xs).1) ∧ w.grownBy w' v.ownBlock := by
  obtain ⟨⟨A1, m1, rfl⟩, ⟨A2, m2, rfl⟩, ⟨A3, m3, rfl⟩, ⟨A4, m4, rfl⟩⟩ := h.lits
  obtain ⟨A, c1, e1, -, hn, hnc, hcm, ha⟩ := h.rules
  injection e1 with ea el ec
  subst ea ec
  obtain ⟨Av, cv, rfl, -, vn, vnc, vcm, -⟩ := row_of_owns ho
  clear el h
  have hs := hB.size
  have hobl := Lib.hid (fun q hq => (ho.lt q hq).2)
  replace hl := Lib.hid hl
  go_enter Try.func84, Try.ntmps84
  go_wp2
  go_loopw [5] (fun i wr => ∃ (j : Int) (k : Nat) (ys : List Int), k ≤ xs.length ∧ j = (k : Int) - 1 ∧ i = .int .i64 j ∧ Hid (ys.length = xs.length) ∧ wr.ownsRow w0.heap.size 3 1 (.slice Av xs.length cv) xs.length (ints ys) ∧ Hid (nextTo p k ys = nextTo p xs.length xs) ∧ Hid (w.grownBy wr (Value.slice Av xs.length cv).ownBlock) ∧ w0.heap.size ≤ wr.heap.size ∧ Below w0.heap.size w0 wr ∧ Hid (wr.heap[w.heap.size]? = some (.cells #[.int .i64 p.ind, .slice A1 p.rules.length m1, .slice A2 p.chunks.length m2, .slice A3 p.spans.length m3, .slice A4 p.ties.length m4] 35 (0, 0)))) (fun i _ => (intOf i + 1).toNat)
  case atStart =>
    have ax := (Below.refl w.heap.size w).alloc (Nat.le_refl _) (.cells #[.int .i64 p.ind, .slice A1 p.rules.length m1, .slice A2 p.chunks.length m2, .slice A3 p.spans.length m3, .slice A4 p.ties.length m4] 35)
    exact ⟨_, xs.length, xs, by omega, rfl, by go_num, Lib.hid rfl, own_below ho ax, Lib.hid rfl, Lib.hid ⟨ax.os, ax.tape, ax.output, ax.size, fun i hi _ => ax.block i hi⟩, by simp; omega, hB.trans (ax.mono hs), Lib.hid (heap_alloc_new w _)⟩
  case round =>
    obtain ⟨j, k, ys, hk, hj, rfl, hyl, hown, hnx, hgr, hws, hbw, hbx⟩ := hrel
    rcases k with _ | k
    · have hj0 : j < 0 := by omega
      have dj : decide (0 ≤ j) = false := by simp; omega
      clear hj
      go_wp2
      go_ret
      have hnx := hnx.out
      rw [← hnx]
      refine ⟨rfl, hown, hgr.out⟩
    · obtain rfl : j = (k : Int) := by omega
      clear hj
      have hky : k < ys.length := by rw [hyl.out]; omega
      have hlt2 : k < p.rules.length := by rw [← hl.out]; omega
      obtain ⟨g, rfl, hg0, hgl, hgc, hgf⟩ := owns_open hown (by omega)
      have hgw := hobl.out g rfl
      have y0 := hgc k _ (at_one hky .i64)
      have f0 := hgf k
      have hne : g ≠ w.heap.size := by omega
      obtain ⟨b, off, rfl, hb, hc⟩ := ha (by omega)
      have z1 := Nat.lt_of_lt_of_le hb hbw.size
      obtain ⟨c0, c1⟩ := Rule.cells_ (fun j u hu => (cells_of hbw b _ hb).trans (hc j u hu)) hlt2
      clear hc ha c1
      have hs0 := blk_lt hbx.out
      obtain ⟨x0, x1, x2, x3, x4⟩ := blk5 hbx.out
      clear x0 x2 x3 x4 hgc hgf
      have i0 : (0 : Int) ≤ (k : Int) := by omega
      have i1 : (k : Int) < (xs.length : Int) := by omega
      have i2 : (k : Int) < (p.rules.length : Int) := by omega
      have hva := Lib.hid (valAt_eq hky)
      have hra := Lib.hid (ruleAt_eq hlt2)
      have hwr : IntKind.i64.wrap (ys[k] + 1) = wrap64 (ys[k] + 1) := wrap_eq _
      replace hown := Lib.hid hown
      by_cases hlt : wrap64 (ys[k] + 1) < p.rules[k].v
      · have hnx' : Hid (nextTo p xs.length xs = (ys.set k (wrap64 (ys[k] + 1)), true)) := Lib.hid (by rw [← hnx.out, nextTo, hva.out, hra.out, if_pos hlt])
        have hot := owns_set (w := wr.drew) hown.out k (.int .i64 (wrap64 (ys[k] + 1)))
        rw [ints_set] at hot
        replace hot := Lib.hid hot
        have hgt := Lib.hid (grown_set (grown_drew hgr.out) k (.int .i64 (wrap64 (ys[k] + 1))))
        clear hnx hgr hbw hbx
        go_wp2
        refine wp_region_below [(0, true), (1, true), (2, true), (3, true), (4, true), (5, true), (6, true), (7, true), (8, true), (9, true), (10, true), (11, true)] (by kernel_rfl) (by kernel_rfl) (fun d _ _ _ _ h => by cases d <;> exact h) ?_
        repeat
         (refine mix_still rfl (by rfl) ?_
          apply Exists.intro
          refine ⟨fun w' hS => ?_, ?_⟩
          · (have hS' := cells_of hS; clear hS; go_simp; (try go_bits); first | with_reducible rfl | (refine (if_pos ?_).trans ?_; omega; with_reducible rfl))
          (go_simp; (try go_bits)))
        refine mix_nil ?_
        go_wp2
        go_ret
        rw [hnx'.out]
        exact ⟨rfl, hot.out, hgt.out⟩
      · have hnx' : Hid (nextTo p xs.length xs = nextTo p k (ys.set k 0)) := Lib.hid (by rw [← hnx.out, nextTo, hva.out, hra.out, if_neg hlt])
        have hlt' : p.rules[k].v ≤ wrap64 (ys[k] + 1) := by omega
        have dlt : decide (wrap64 (ys[k] + 1) < p.rules[k].v) = false := by simpa using hlt'
        have hot := owns_set (w := wr.drew) hown.out k (.int .i64 0)
        rw [ints_set] at hot
        replace hot := Lib.hid hot
        have hgt := Lib.hid (grown_set (grown_drew hgr.out) k (.int .i64 0))
        have hbt := Lib.hid (hbw.drew.setCell (p := ⟨g, k, none⟩) hg0 (.int .i64 0))
        have hxt := Lib.hid ((Below.heap_setCell wr.drew ⟨g, k, none⟩ (.int .i64 0) w.heap.size (by simp; omega)).trans hbx.out)
        have hst : w0.heap.size ≤ (wr.drew.setCell ⟨g, k, none⟩ (.int .i64 0)).heap.size := hbt.out.size
        clear hnx hbw hgr hbx
        go_wp2
        refine wp_region_below [(0, true), (1, true), (2, true), (3, true), (4, true), (5, true), (6, true), (7, true), (8, true), (9, true), (10, true), (11, true)] (by kernel_rfl) (by kernel_rfl) (fun d _ _ _ _ h => by cases d <;> exact h) ?_
        repeat
         (refine mix_still rfl (by rfl) ?_
          apply Exists.intro
          refine ⟨fun w' hS => ?_, ?_⟩
          · (have hS' := cells_of hS; clear hS; go_simp; (try go_bits); first | with_reducible rfl | (refine (if_pos ?_).trans ?_; omega; with_reducible rfl))
          (go_simp; (try go_bits)))
        refine mix_nil ?_
        go_wp2
        go_roundw
        case rel => exact ⟨_, k, ys.set k 0, by omega, rfl, by go_num, Lib.hid (by rw [List.length_set]; exact hyl.out), hot.out, Lib.hid hnx'.out.symm, hgt, hst, hbt.out, hxt⟩
        case measure => simp [intOf]
end Go.Proofs.Ytlakellmdcdaaaa.Pc
