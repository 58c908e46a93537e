/-
  The contracts of Popped on both sides.
  Conditions: the slice reads as states, they are of a size that memory can hold.
-/
import Derived.Test.YtocplbhgklfgeaaHeaps7
namespace Go.Proofs.Ytocplbhgklfgeaa.States
open Go.RowKit Go.Proofs.Ytocplbhgklfgeaa.Row Go.Proofs.Ytocplbhgklfgeaa.Mem Go.Proofs.Ytocplbhgklfgeaa.Mix Go.Proofs.Ytocplbhgklfgeaa.Ints Go.Proofs.Ytocplbhgklfgeaa.State Go.Proofs.Ytocplbhgklfgeaa.Recs Go.Proofs.Ytocplbhgklfgeaa.Owns Go.Proofs.Ytocplbhgklfgeaa.Blocks Go.Proofs.Ytocplbhgklfgeaa.Sift
def poppedA (l : List A) : List A × A := if l.length = 0 then ([], ([], 0)) else (popA l, l.getD 0 ([], 0))
theorem HX.far {w w' : World} {lo n q cap r : Nat} {zs : List S} {x : S} (h : HX w lo n q cap zs x) (k : w.grownBy w' (some r)) (hr : r < lo) : HX w' lo n q cap zs x :=
  ⟨h.len, owns_kept h.row k (fun q' hq e => by injection e; have := (h.row.lt q' hq).1; omega), fun y hy => owns_kept (h.own.1 y hy) k (fun q' hq e => by injection e; have := ((h.own.1 y hy).lt q' hq).1; omega), h.own.2⟩
theorem own_none (w : World) (lo : Nat) : OwnS w lo [⟨.slice none 0 0, [], 0⟩] := ⟨fun y hy => by obtain rfl := List.mem_singleton.1 hy; exact own_nil w lo 3 1, by simp⟩
theorem set2_grown (w : World) (R : Nat) (u0 u1 : Value) : w.grownBy ((w.setCell ⟨R, 0, none⟩ u0).setCell ⟨R, 1, none⟩ u1) (some R) := grown_set (grown_set (World.grownBy.refl w _) 0 _) 1 _
set_option maxRecDepth 100000 in
set_option maxHeartbeats 3200000 in
theorem impl_Popped {v : Value} {xs : List S} {w : World} (h : SRow w v xs) (hn : xs.length ≤ 1048576) (hb8 : ∀ x ∈ xs, x.vals.length * 8 ≤ 140737488355328) :
    Calls Try.prog 17 #[v] w fun e w' => ∃ v' m zs y, e = .returned (.tuple #[v', S.val y, .bool (decide (0 < xs.length))]) ∧ (zs.map S.abs, y.abs) = poppedA (xs.map S.abs) ∧ HL w' w.heap.size v' m zs ∧ OwnS w' w.heap.size (zs ++ [y]) ∧ Below w.heap.size w w' := by
  obtain ⟨Av, cv, hvv⟩ : ∃ Av cv, v = .slice Av xs.length cv := by obtain ⟨Av, cv, e, -⟩ := h.1; exact ⟨_, _, e⟩
  subst hvv
  have aW := (Below.refl w.heap.size w).alloc (Nat.le_refl _) (.cells #[.slice none 0 0, .int .i64 0] 31)
  have kR := heap_alloc_new w (.cells #[.slice none 0 0, .int .i64 0] 31)
  obtain ⟨W, hW⟩ : ∃ W, w.alloc (.cells #[.slice none 0 0, .int .i64 0] 31) = W := ⟨_, rfl⟩
  rw [hW] at aW kR
  have hl := Lib.hid (h.below aW)
  have sW := Lib.hid (show W.heap.size = w.heap.size + 1 by rw [← hW]; simp)
  replace aW := Lib.hid aW
  replace hW := Lib.hid hW
  have lR := blk_lt kR
  replace kR := Lib.hid kR
  replace hb8 := Lib.hid hb8
  clear h
  rcases Nat.eq_zero_or_pos xs.length with h0 | h0
  · obtain rfl : xs = [] := List.eq_nil_of_length_eq_zero h0
    go_enter Try.func17, Try.ntmps17
    go_wp2
    refine bodyPost_ret (v := .tuple #[.slice none 0 0, .agg #[.slice none 0 0, .int .i64 0], .bool false]) (by simp [results, Try.results17, go_sem]) rfl ?_
    refine ⟨_, 0, [], ⟨.slice none 0 0, [], 0⟩, rfl, rfl, ⟨rfl, ⟨by simp, .inl ⟨rfl, rfl⟩⟩, by simp, by simp⟩, own_none _ _, ?_⟩
    repeat (first | exact Below.refl _ _ | assumption | refine Below.setCell ?_ (by first | omega | (simp <;> omega)) _ | refine Below.alloc ?_ (by first | omega | (simp <;> omega)) _ | refine Below.drew ?_)
  · obtain ⟨n, hnn⟩ : ∃ n, xs.length = n + 1 := ⟨xs.length - 1, by omega⟩
    have hz : ((xs.length : Int) == 0) = false := beq_eq_false_iff_ne.2 (by omega)
    have hdt := Lib.hid (show decide (0 < xs.length) = true from decide_eq_true h0)
    have hnn2 : Hid (xs.length = n + 1) := Lib.hid hnn
    have hn2 : n ≤ 1048577 := by omega
    clear hnn
    go_enter Try.func17, Try.ntmps17
    go_wp2_with fail
    rw [hW.out]
    refine (impl_copy hl.out hn hb8.out).mono ?_
    rintro e w2 ⟨v2, ys, rfl, hab, hy, b2⟩
    rw [hnn2.out] at hy
    have hy0 : 0 < ys.length := by rw [hy.len]; omega
    obtain ⟨x, hx⟩ : ∃ x, ys[0] = x := ⟨_, rfl⟩
    have hpop := Lib.hid (impl_pop (w0 := W) hy b2 hy0 hx hn2)
    have hpa : Hid (poppedA (xs.map S.abs) = (popA (ys.map S.abs), x.abs)) := Lib.hid (by unfold poppedA; rw [← hab, if_neg (by rw [List.length_map]; omega), abs_getD hy0, hx]; rfl)
    obtain ⟨q2, cap2, rfl, -, -, -⟩ := owns_some hy.row (by omega)
    clear hy hab hW hx hy0
    go_wp2_with fail
    refine hpop.out.mono ?_
    rintro e w3 ⟨q, cap, zs, rfl, hzs, hX, b3⟩
    clear hpop b2
    obtain ⟨Ax, cx, hxv⟩ := lit (hX.own.rows x (List.mem_append_right _ (List.mem_singleton.2 rfl)))
    rcases x with ⟨xv, xl, xm⟩
    obtain rfl : xv = .slice Ax xl.length cx := hxv
    have al := (Below.refl w3.heap.size w3).alloc (Nat.le_refl _) (.cells #[.slice Ax xl.length cx, .int .i64 xm] 31)
    have kF := heap_alloc_new w3 (.cells #[.slice Ax xl.length cx, .int .i64 xm] 31)
    have kR3 := blk_below kR.out b3
    obtain ⟨w4, hw4⟩ : ∃ w4, w3.alloc (.cells #[.slice Ax xl.length cx, .int .i64 xm] 31) = w4 := ⟨_, rfl⟩
    have kR4 := blk_below kR3 al
    rw [hw4] at al kF kR4
    have hX4 := Lib.hid (hX.below al)
    have hB4 := Lib.hid (aW.out.trans ((b3.trans (al.mono b3.size)).mono aW.out.size))
    have lF := blk_lt kF
    have lR4 := blk_lt kR4
    obtain ⟨x0, x1⟩ := blk2 kR4
    have fx := frz kR4
    obtain ⟨y0, y1⟩ := blk2 kF
    replace hw4 := Lib.hid hw4
    replace hX := Lib.hid hX
    replace kR4 := Lib.hid kR4
    replace kF := Lib.hid kF
    replace kR3 := Lib.hid kR3
    replace hzs := Lib.hid hzs
    replace b3 := Lib.hid b3
    clear al lR
    go_upto_region 4 with fail
    rw [hw4.out]
    clear hw4
    refine wp_region_below [(0, true), (1, true), (2, true), (3, false), (4, false)] (by kernel_rfl) (by kernel_rfl) (fun d _ _ _ _ h => by cases d <;> exact h) ?_
    repeat
     (refine mix_still rfl (by rfl) ?_
      apply Exists.intro
      refine ⟨fun w' hS => ?_, ?_⟩
      · (have hS' := cells_of hS; clear hS; go_simp; (try go_bits); first | with_reducible rfl | (refine (if_pos ?_).trans ?_; omega; with_reducible rfl))
      (go_simp; (try go_bits)))
    refine mix_loud rfl (fun K hK => ?_)
    (go_simp; (try go_bits))
    refine hK _ _ (no_need (by kernel_rfl)) ?_
    clear hK K
    try (go_simp; (try go_bits))
    refine mix_loud rfl (fun K hK => ?_)
    (go_simp; (try go_bits))
    refine hK _ _ (no_need (by kernel_rfl)) ?_
    clear hK K
    try (go_simp; (try go_bits))
    refine mix_nil ?_
    go_wp2
    refine bodyPost_ret (v := .tuple #[.slice (some ⟨q, 0, none⟩) n cap, .agg #[.slice Ax xl.length cx, .int .i64 xm], .bool true]) (by simp [results, Try.results17, go_sem, x0, x1]) rfl ?_
    have hX9 := (hX4.out.below (to_drew w4 _)).far (r := w.heap.size) (set2_grown w4.drew w.heap.size (.slice Ax xl.length cx) (.int .i64 xm)) (by have := sW.out; omega)
    exact ⟨_, n, zs, ⟨.slice Ax xl.length cx, xl, xm⟩, by rw [hdt.out], by rw [hpa.out, hzs.out], hX9.hl.mono (by have := sW.out; omega), hX9.own.mono (by have := sW.out; omega), (hB4.out.drew.setCell (p := ⟨w.heap.size, 0, none⟩) (Nat.le_refl _) _).setCell (p := ⟨w.heap.size, 1, none⟩) (Nat.le_refl _) _⟩
set_option maxRecDepth 100000 in
set_option maxHeartbeats 3200000 in
theorem spec_Popped {v : Value} {xs : List S} {w : World} (h : SRow w v xs) (hn : xs.length ≤ 1048576) (hb8 : ∀ x ∈ xs, x.vals.length * 8 ≤ 140737488355328) :
    Calls Try.prog 16 #[v] w fun e w' => ∃ v' m zs y, e = .returned (.tuple #[v', S.val y, .bool (decide (0 < xs.length))]) ∧ (zs.map S.abs, y.abs) = poppedA (xs.map S.abs) ∧ HL w' w.heap.size v' m zs ∧ OwnS w' w.heap.size (zs ++ [y]) ∧ Below w.heap.size w w' := by
  obtain ⟨Av, cv, hvv⟩ : ∃ Av cv, v = .slice Av xs.length cv := by obtain ⟨Av, cv, e, -⟩ := h.1; exact ⟨_, _, e⟩
  subst hvv
  have aW := (Below.refl w.heap.size w).alloc (Nat.le_refl _) (.cells #[.slice none 0 0, .int .i64 0] 31)
  have kR := heap_alloc_new w (.cells #[.slice none 0 0, .int .i64 0] 31)
  obtain ⟨W, hW⟩ : ∃ W, w.alloc (.cells #[.slice none 0 0, .int .i64 0] 31) = W := ⟨_, rfl⟩
  rw [hW] at aW kR
  have hl := Lib.hid (h.below aW)
  have sW := Lib.hid (show W.heap.size = w.heap.size + 1 by rw [← hW]; simp)
  replace aW := Lib.hid aW
  replace hW := Lib.hid hW
  have lR := blk_lt kR
  replace kR := Lib.hid kR
  replace hb8 := Lib.hid hb8
  clear h
  rcases Nat.eq_zero_or_pos xs.length with h0 | h0
  · obtain rfl : xs = [] := List.eq_nil_of_length_eq_zero h0
    go_enter Try.func16, Try.ntmps16
    go_wp2_with fail
    rw [hW.out]
    refine (spec_copy hl.out hn hb8.out).mono ?_
    rintro e w2 ⟨v2, ys, rfl, hab, hy, b2⟩
    obtain ⟨Ay, cy, rfl, -⟩ := row_of_owns hy.row
    obtain rfl : ys = [] := by simpa using hab
    have kr := blk_below kR.out b2
    obtain ⟨x0, x1⟩ := blk2 kr
    have fx := frz kr
    have lx := blk_lt kr
    have hB := Lib.hid (aW.out.trans (b2.mono aW.out.size))
    replace hy := Lib.hid hy
    replace kr := Lib.hid kr
    clear hW b2 hab
    go_wp2
    refine bodyPost_ret (v := .tuple #[.slice Ay 0 cy, .agg #[.slice none 0 0, .int .i64 0], .bool false]) (by simp [results, Try.results16, go_sem, x0, x1, lx]) rfl ?_
    refine ⟨_, 0, [], ⟨.slice none 0 0, [], 0⟩, rfl, rfl, (hy.out.far (r := w.heap.size) (set2_grown _ _ _ _) (by have := sW.out; omega)).mono (by have := sW.out; omega), own_none _ _, (hB.out.setCell (p := ⟨w.heap.size, 0, none⟩) (Nat.le_refl _) _).setCell (p := ⟨w.heap.size, 1, none⟩) (Nat.le_refl _) _⟩
  · obtain ⟨n, hnn⟩ : ∃ n, xs.length = n + 1 := ⟨xs.length - 1, by omega⟩
    have hz : ((xs.length : Int) == 0) = false := beq_eq_false_iff_ne.2 (by omega)
    have hdt := Lib.hid (show decide (0 < xs.length) = true from decide_eq_true h0)
    have hnn2 : Hid (xs.length = n + 1) := Lib.hid hnn
    have hn2 : n ≤ 1048577 := by omega
    clear hnn
    go_enter Try.func16, Try.ntmps16
    go_wp2_with fail
    rw [hW.out]
    refine (spec_copy hl.out hn hb8.out).mono ?_
    rintro e w2 ⟨v2, ys, rfl, hab, hy, b2⟩
    rw [hnn2.out] at hy
    have hy0 : 0 < ys.length := by rw [hy.len]; omega
    obtain ⟨x, hx⟩ : ∃ x, ys[0] = x := ⟨_, rfl⟩
    have hpop := Lib.hid (spec_pop (w0 := W) hy b2 hy0 hx hn2)
    have hpa : Hid (poppedA (xs.map S.abs) = (popA (ys.map S.abs), x.abs)) := Lib.hid (by unfold poppedA; rw [← hab, if_neg (by rw [List.length_map]; omega), abs_getD hy0, hx]; rfl)
    obtain ⟨q2, cap2, rfl, -, -, -⟩ := owns_some hy.row (by omega)
    clear hy hab hW hx hy0
    go_wp2_with fail
    refine hpop.out.mono ?_
    rintro e w3 ⟨q, cap, zs, rfl, hzs, hX, b3⟩
    clear hpop b2
    obtain ⟨Ax, cx, hxv⟩ := lit (hX.own.rows x (List.mem_append_right _ (List.mem_singleton.2 rfl)))
    rcases x with ⟨xv, xl, xm⟩
    obtain rfl : xv = .slice Ax xl.length cx := hxv
    have al := (Below.refl w3.heap.size w3).alloc (Nat.le_refl _) (.cells #[.slice Ax xl.length cx, .int .i64 xm] 31)
    have kF := heap_alloc_new w3 (.cells #[.slice Ax xl.length cx, .int .i64 xm] 31)
    have kR3 := blk_below kR.out b3
    obtain ⟨w4, hw4⟩ : ∃ w4, w3.alloc (.cells #[.slice Ax xl.length cx, .int .i64 xm] 31) = w4 := ⟨_, rfl⟩
    have kR4 := blk_below kR3 al
    rw [hw4] at al kF kR4
    have hX4 := Lib.hid (hX.below al)
    have hB4 := Lib.hid (aW.out.trans ((b3.trans (al.mono b3.size)).mono aW.out.size))
    have lF := blk_lt kF
    have lR4 := blk_lt kR4
    obtain ⟨x0, x1⟩ := blk2 kR4
    have fx := frz kR4
    obtain ⟨y0, y1⟩ := blk2 kF
    replace hw4 := Lib.hid hw4
    replace hX := Lib.hid hX
    replace kR4 := Lib.hid kR4
    replace kF := Lib.hid kF
    replace kR3 := Lib.hid kR3
    replace hzs := Lib.hid hzs
    replace b3 := Lib.hid b3
    clear al lR
    go_upto_region 5 with fail
    rw [hw4.out]
    clear hw4
    refine wp_region_below [(0, true), (1, true), (2, true), (3, false), (4, false)] (by kernel_rfl) (by kernel_rfl) (fun d _ _ _ _ h => by cases d <;> exact h) ?_
    repeat
     (refine mix_still rfl (by rfl) ?_
      apply Exists.intro
      refine ⟨fun w' hS => ?_, ?_⟩
      · (have hS' := cells_of hS; clear hS; go_simp; (try go_bits); first | with_reducible rfl | (refine (if_pos ?_).trans ?_; omega; with_reducible rfl))
      (go_simp; (try go_bits)))
    refine mix_loud rfl (fun K hK => ?_)
    (go_simp; (try go_bits))
    refine hK _ _ (no_need (by kernel_rfl)) ?_
    clear hK K
    try (go_simp; (try go_bits))
    refine mix_loud rfl (fun K hK => ?_)
    (go_simp; (try go_bits))
    refine hK _ _ (no_need (by kernel_rfl)) ?_
    clear hK K
    try (go_simp; (try go_bits))
    refine mix_nil ?_
    go_wp2
    refine bodyPost_ret (v := .tuple #[.slice (some ⟨q, 0, none⟩) n cap, .agg #[.slice Ax xl.length cx, .int .i64 xm], .bool true]) (by simp [results, Try.results16, go_sem, x0, x1]) rfl ?_
    have hX9 := (hX4.out.below (to_drew w4 _)).far (r := w.heap.size) (set2_grown w4.drew w.heap.size (.slice Ax xl.length cx) (.int .i64 xm)) (by have := sW.out; omega)
    exact ⟨_, n, zs, ⟨.slice Ax xl.length cx, xl, xm⟩, by rw [hdt.out], by rw [hpa.out, hzs.out], hX9.hl.mono (by have := sW.out; omega), hX9.own.mono (by have := sW.out; omega), (hB4.out.drew.setCell (p := ⟨w.heap.size, 0, none⟩) (Nat.le_refl _) _).setCell (p := ⟨w.heap.size, 1, none⟩) (Nat.le_refl _) _⟩
end Go.Proofs.Ytocplbhgklfgeaa.States
