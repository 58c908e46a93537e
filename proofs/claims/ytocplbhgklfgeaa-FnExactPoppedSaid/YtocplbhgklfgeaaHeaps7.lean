/-
  The contracts of spec.l11Copy and of Pushed and Popped on both sides.
  Conditions: the slices read as states, they are of a size that memory can hold.
-/
import Derived.Test.YtocplbhgklfgeaaHeaps6
import Derived.Test.YtocplbhgklfgeaaMix4
namespace Go.Proofs.Ytocplbhgklfgeaa.States
open Go.RowKit Go.Proofs.Ytocplbhgklfgeaa.Row Go.Proofs.Ytocplbhgklfgeaa.Mem Go.Proofs.Ytocplbhgklfgeaa.Mix Go.Proofs.Ytocplbhgklfgeaa.Ints Go.Proofs.Ytocplbhgklfgeaa.State Go.Proofs.Ytocplbhgklfgeaa.Recs Go.Proofs.Ytocplbhgklfgeaa.Owns Go.Proofs.Ytocplbhgklfgeaa.Blocks Go.Proofs.Ytocplbhgklfgeaa.Sift
theorem apart_of {w w2 : World} {lo b n m : Nat} {v v' : Value} {ys : List S} {us : List Value} (h : HL w lo v n ys) (ho : w2.ownsRow b 3 1 v' m us) (hb : w.heap.size ≤ b) : ∀ y ∈ ys, y.v.ownBlock = none ∨ y.v.ownBlock ≠ v'.ownBlock := fun y hy => by
  cases hq : y.v.ownBlock with
  | none => exact .inl rfl
  | some q =>
    refine .inr (fun e => ?_)
    have h1 := ((h.own.1 y hy).lt q hq).2
    have h2 := (ho.lt q e.symm).1
    omega
theorem HL.far {w w' : World} {lo n r : Nat} {v : Value} {ys : List S} (h : HL w lo v n ys) (k : w.grownBy w' (some r)) (hr : r < lo) : HL w' lo v n ys :=
  ⟨h.len, owns_kept h.row k (fun q hq e => by injection e; have := (h.row.lt q hq).1; omega), fun y hy => owns_kept (h.own.1 y hy) k (fun q hq e => by injection e; have := ((h.own.1 y hy).lt q hq).1; omega), h.own.2⟩
theorem apart_two {w : World} {lo n r : Nat} {v v' : Value} {ys : List S} (h : HL w lo v n ys) (ob : v'.ownBlock = some r ∨ v'.ownBlock = some w.heap.size) (hr : r < lo) : ∀ y ∈ ys, y.v.ownBlock = none ∨ y.v.ownBlock ≠ v'.ownBlock := fun y hy => by
  cases hq : y.v.ownBlock with
  | none => exact .inl rfl
  | some q =>
    refine .inr (fun e => ?_)
    have h1 := (h.own.1 y hy).lt q hq
    rcases ob with ob | ob
    · rw [ob] at e; injection e; omega
    · rw [ob] at e; injection e; omega
theorem apart_pre {w w2 : World} {lo b n m : Nat} {v v' : Value} {ys : List S} {us : List Value} (h : HL w lo v n ys) (ho : w2.ownsRow b 3 1 v' m us) (hb : w2.heap.size ≤ lo) : ∀ y ∈ ys, y.v.ownBlock = none ∨ y.v.ownBlock ≠ v'.ownBlock := fun y hy => by
  cases hq : y.v.ownBlock with
  | none => exact .inl rfl
  | some q =>
    refine .inr (fun e => ?_)
    have h1 := ((h.own.1 y hy).lt q hq).1
    have h2 := (ho.lt q e.symm).2
    omega
theorem one_ints (xs : List Int) : ∀ u ∈ ints xs, u.oneCell' = true := by simp [ints, Value.oneCell']
set_option maxRecDepth 100000 in
set_option maxHeartbeats 3200000 in
theorem spec_copy {v : Value} {xs : List S} {w : World} (h : SRow w v xs) (hn : xs.length ≤ 1048576) (hb8 : ∀ x ∈ xs, x.vals.length * 8 ≤ 140737488355328) :
    Calls Try.prog 21 #[v] w fun e w' => ∃ v' ys, e = .returned v' ∧ ys.map S.abs = xs.map S.abs ∧ HL w' w.heap.size v' xs.length ys ∧ Below w.heap.size w w' := by
  have hrows := Lib.hid h.2
  obtain ⟨⟨A, c, rfl, -, hnl, hnc, hcm, ha⟩, -⟩ := h
  have hf : HL (w.alloc (.cells #[] 31)) w.heap.size (.slice (some ⟨w.heap.size, 0, none⟩) 0 0) 0 [] := ⟨rfl, own_empty w 31 2, by simp, by simp⟩
  have hbf := (Below.refl w.heap.size w).alloc (Nat.le_refl _) (.cells #[] 31)
  replace hf := Lib.hid hf
  replace hbf := Lib.hid hbf
  replace hb8 := Lib.hid hb8
  go_enter Try.func21, Try.ntmps21
  go_wp2
  go_loopw [3, 4] (fun o i wr => ∃ (k : Nat) (ys : List S), k ≤ xs.length ∧ i = .int .i64 k ∧ Hid (ys.map S.abs = (xs.take k).map S.abs) ∧ HL wr w.heap.size o k ys ∧ Below w.heap.size w wr) (fun _ i _ => xs.length - (intOf i).toNat)
  case atStart => exact ⟨0, [], by omega, rfl, Lib.hid rfl, hf.out, hbf.out⟩
  case round =>
    clear hf hbf
    obtain ⟨k, ys, hk, rfl, hab, hy, hbw⟩ := hrel
    by_cases hlt : k < xs.length
    · obtain ⟨b, off, rfl, hb, hc⟩ := ha (by omega)
      obtain ⟨p0, p1⟩ := cells_ (fun j u hu => (cells_of hbw b _ hb).trans (hc j u hu)) hlt
      have hvr : VRow wr xs[k] := (hrows.out _ (List.getElem_mem hlt)).below hbw
      have hv := hb8.out _ (List.getElem_mem hlt)
      have hnew := Lib.hid (List.take_succ_eq_append_getElem hlt)
      obtain ⟨x, hx⟩ : ∃ x, xs[k] = x := ⟨_, rfl⟩
      rw [hx] at p0 p1 hvr hv hnew
      obtain ⟨Ax, cx, hxv⟩ := lit hvr
      rcases x with ⟨xv, xl, xm⟩
      obtain rfl : xv = .slice Ax xl.length cx := hxv
      replace hx := Lib.hid hx
      have hv2 : xl.length * 8 ≤ 140737488355328 := hv
      have al := (Below.refl wr.drew.heap.size wr.drew).alloc (Nat.le_refl _) (.cells #[] 3)
      obtain ⟨v', w2, hrun, ov, b2, -, -⟩ := append_row EI (w0 := wr.drew) (own_empty wr.drew 3 1) al (show Row _ (.slice Ax xl.length cx) 1 xl.length (ints xl) from Row.below (Row.below hvr (to_drew wr _)) al) (one_ints xl) (by simp only [maxLen]; omega) (by omega)
      rw [Nat.zero_add, List.nil_append] at ov
      have bx := of_drew b2
      obtain ⟨A', c', rfl, -⟩ := row_of_owns ov
      obtain ⟨q, cap, w3, hrun2, hL, hB3, -⟩ := HL.push (x := ⟨.slice A' xl.length c', xl, xm⟩) (hy.below bx) (hbw.trans (bx.mono hbw.size)) (own_mono ov hbw.size) (apart_of hy ov (Nat.le_refl _)) (by omega) w2.heap.size rfl rfl
      have hab2 : Hid ((ys ++ [(⟨.slice A' xl.length c', xl, xm⟩ : S)]).map S.abs = (xs.take (k + 1)).map S.abs) := Lib.hid (by rw [hnew.out, List.map_append, List.map_append, hab.out]; rfl)
      obtain ⟨Ao, co, rfl, -⟩ := row_of_owns hy.row
      have zb := Nat.lt_of_lt_of_le hb hbw.size
      have i0 : (0 : Int) ≤ (k : Int) := by omega
      have i1 : (k : Int) < (xs.length : Int) := by omega
      replace hL := Lib.hid hL
      replace hB3 := Lib.hid hB3
      replace hy := Lib.hid hy
      replace hbw := Lib.hid hbw
      replace ov := Lib.hid ov
      replace bx := Lib.hid bx
      clear hc ha al hvr hv hv2 b2
      go_wp2
      refine wp_region_below [(0, true), (2, true), (3, true), (4, true), (5, true), (6, true), (8, true), (9, true), (10, true), (11, true), (12, true), (1, false), (7, false), (13, true), (14, false), (15, false), (16, false)] (by kernel_rfl) (by kernel_rfl) (fun d _ _ _ _ h => by cases d <;> exact h) ?_
      repeat
       (refine mix_still rfl (by rfl) ?_
        apply Exists.intro
        refine ⟨fun w' hS => ?_, ?_⟩
        · (have hS' := cells_of hS; clear hS; go_simp; (try go_bits); first | with_reducible rfl | (refine (if_pos ?_).trans ?_; omega; with_reducible rfl))
        (go_simp; (try go_bits)))
      refine mix_loud rfl (fun K hK => ?_)
      (go_simp; (try go_bits))
      refine hK _ _ (fun _ => (to_drew _ _).alloc (Nat.le_refl _) _) ?_
      clear hK K
      (go_simp; (try go_bits))
      refine mix_loud rfl (fun K hK => ?_)
      refine loud_append rfl rfl hrun ?_
      refine hK _ _ (fun _ => bx.out) ?_
      clear hK K
      (go_simp; (try go_bits))
      repeat
       (refine mix_still rfl (by rfl) ?_
        apply Exists.intro
        refine ⟨fun w' hS => ?_, ?_⟩
        · (have hS' := cells_of hS; clear hS; go_simp; (try go_bits); first | with_reducible rfl | (refine (if_pos ?_).trans ?_; omega; with_reducible rfl))
        (go_simp; (try go_bits)))
      refine mix_loud rfl (fun K hK => ?_)
      (go_simp; (try go_bits))
      refine hK _ _ (fun _ => bx.out.alloc bx.out.size _) ?_
      clear hK K
      (go_simp; (try go_bits))
      refine mix_loud rfl (fun K hK => ?_)
      refine loud_append rfl rfl hrun2 ?_
      refine hK _ _ (no_need (by kernel_rfl)) ?_
      clear hK K
      (go_simp; (try go_bits))
      refine mix_loud rfl (fun K hK => ?_)
      (go_simp; (try go_bits))
      refine hK _ _ (no_need (by kernel_rfl)) ?_
      clear hK K
      try (go_simp; (try go_bits))
      refine mix_nil ?_
      clear p0 p1
      go_wp2
      go_roundw
      case rel => exact ⟨k + 1, _, by omega, by go_num, hab2, hL.out, hB3.out⟩
      case measure => simp [intOf]; omega
    · obtain rfl : k = xs.length := by omega
      rw [List.take_length] at hab
      replace hy := Lib.hid hy
      go_wp2
      go_ret
      exact ⟨_, ys, rfl, hab.out, hy.out, hbw⟩
set_option maxRecDepth 100000 in
set_option maxHeartbeats 3200000 in
theorem impl_Pushed {v : Value} {xs : List S} {x : S} {w : World} (h : SRow w v xs) (hx : VRow w x) (hn : xs.length ≤ 1048576) (hb8 : ∀ x ∈ xs, x.vals.length * 8 ≤ 140737488355328) (hbx : x.vals.length * 8 ≤ 140737488355328) :
    Calls Try.prog 10 #[v, x.val] w fun e w' => ∃ v' zs, e = .returned v' ∧ zs.map S.abs = pushA (xs.map S.abs) x.abs ∧ HL w' w.heap.size v' (xs.length + 1) zs ∧ Below w.heap.size w w' := by
  obtain ⟨A, c, hv⟩ := lit hx
  rcases x with ⟨xv, xl, xm⟩
  obtain rfl : xv = .slice A xl.length c := hv
  replace hbx : xl.length * 8 ≤ 140737488355328 := hbx
  obtain ⟨Av, cv, hvv⟩ : ∃ Av cv, v = .slice Av xs.length cv := by obtain ⟨Av, cv, e, -⟩ := h.1; exact ⟨_, _, e⟩
  subst hvv
  have aW := (Below.refl w.heap.size w).alloc (Nat.le_refl _) (.cells #[.slice A xl.length c, .int .i64 xm] 31)
  have k0 := heap_alloc_new w (.cells #[.slice A xl.length c, .int .i64 xm] 31)
  obtain ⟨W, hW⟩ : ∃ W, w.alloc (.cells #[.slice A xl.length c, .int .i64 xm] 31) = W := ⟨_, rfl⟩
  rw [hW] at aW k0
  have hl := Lib.hid (h.below aW)
  have hr : Hid (Row W (.slice A xl.length c) 1 xl.length (ints xl)) := Lib.hid (Row.below hx aW)
  have l0 := blk_lt k0
  have sW := Lib.hid aW.size
  replace aW := Lib.hid aW
  replace hW := Lib.hid hW
  obtain ⟨x0, x1⟩ := blk2 k0
  replace k0 := Lib.hid k0
  replace hb8 := Lib.hid hb8
  clear h hx
  go_enter Try.func10, Try.ntmps10
  go_upto_region 1 with fail
  rw [hW.out]
  clear hW
  refine wp_region_below [(0, true), (2, true), (1, false), (3, false), (4, false), (5, false)] (by kernel_rfl) (by kernel_rfl) (fun d _ _ _ _ h => by cases d <;> exact h) ?_
  repeat
   (refine mix_still rfl (by rfl) ?_
    apply Exists.intro
    refine ⟨fun w' hS => ?_, ?_⟩
    · (have hS' := cells_of hS; clear hS; go_simp; (try go_bits); first | with_reducible rfl | (refine (if_pos ?_).trans ?_; omega; with_reducible rfl))
    (go_simp; (try go_bits)))
  refine mix_loud rfl (fun K hK => ?_)
  (go_simp; (try go_bits))
  refine (impl_copy (hl.out.below (to_drew _ _)) hn hb8.out).mono ?_
  rintro _ w2 ⟨v2, ys, rfl, hab, hy, b2⟩
  have bx := of_drew b2
  refine hK _ _ (fun _ => bx) ?_
  clear hK K
  (go_simp; (try go_bits))
  refine mix_loud rfl (fun K hK => ?_)
  (go_simp; (try go_bits))
  refine (impl_copyState (x := ⟨.slice A xl.length c, xl, xm⟩) (Row.below hr.out bx) hbx).mono ?_
  rintro _ w3 ⟨v', rfl, ov, b3⟩
  have bx3 := bx.trans (b3.mono bx.size)
  refine hK _ _ (fun _ => bx3) ?_
  clear hK K
  (go_simp; (try go_bits))
  refine mix_loud rfl (fun K hK => ?_)
  (go_simp; (try go_bits))
  refine (impl_push (w0 := W) (x := ⟨v', xl, xm⟩) (hy.below b3) bx3 (own_mono ov bx.size) (apart_of hy ov (Nat.le_refl _)) (by omega)).mono ?_
  rintro _ w4 ⟨v4, zs, rfl, hzs, hz, b4⟩
  refine hK _ _ (fun _ => b4) ?_
  clear hK K
  (go_simp; (try go_bits))
  refine mix_loud rfl (fun K hK => ?_)
  (go_simp; (try go_bits))
  refine hK _ _ (no_need (by kernel_rfl)) ?_
  clear hK K
  try (go_simp; (try go_bits))
  refine mix_nil ?_
  replace hy := Lib.hid hy
  replace ov := Lib.hid ov
  replace hz := Lib.hid hz
  replace hab := Lib.hid hab
  replace hzs := Lib.hid hzs
  go_wp2
  go_ret
  first | exact ⟨v4, zs, rfl, by rw [hzs.out, hab.out]; rfl, hz.out.mono sW.out, aW.out.trans (b4.mono sW.out)⟩ | exact ⟨v4, rfl, zs, by rw [hzs.out, hab.out]; rfl, hz.out.mono sW.out, aW.out.trans (b4.mono sW.out)⟩
set_option maxRecDepth 100000 in
set_option maxHeartbeats 6400000 in
theorem spec_Pushed {v : Value} {xs : List S} {x : S} {w : World} (h : SRow w v xs) (hx : VRow w x) (hn : xs.length ≤ 1048576) (hb8 : ∀ x ∈ xs, x.vals.length * 8 ≤ 140737488355328) (hbx : x.vals.length * 8 ≤ 140737488355328) :
    Calls Try.prog 7 #[v, x.val] w fun e w' => ∃ v' zs, e = .returned v' ∧ zs.map S.abs = pushA (xs.map S.abs) x.abs ∧ HL w' w.heap.size v' (xs.length + 1) zs ∧ Below w.heap.size w w' := by
  obtain ⟨A, c, hv⟩ := lit hx
  rcases x with ⟨xv, xl, xm⟩
  obtain rfl : xv = .slice A xl.length c := hv
  replace hbx : xl.length * 8 ≤ 140737488355328 := hbx
  obtain ⟨Av, cv, hvv⟩ : ∃ Av cv, v = .slice Av xs.length cv := by obtain ⟨Av, cv, e, -⟩ := h.1; exact ⟨_, _, e⟩
  subst hvv
  have aW := (Below.refl w.heap.size w).alloc (Nat.le_refl _) (.cells #[.slice A xl.length c, .int .i64 xm] 31)
  have k0 := heap_alloc_new w (.cells #[.slice A xl.length c, .int .i64 xm] 31)
  obtain ⟨W, hW⟩ : ∃ W, w.alloc (.cells #[.slice A xl.length c, .int .i64 xm] 31) = W := ⟨_, rfl⟩
  rw [hW] at aW k0
  have hl := Lib.hid (h.below aW)
  have hr : Hid (Row W (.slice A xl.length c) 1 xl.length (ints xl)) := Lib.hid (Row.below hx aW)
  have l0 := blk_lt k0
  have sW := Lib.hid aW.size
  replace aW := Lib.hid aW
  replace hW := Lib.hid hW
  obtain ⟨x0, x1⟩ := blk2 k0
  replace k0 := Lib.hid k0
  replace hb8 := Lib.hid hb8
  clear h hx
  go_enter Try.func7, Try.ntmps7
  go_upto_region 1 with fail
  rw [hW.out]
  clear hW
  refine wp_region_tree (fun w' => Below W.heap.size W w') (.still 0 (.still 3 (.still 4 (.still 6 (.still 7 (.fork 1 (.loud 2 (.loud 5 (.still 8 (.loud 9 (.loud 10 .nil))))) 2 (.loud 1 (.loud 5 (.still 8 (.loud 9 (.loud 10 .nil))))))))))) (by kernel_rfl) (by kernel_rfl) (fun d _ _ _ _ h => by cases d <;> exact h) (to_drew _ _) ?_
  repeat
   (refine tree_still rfl (by rfl) ?_
    apply Exists.intro
    refine ⟨fun w' hS => ?_, ?_⟩
    · (have hS' := cells_of hS; clear hS; go_simp; (try go_bits); with_reducible rfl)
    (go_simp; (try go_bits)))
  clear x0 x1
  refine tree_fork rfl rfl (fun K hK => ?_) (fun K hK => ?_)
  · skip
    (go_simp; (try go_bits))
    refine (spec_copy (hl.out.below (to_drew W W.heap.size)) hn hb8.out).mono ?_
    rintro _ w2 ⟨v2, ys, rfl, hab, hy, b2⟩
    obtain ⟨Ay, cy, rfl, -⟩ := row_of_owns hy.row
    have bc := (to_drew W W.heap.size).trans (b2.mono (to_drew W W.heap.size).size)
    refine hK _ _ bc ?_
    clear hK K
    (go_simp; (try go_bits))
    refine tree_loud rfl (fun K hK => ?_)
    (go_simp; (try go_bits))
    have al := (Below.refl w2.heap.size w2).alloc (Nat.le_refl _) (.cells #[] 3)
    have oe := own_empty w2 3 1
    obtain ⟨w3, hwe⟩ : ∃ w, w2.alloc (.cells #[] 3) = w := ⟨_, rfl⟩
    rw [hwe] at al oe
    have hwd : (w2.alloc (.cells #[] 3)) = w3 := hwe
    rw [hwd]
    have se : w3.heap.size = w2.heap.size + 1 := by rw [← hwe]; simp
    have be := bc.trans (al.mono bc.size)
    refine hK _ _ be ?_
    clear hK K
    (go_simp; (try go_bits))
    refine tree_loud rfl (fun K hK => ?_)
    obtain ⟨v', w4, hrun, ov, b3, gr, ob⟩ := append_row EI (w0 := w2) oe al (show Row _ (.slice A xl.length c) 1 xl.length (ints xl) from Row.below hr.out be) (one_ints xl) (by simp only [maxLen]; omega) (by omega)
    rw [Nat.zero_add, List.nil_append] at ov
    obtain ⟨A', c', rfl, -⟩ := row_of_owns ov
    refine loud_append rfl rfl hrun ?_
    have ba := bc.trans (b3.mono bc.size)
    refine hK _ _ ba ?_
    clear hK K
    (go_simp; (try go_bits))
    repeat
     (refine tree_still rfl (by rfl) ?_
      apply Exists.intro
      refine ⟨fun w' hS => ?_, ?_⟩
      · (have hS' := cells_of hS; clear hS; go_simp; (try go_bits); with_reducible rfl)
      (go_simp; (try go_bits)))
    refine tree_loud rfl (fun K hK => ?_)
    (go_simp; (try go_bits))
    refine (spec_push (w0 := W) (x := ⟨.slice A' xl.length c', xl, xm⟩) (hy.below b3) ba (own_mono ov bc.size) (apart_of hy ov (Nat.le_refl _)) (by omega)).mono ?_
    rintro _ w9 ⟨v9, zs, rfl, hzs, hz, b9⟩
    refine hK _ _ b9 ?_
    clear hK K
    (go_simp; (try go_bits))
    refine tree_loud rfl (fun K hK => ?_)
    (go_simp; (try go_bits))
    refine hK _ _ b9 ?_
    clear hK K
    try (go_simp; (try go_bits))
    refine tree_nil ?_
    replace hz := Lib.hid hz
    replace hab := Lib.hid hab
    replace hzs := Lib.hid hzs
    clear hy ov oe ob hrun
    go_wp2
    go_ret
    first | exact ⟨v9, zs, rfl, by rw [hzs.out, hab.out]; rfl, hz.out.mono sW.out, aW.out.trans (b9.mono sW.out)⟩ | exact ⟨v9, rfl, zs, by rw [hzs.out, hab.out]; rfl, hz.out.mono sW.out, aW.out.trans (b9.mono sW.out)⟩
  · skip
    (go_simp; (try go_bits))
    have al := (Below.refl W.drew.heap.size W.drew).alloc (Nat.le_refl _) (.cells #[] 3)
    have oe := own_empty W.drew 3 1
    obtain ⟨w2, hwe⟩ : ∃ w, W.drew.alloc (.cells #[] 3) = w := ⟨_, rfl⟩
    rw [hwe] at al oe
    have hwd : (W.alloc (.cells #[] 3)).drew = w2 := hwe
    rw [hwd]
    have se : w2.heap.size = W.heap.size + 1 := by rw [← hwe]; simp
    have be := (to_drew W W.heap.size).trans (al.mono (to_drew W W.heap.size).size)
    refine hK _ _ be ?_
    clear hK K
    (go_simp; (try go_bits))
    refine tree_loud rfl (fun K hK => ?_)
    (go_simp; (try go_bits))
    refine (spec_copy (hl.out.below be) hn hb8.out).mono ?_
    rintro _ w3 ⟨v2, ys, rfl, hab, hy, b2⟩
    obtain ⟨Ay, cy, rfl, -⟩ := row_of_owns hy.row
    have bc := be.trans (b2.mono be.size)
    refine hK _ _ bc ?_
    clear hK K
    (go_simp; (try go_bits))
    have oe3 := own_below oe b2
    have al3 := al.trans (b2.mono al.size)
    refine tree_loud rfl (fun K hK => ?_)
    obtain ⟨v', w4, hrun, ov, b3, gr, ob⟩ := append_row EI (w0 := W.drew) oe3 al3 (show Row _ (.slice A xl.length c) 1 xl.length (ints xl) from Row.below hr.out bc) (one_ints xl) (by simp only [maxLen]; omega) (by omega)
    rw [Nat.zero_add, List.nil_append] at ov
    obtain ⟨A', c', rfl, -⟩ := row_of_owns ov
    refine loud_append rfl rfl hrun ?_
    have ba : Below W.heap.size W w4 := of_drew b3
    have hy4 := hy.far (r := W.heap.size) gr (by omega)
    have hd4 := apart_two (r := W.heap.size) hy ob (by omega)
    refine hK _ _ ba ?_
    clear hK K
    (go_simp; (try go_bits))
    repeat
     (refine tree_still rfl (by rfl) ?_
      apply Exists.intro
      refine ⟨fun w' hS => ?_, ?_⟩
      · (have hS' := cells_of hS; clear hS; go_simp; (try go_bits); with_reducible rfl)
      (go_simp; (try go_bits)))
    refine tree_loud rfl (fun K hK => ?_)
    (go_simp; (try go_bits))
    refine (spec_push (w0 := W) (x := ⟨.slice A' xl.length c', xl, xm⟩) (hy4.mono (by omega)) ba ov hd4 (by omega)).mono ?_
    rintro _ w9 ⟨v9, zs, rfl, hzs, hz, b9⟩
    refine hK _ _ b9 ?_
    clear hK K
    (go_simp; (try go_bits))
    refine tree_loud rfl (fun K hK => ?_)
    (go_simp; (try go_bits))
    refine hK _ _ b9 ?_
    clear hK K
    try (go_simp; (try go_bits))
    refine tree_nil ?_
    replace hz := Lib.hid hz
    replace hab := Lib.hid hab
    replace hzs := Lib.hid hzs
    clear hy ov oe oe3 ob hrun se hy4
    go_wp2
    go_ret
    first | exact ⟨v9, zs, rfl, by rw [hzs.out, hab.out]; rfl, hz.out.mono sW.out, aW.out.trans (b9.mono sW.out)⟩ | exact ⟨v9, rfl, zs, by rw [hzs.out, hab.out]; rfl, hz.out.mono sW.out, aW.out.trans (b9.mono sW.out)⟩
end Go.Proofs.Ytocplbhgklfgeaa.States
