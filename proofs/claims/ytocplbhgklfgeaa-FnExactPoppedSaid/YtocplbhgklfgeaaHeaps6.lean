/-
  The contracts of impl.copyState, impl.copyStates, spec.l11Copy, and of slices.Clone at []int for a slice of any kind.
  Conditions: the slices read as states, they are of a size that memory can hold.
-/
import Derived.Test.YtocplbhgklfgeaaHeaps2
import Derived.Test.YtocplbhgklfgeaaHeaps5
import Derived.Test.YtocplbhgklfgeaaShelf
import Derived.Deep.Cut
namespace Go.Proofs.Ytocplbhgklfgeaa.States
open Go.RowKit Go.Proofs.Ytocplbhgklfgeaa.Row Go.Proofs.Ytocplbhgklfgeaa.Mem Go.Proofs.Ytocplbhgklfgeaa.Mix Go.Proofs.Ytocplbhgklfgeaa.Ints Go.Proofs.Ytocplbhgklfgeaa.State Go.Proofs.Ytocplbhgklfgeaa.Recs Go.Proofs.Ytocplbhgklfgeaa.Owns Go.Proofs.Ytocplbhgklfgeaa.Blocks Go.Proofs.Ytocplbhgklfgeaa.Sift
theorem own_nil (w : World) (base e size : Nat) : w.ownsRow base e size (.slice none 0 0) ([] : List Int).length (ints []) := ⟨by simp, .inl ⟨rfl, rfl⟩⟩
theorem clone_any {v : Value} {xs : List Int} {w : World} (h : Row w v 1 xs.length (ints xs)) (hb8 : xs.length * 8 ≤ 140737488355328) :
    Calls Try.prog 34 #[v] w fun e w' => ∃ v', e = .returned v' ∧ w'.ownsRow w.heap.size 3 1 v' xs.length (ints xs) ∧ Below w.heap.size w w' := by
  obtain ⟨A, c, rfl, hl, hn, hnc, hcm, ha⟩ := h
  cases A with
  | none =>
    by_cases h0 : 0 < xs.length
    · obtain ⟨b, off, e, _⟩ := ha h0
      cases e
    · obtain rfl : xs = [] := List.eq_nil_of_length_eq_zero (by omega)
      refine (Try.slices_Clone_int_nil 0 c w).mono ?_
      rintro e w' ⟨rfl, rfl⟩
      exact ⟨_, rfl, own_nil _ _ _ _, Below.refl _ _⟩
  | some a =>
    by_cases h0 : 0 < xs.length
    · obtain ⟨b, off, e, hlt, hc⟩ := ha h0
      cases e
      refine (Try.slices_Clone_int b off xs.length c xs w (Nat.le_refl _) hb8 (fun j hj => hc j _ (by simp [ints, hj]))).mono ?_
      rintro e w' ⟨v', rfl, ho, -, hb⟩
      rw [List.take_length] at ho
      exact ⟨v', rfl, ho, hb⟩
    · obtain rfl : xs = [] := List.eq_nil_of_length_eq_zero (by omega)
      refine (Try.slices_Clone_int_zero a c w).mono ?_
      rintro e w' ⟨v', rfl, ho, -, hb⟩
      exact ⟨v', rfl, ho, hb⟩
set_option maxRecDepth 100000 in
set_option maxHeartbeats 1600000 in
theorem impl_copyState {x : S} {w : World} (hx : VRow w x) (hb8 : x.vals.length * 8 ≤ 140737488355328) :
    Calls Try.prog 25 #[x.val] w fun e w' => ∃ v', e = .returned (.agg #[v', .int .i64 x.sum]) ∧ w'.ownsRow w.heap.size 3 1 v' x.vals.length (ints x.vals) ∧ Below w.heap.size w w' := by
  obtain ⟨A, c, hv⟩ := lit hx
  rcases x with ⟨xv, xl, xs⟩
  obtain rfl : xv = .slice A xl.length c := hv
  obtain ⟨k0, k1, hsz⟩ := Blocks.two w (.cells #[.slice A xl.length c, .int .i64 xs] 31) (.cells #[.slice none 0 0, .int .i64 0] 31)
  have hB := Blocks.below2 w (.cells #[.slice A xl.length c, .int .i64 xs] 31) (.cells #[.slice none 0 0, .int .i64 0] 31)
  have hr := Row.below hx hB
  obtain ⟨W, hW⟩ : ∃ W, (w.alloc (.cells #[.slice A xl.length c, .int .i64 xs] 31)).alloc (.cells #[.slice none 0 0, .int .i64 0] 31) = W := ⟨_, rfl⟩
  rw [hW] at k0 k1 hB hr hsz
  replace hW := Lib.hid hW
  replace hr := Lib.hid hr
  replace hB := Lib.hid hB
  have l0 := blk_lt k0
  have l1 := blk_lt k1
  obtain ⟨x0, x1⟩ := blk2 k0
  replace k0 := Lib.hid k0
  replace k1 := Lib.hid k1
  replace hsz := Lib.hid hsz
  clear hx
  go_enter Try.func25, Try.ntmps25
  go_upto_region 1 with fail
  rw [hW.out]
  clear hW
  refine wp_region_below [(0, true), (1, true), (3, true), (4, true), (2, false), (5, true), (6, false)] (by kernel_rfl) (by kernel_rfl) (fun d _ _ _ _ h => by cases d <;> exact h) ?_
  repeat
   (refine mix_still rfl (by rfl) ?_
    apply Exists.intro
    refine ⟨fun w' hS => ?_, ?_⟩
    · (have hS' := cells_of hS; clear hS; go_simp; (try go_bits); first | with_reducible rfl | (refine (if_pos ?_).trans ?_; omega; with_reducible rfl))
    (go_simp; (try go_bits)))
  refine mix_loud rfl (fun K hK => ?_)
  (go_simp; (try go_bits))
  refine (clone_any (hr.out.below (to_drew _ _)) hb8).mono ?_
  rintro _ w2 ⟨v', rfl, ov, b2⟩
  obtain ⟨A', c', rfl, -⟩ := row_of_owns ov
  have bx := of_drew b2
  have kr := blk_below k1.out bx
  have hBx := Lib.hid (hB.out.trans (bx.mono hB.out.size))
  refine hK _ _ (fun _ => bx) ?_
  clear hK K
  (go_simp; (try go_bits))
  repeat
   (refine mix_still rfl (by rfl) ?_
    apply Exists.intro
    refine ⟨fun w' hS => ?_, ?_⟩
    · (have hS' := cells_of hS; clear hS; go_simp; (try go_bits); first | with_reducible rfl | (refine (if_pos ?_).trans ?_; omega; with_reducible rfl))
    (go_simp; (try go_bits)))
  obtain ⟨y0, y1⟩ := blk2 kr
  have fy := frz kr
  have ly := blk_lt kr
  replace kr := Lib.hid kr
  replace ov := Lib.hid ov
  replace bx := Lib.hid bx
  clear b2
  refine mix_loud rfl (fun K hK => ?_)
  (go_simp; (try go_bits))
  refine hK _ _ (no_need (by kernel_rfl)) ?_
  clear hK K
  try (go_simp; (try go_bits))
  refine mix_nil ?_
  go_wp2
  refine bodyPost_ret (v := .agg #[.slice A' xl.length c', .int .i64 xs]) (by simp [results, Try.results25, go_sem, y0, y1]) rfl ?_
  have kg : w2.grownBy ((w2.setCell ⟨w.heap.size + 1, 0, none⟩ (.slice A' xl.length c')).setCell ⟨w.heap.size + 1, 1, none⟩ (.int .i64 xs)) (some (w.heap.size + 1)) := grown_set (grown_set (World.grownBy.refl w2 _) 0 _) 1 _
  refine ⟨_, rfl, own_mono (owns_kept ov.out kg (fun q hq e => ?_)) (by have := hsz.out; simp; omega), (hBx.out.setCell (p := ⟨w.heap.size + 1, 0, none⟩) (Nat.le_succ _) _).setCell (p := ⟨w.heap.size + 1, 1, none⟩) (Nat.le_succ _) _⟩
  injection e with e
  have := (ov.out.lt q hq).1
  have := hsz.out
  simp at *
  omega
set_option maxRecDepth 100000 in
set_option maxHeartbeats 3200000 in
theorem impl_copy {v : Value} {xs : List S} {w : World} (h : SRow w v xs) (hn : xs.length ≤ 1048576) (hb8 : ∀ x ∈ xs, x.vals.length * 8 ≤ 140737488355328) :
    Calls Try.prog 24 #[v] w fun e w' => ∃ v' ys, e = .returned v' ∧ ys.map S.abs = xs.map S.abs ∧ HL w' w.heap.size v' xs.length ys ∧ Below w.heap.size w w' := by
  have hrows := Lib.hid h.2
  obtain ⟨⟨A, c, rfl, -, hnl, hnc, hcm, ha⟩, -⟩ := h
  have hmk : ∀ W : World, (Instr.makeSlice 28 (.int .i64 (0 : Int)) (.int .i64 ((xs.length : Int) + 1))).run Try.prog W = .ok (.slice (some ⟨W.heap.size, 0, none⟩) 0 (xs.length + 1)) (W.alloc (.cells (madeCells #[.slice none 0 0, .int .i64 0] ((xs.length + 1) * 2)) 31)) := fun W => by
    have := make_run E 0 (xs.length + 1) (by omega) (by omega) (by simp only [maxLen]; omega) W
    rw [show ((xs.length + 1 : Nat) : Int) = (xs.length : Int) + 1 by omega] at this
    exact this
  have hf : HL (w.alloc (.cells (madeCells #[.slice none 0 0, .int .i64 0] ((xs.length + 1) * 2)) 31)) w.heap.size (.slice (some ⟨w.heap.size, 0, none⟩) 0 (xs.length + 1)) 0 [] :=
    ⟨rfl, owns_of_fill (Fill.made w _ (by simp [madeCells])) (Nat.le_refl _) (by omega) (by simp only [maxLen]; omega), by simp, by simp⟩
  have hbf := (Below.refl w.heap.size w).alloc (Nat.le_refl _) (.cells (madeCells #[.slice none 0 0, .int .i64 0] ((xs.length + 1) * 2)) 31)
  replace hf := Lib.hid hf
  replace hbf := Lib.hid hbf
  replace hb8 := Lib.hid hb8
  go_enter Try.func24, Try.ntmps24
  go_wp2
  go_loopw [3, 12] (fun o i wr => ∃ (k : Nat) (ys : List S), k ≤ xs.length ∧ i = .int .i64 k ∧ Hid (ys.map S.abs = (xs.take k).map S.abs) ∧ HL wr w.heap.size o k ys ∧ Below w.heap.size w wr) (fun _ i _ => xs.length - (intOf i).toNat)
  case atStart => exact ⟨0, [], by omega, rfl, Lib.hid rfl, hf.out, hbf.out⟩
  case round =>
    clear hf hbf
    obtain ⟨k, ys, hk, rfl, hab, hy, hbw⟩ := hrel
    by_cases hlt : k < xs.length
    · obtain ⟨b, off, rfl, hb, hc⟩ := ha (by omega)
      obtain ⟨p0, p1⟩ := cells_ (fun j u hu => (cells_of hbw b _ hb).trans (hc j u hu)) hlt
      have hvr : VRow wr xs[k] := (hrows.out _ (List.getElem_mem hlt)).below hbw
      have hv := hb8.out _ (List.getElem_mem hlt)
      have hnew := Lib.hid (List.take_succ_eq_append_getElem hlt)
      obtain ⟨x, hx⟩ : ∃ x, xs[k] = x := ⟨_, rfl⟩
      rw [hx] at p0 p1 hvr hv hnew
      obtain ⟨Ax, cx, hxv⟩ := lit hvr
      rcases x with ⟨xv, xl, xm⟩
      obtain rfl : xv = .slice Ax xl.length cx := hxv
      replace hx := Lib.hid hx
      have al := (Below.refl wr.heap.size wr).alloc (Nat.le_refl _) (.cells #[.slice Ax xl.length cx, .int .i64 xm] 31)
      have hcs := Lib.hid (impl_copyState (Row.below hvr al : VRow _ ⟨.slice Ax xl.length cx, xl, xm⟩) hv)
      have hyb := Lib.hid (hy.below al)
      have hyo := Lib.hid (fun y hy' q hq => ((hy.own.1 y hy').lt q hq).2)
      have hbb := Lib.hid (hbw.trans (al.mono hbw.size))
      obtain ⟨Ao, co, rfl, -⟩ := row_of_owns hy.row
      replace hy := Lib.hid hy
      replace hbw := Lib.hid hbw
      have zb := Nat.lt_of_lt_of_le hb hbw.out.size
      clear hc ha al hvr hv
      go_wp2_with fail
      refine hcs.out.mono ?_
      rintro e w2 ⟨v', rfl, ov, b2⟩
      obtain ⟨A', c', rfl, -⟩ := row_of_owns ov
      have hyb2 := hyb.out.below b2
      have hbb2 := hbb.out.trans (b2.mono hbb.out.size)
      obtain ⟨q, cap, w3, hrun, hL, hB3, -⟩ := HL.push (x := ⟨.slice A' xl.length c', xl, xm⟩) hyb2 hbb2 (own_mono ov hbb.out.size) (fun y hy' => by
        cases hq : y.v.ownBlock with
        | none => exact .inl rfl
        | some q =>
          refine .inr (fun e => ?_)
          have h1 := hyo.out y hy' q hq
          have h2 := (ov.lt q e.symm).1
          simp at h2
          omega) (by omega) w2.heap.size rfl rfl
      have hab2 : Hid ((ys ++ [(⟨.slice A' xl.length c', xl, xm⟩ : S)]).map S.abs = (xs.take (k + 1)).map S.abs) := Lib.hid (by rw [hnew.out, List.map_append, List.map_append, hab.out]; rfl)
      replace hL := Lib.hid hL
      replace hB3 := Lib.hid hB3
      clear hyb2 hbb2 ov b2 hcs p0 p1 hyo
      go_wp2_with (at_builtin; refine wpList_append_run rfl rfl hrun ?_)
      first
        | exact ⟨⟨k + 1, _, by omega, by go_num, hab2, hL.out, hB3.out⟩, by simp [intOf]; omega⟩
        | (go_roundw
           case rel => exact ⟨k + 1, _, by omega, by go_num, hab2, hL.out, hB3.out⟩
           case measure => simp [intOf]; omega)
    · obtain rfl : k = xs.length := by omega
      rw [List.take_length] at hab
      replace hy := Lib.hid hy
      go_wp2
      go_ret
      exact ⟨_, ys, rfl, hab.out, hy.out, hbw⟩
end Go.Proofs.Ytocplbhgklfgeaa.States
