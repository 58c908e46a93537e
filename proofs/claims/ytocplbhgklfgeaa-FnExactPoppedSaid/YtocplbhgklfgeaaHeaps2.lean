/-
  The contracts of impl.push and spec.l11Push.
  Conditions: the list and the new state are the call's own.
-/
import Derived.Test.YtocplbhgklfgeaaHeaps
import Derived.Test.YtocplbhgklfgeaaMix2
namespace Go.Proofs.Ytocplbhgklfgeaa.States
open Go.RowKit Go.Proofs.Ytocplbhgklfgeaa.Row Go.Proofs.Ytocplbhgklfgeaa.Mem Go.Proofs.Ytocplbhgklfgeaa.Mix Go.Proofs.Ytocplbhgklfgeaa.Ints Go.Proofs.Ytocplbhgklfgeaa.State Go.Proofs.Ytocplbhgklfgeaa.Recs Go.Proofs.Ytocplbhgklfgeaa.Owns Go.Proofs.Ytocplbhgklfgeaa.Blocks Go.Proofs.Ytocplbhgklfgeaa.Sift
set_option maxRecDepth 100000 in
set_option maxHeartbeats 3200000 in
theorem impl_push {w0 w : World} {n : Nat} {v : Value} {ys : List S} {x : S} (h : HL w w0.heap.size v n ys) (hB : Below w0.heap.size w0 w) (hx : w.ownsRow w0.heap.size 3 1 x.v x.vals.length (ints x.vals))
    (hd : ∀ y ∈ ys, y.v.ownBlock = none ∨ y.v.ownBlock ≠ x.v.ownBlock) (hn : n ≤ 1048577) :
    Calls Try.prog 23 #[v, x.val] w fun e w' => ∃ v' zs, e = .returned v' ∧ zs.map S.abs = pushA (ys.map S.abs) x.abs ∧ HL w' w0.heap.size v' (n + 1) zs ∧ Below w0.heap.size w0 w' := by
  obtain ⟨A0, c0, hv0⟩ := lit (row_of_owns hx)
  rcases x with ⟨xv, xl, xs⟩
  obtain rfl : xv = .slice A0 xl.length c0 := hv0
  have ax := (Below.refl w.heap.size w).alloc (Nat.le_refl _) (.cells #[.slice A0 xl.length c0, .int .i64 xs] 31)
  obtain ⟨q, cap, w1, hrun, hL, hB1, -⟩ := HL.push (x := ⟨.slice A0 xl.length c0, xl, xs⟩) (h.below ax) (hB.trans (ax.mono hB.size)) (own_below hx ax) hd (by omega) (w.heap.size + 1) (by simp) rfl
  obtain ⟨Av, cv, rfl, -⟩ := row_of_owns h.row
  have hres : Hid (upA ((ys ++ [(⟨.slice A0 xl.length c0, xl, xs⟩ : S)]).map S.abs) n = pushA (ys.map S.abs) (xl, xs)) := Lib.hid (by unfold pushA; rw [List.map_append]; rw [List.length_map, h.len]; rfl)
  clear h hx hd ax
  replace hL := Lib.hid hL
  replace hB := Lib.hid hB
  replace hB1 := Lib.hid hB1
  go_enter Try.func23, Try.ntmps23
  go_wp2_with (at_builtin; refine wpList_append_run rfl rfl hrun ?_)
  go_loopw [5] (fun i wr => ∃ (k : Nat) (zs : List S), k ≤ n ∧ i = .int .i64 k ∧ Hid (upA (zs.map S.abs) k = pushA (ys.map S.abs) (xl, xs)) ∧ HL wr w0.heap.size (.slice (some ⟨q, 0, none⟩) (n + 1) cap) (n + 1) zs ∧ Below w0.heap.size w0 wr) (fun i _ => (intOf i).toNat)
  case atStart => exact ⟨n, _, by omega, by go_num, hres, hL.out, hB1.out⟩
  case round =>
    obtain ⟨k, zs, hk, rfl, hup, hz, hbw⟩ := hrel
    clear hres hL hB1 hrun
    obtain ⟨hq0, hq1, hqf⟩ := hz.q
    by_cases h0 : 0 < k
    · obtain ⟨u, hu⟩ : ∃ u, (k + 1) / 2 - 1 = u := ⟨_, rfl⟩
      have hku : k < zs.length := by rw [hz.len]; omega
      have hlu : u < zs.length := by rw [hz.len]; omega
      obtain ⟨a, ea⟩ : ∃ a, zs[k] = a := ⟨_, rfl⟩
      obtain ⟨b, eb⟩ : ∃ b, zs[u] = b := ⟨_, rfl⟩
      have ra := hz.own.rows _ (List.getElem_mem hku)
      have rb := hz.own.rows _ (List.getElem_mem hlu)
      rw [ea] at ra
      rw [eb] at rb
      have hle := less_at hku hlu ea eb
      obtain ⟨Aa, ca, ha⟩ := lit ra
      obtain ⟨Ab, cb, hb⟩ := lit rb
      rcases a with ⟨av, al, am⟩
      rcases b with ⟨bv, bl, bm⟩
      obtain rfl : av = .slice Aa al.length ca := ha
      obtain rfl : bv = .slice Ab bl.length cb := hb
      obtain ⟨p0, p1⟩ := hz.cells hku ea
      obtain ⟨q0, q1⟩ := hz.cells hlu eb
      have hcall := Lib.hid (fun (W : World) (hW : Below wr.heap.size wr W) => impl_less (Row.below ra hW) (Row.below rb hW) am bm)
      have i0 : (0 : Int) ≤ (k : Int) := by omega
      have i1 : (k : Int) < (n : Int) + 1 := by omega
      have i2 : (u : Int) < (n : Int) + 1 := by omega
      have i3 : (0 : Int) ≤ (u : Int) := by omega
      have d0 : decide ((0 : Int) < (k : Int)) = true := decide_eq_true (by omega)
      have s1 : IntKind.i64.wrap ((k : Int) + 1) = (k : Int) + 1 := IntWalk.i64_in _ (by omega)
      have s2 : ((k : Int) + 1) / 2 = (u : Int) + 1 := by omega
      have s3 : IntKind.i64.wrap (((k : Int) + 1).tdiv 2) = (u : Int) + 1 := by rw [Int.tdiv_eq_ediv_of_nonneg (by omega), s2]; exact IntWalk.i64_in _ (by omega)
      have s4 : IntKind.i64.wrap ((u : Int) + 1 - 1) = (u : Int) := by rw [Int.add_sub_cancel]; exact IntWalk.i64_in _ (by omega)
      replace ea := Lib.hid ea
      replace eb := Lib.hid eb
      replace hle := Lib.hid hle
      replace hz := Lib.hid hz
      replace hbw := Lib.hid hbw
      clear ra rb
      cases hl : lessState al bl am bm
      · simp only [hl] at hcall
        have hno := Lib.hid (hup.out.symm.trans (upA_no (by rw [hu, hle.out]; exact hl))).symm
        clear hl
        go_wp2
        refine wp_region_below [(0, true), (1, true), (2, true), (3, true), (4, true), (5, true), (6, true), (7, true), (8, true), (9, false), (10, true), (11, true), (12, false), (13, false)] (by kernel_rfl) (by kernel_rfl) (fun d _ _ _ _ h => by cases d <;> exact h) ?_
        repeat
         (refine mix_still rfl (by rfl) ?_
          apply Exists.intro
          refine ⟨fun w' hS => ?_, ?_⟩
          · (have hS' := cells_of hS; clear hS; go_simp; (try go_bits); first | with_reducible rfl | (refine (if_pos ?_).trans ?_; omega; with_reducible rfl))
          (go_simp; (try go_bits)))
        refine mix_loud rfl (fun K hK => ?_)
        (go_simp; (try go_bits))
        refine (above_any (by omega) hu (by omega) _).mono ?_
        rintro _ w9 ⟨rfl, rfl⟩
        refine hK _ _ (fun _ => to_drew _ _) ?_
        clear hK K
        go_simp
        repeat
         (refine mix_still rfl (by rfl) ?_
          apply Exists.intro
          refine ⟨fun w' hS => ?_, ?_⟩
          · (have hS' := cells_of hS; clear hS; go_simp; (try go_bits); first | with_reducible rfl | (refine (if_pos ?_).trans ?_; omega; with_reducible rfl))
          (go_simp; (try go_bits)))
        refine mix_loud rfl (fun K hK => ?_)
        (go_simp; (try go_bits))
        refine (hcall.out _ (to_drew _ _)).mono ?_
        rintro _ w2 ⟨rfl, hb1⟩
        replace hb1 := of_drew hb1
        refine hK _ _ (fun _ => hb1) ?_
        clear hK K
        (go_simp; (try go_bits))
        refine mix_loud rfl (fun K hK => ?_)
        (go_simp; (try go_bits))
        refine hK _ _ (no_need (by kernel_rfl)) ?_
        clear hK K
        try (go_simp; (try go_bits))
        refine mix_nil ?_
        have hz2 := hz.out.below hb1
        have hbx := hbw.out.trans (hb1.mono hbw.out.size)
        clear p0 p1 q0 q1 s1 s2 s3 s4
        go_wp2
        go_ret
        exact ⟨_, zs, rfl, hno.out, hz2, hbx⟩
      · simp only [hl] at hcall
        have hyes := Lib.hid (show upA ((swp zs k u).map S.abs) u = pushA (ys.map S.abs) (xl, xs) from by rw [swp_map, ← hu, ← upA_yes h0 (by rw [hu, hle.out]; exact hl)]; exact hup.out)
        clear hl
        go_wp2
        refine wp_region_below [(0, true), (1, true), (2, true), (3, true), (4, true), (5, true), (6, true), (7, true), (8, true), (9, false), (10, true), (11, true), (12, false), (13, false)] (by kernel_rfl) (by kernel_rfl) (fun d _ _ _ _ h => by cases d <;> exact h) ?_
        repeat
         (refine mix_still rfl (by rfl) ?_
          apply Exists.intro
          refine ⟨fun w' hS => ?_, ?_⟩
          · (have hS' := cells_of hS; clear hS; go_simp; (try go_bits); first | with_reducible rfl | (refine (if_pos ?_).trans ?_; omega; with_reducible rfl))
          (go_simp; (try go_bits)))
        refine mix_loud rfl (fun K hK => ?_)
        (go_simp; (try go_bits))
        refine (above_any (by omega) hu (by omega) _).mono ?_
        rintro _ w9 ⟨rfl, rfl⟩
        refine hK _ _ (fun _ => to_drew _ _) ?_
        clear hK K
        go_simp
        repeat
         (refine mix_still rfl (by rfl) ?_
          apply Exists.intro
          refine ⟨fun w' hS => ?_, ?_⟩
          · (have hS' := cells_of hS; clear hS; go_simp; (try go_bits); first | with_reducible rfl | (refine (if_pos ?_).trans ?_; omega; with_reducible rfl))
          (go_simp; (try go_bits)))
        refine mix_loud rfl (fun K hK => ?_)
        (go_simp; (try go_bits))
        refine (hcall.out _ (to_drew _ _)).mono ?_
        rintro _ w2 ⟨rfl, hb1⟩
        replace hb1 := of_drew hb1
        refine hK _ _ (fun _ => hb1) ?_
        clear hK K
        (go_simp; (try go_bits))
        refine mix_loud rfl (fun K hK => ?_)
        (go_simp; (try go_bits))
        refine hK _ _ (no_need (by kernel_rfl)) ?_
        clear hK K
        try (go_simp; (try go_bits))
        refine mix_nil ?_
        have hz2 := hz.out.below hb1
        have hbx := hbw.out.trans (hb1.mono hbw.out.size)
        clear p0 p1 q0 q1
        obtain ⟨hr0, hr1, hrf⟩ := hz2.q
        obtain ⟨p0, p1⟩ := hz2.cells hku ea.out
        obtain ⟨q0, q1⟩ := hz2.cells hlu eb.out
        have hsw := Lib.hid (hz2.swap hku hlu ea.out eb.out)
        have hbs := Lib.hid (below_swap hbx hq0 k u (.slice Ab bl.length cb) (.int .i64 bm) (.slice Aa al.length ca) (.int .i64 am))
        replace hz2 := Lib.hid hz2
        replace hbx := Lib.hid hbx
        go_wp2
        refine wp_region_below2 [(0, 2), (1, 2), (2, 2), (3, 2), (5, 2), (6, 2), (10, 2), (11, 2), (12, 2), (13, 1), (4, 0), (7, 0), (8, 2), (9, 1), (14, 2), (15, 0), (16, 2), (17, 0)] (by kernel_rfl) (by kernel_rfl) (fun d _ _ _ _ h => by cases d <;> exact h) ?_
        repeat (first
         | (refine mix2_still rfl (by rfl) ?_
            apply Exists.intro
            refine ⟨fun w' hS => ?_, ?_⟩
            · (have hS' := cells_of hS; clear hS; go_simp; (try go_bits); first | with_reducible rfl | (refine (if_pos ?_).trans ?_; omega; with_reducible rfl))
            (go_simp; (try go_bits)))
         | (refine mix2_pure rfl (by rfl) ?_
            apply Exists.intro
            refine ⟨fun w' => ?_, ?_⟩
            · (go_simp; (try go_bits); first | with_reducible rfl | (refine (if_pos ?_).trans ?_; omega; with_reducible rfl))
            (go_simp; (try go_bits))))
        refine mix2_loud rfl (fun K hK => ?_)
        (go_simp; (try go_bits))
        refine (above_any (by omega) hu (by omega) _).mono ?_
        rintro _ w9 ⟨rfl, rfl⟩
        refine hK _ _ (fun _ => to_drew _ _) ?_
        clear hK K
        go_simp
        refine mix2_loud rfl (fun K hK => ?_)
        (go_simp; (try go_bits))
        refine (above_any (by omega) hu (by omega) _).mono ?_
        rintro _ w9 ⟨rfl, rfl⟩
        refine hK _ _ (fun _ => to_drew _ _) ?_
        clear hK K
        go_simp
        repeat (first
         | (refine mix2_still rfl (by rfl) ?_
            apply Exists.intro
            refine ⟨fun w' hS => ?_, ?_⟩
            · (have hS' := cells_of hS; clear hS; go_simp; (try go_bits); first | with_reducible rfl | (refine (if_pos ?_).trans ?_; omega; with_reducible rfl))
            (go_simp; (try go_bits)))
         | (refine mix2_pure rfl (by rfl) ?_
            apply Exists.intro
            refine ⟨fun w' => ?_, ?_⟩
            · (go_simp; (try go_bits); first | with_reducible rfl | (refine (if_pos ?_).trans ?_; omega; with_reducible rfl))
            (go_simp; (try go_bits))))
        refine mix2_loud rfl (fun K hK => ?_)
        (go_simp; (try go_bits))
        refine hK _ _ (no_need (by kernel_rfl)) ?_
        clear hK K
        try (go_simp; (try go_bits))
        repeat (first
         | (refine mix2_still rfl (by rfl) ?_
            apply Exists.intro
            refine ⟨fun w' hS => ?_, ?_⟩
            · (have hS' := cells_of hS; clear hS; go_simp; (try go_bits); first | with_reducible rfl | (refine (if_pos ?_).trans ?_; omega; with_reducible rfl))
            (go_simp; (try go_bits)))
         | (refine mix2_pure rfl (by rfl) ?_
            apply Exists.intro
            refine ⟨fun w' => ?_, ?_⟩
            · (go_simp; (try go_bits); first | with_reducible rfl | (refine (if_pos ?_).trans ?_; omega; with_reducible rfl))
            (go_simp; (try go_bits))))
        refine mix2_loud rfl (fun K hK => ?_)
        (go_simp; (try go_bits))
        refine hK _ _ (no_need (by kernel_rfl)) ?_
        clear hK K
        try (go_simp; (try go_bits))
        refine mix2_nil ?_
        go_wp2_with fail
        refine (above_any (by omega) hu (by omega) _).mono ?_
        rintro e w9 ⟨rfl, rfl⟩
        go_wp2
        go_roundw
        case rel => exact ⟨u, _, by omega, rfl, hyes, hsw.out.below (to_drew _ _), hbs.out.drew⟩
        case measure => simp [intOf]; omega
    · obtain rfl : k = 0 := by omega
      have hno := Lib.hid (hup.out.symm.trans (upA_zero _)).symm
      have hz2 := hz.below (to_drew wr _)
      have hbx := hbw.drew
      replace hz := Lib.hid hz
      replace hbw := Lib.hid hbw
      go_wp2
      refine wp_region_below [(0, true), (1, true), (2, true), (3, true), (4, true), (5, true), (6, true), (7, true), (8, true), (9, false), (10, true), (11, true), (12, false), (13, false)] (by kernel_rfl) (by kernel_rfl) (fun d _ _ _ _ h => by cases d <;> exact h) ?_
      repeat (first
        | (refine mix_still rfl (by rfl) ?_
           apply Exists.intro
           refine ⟨fun w' hS => ?_, ?_⟩
           · (have hS' := cells_of hS; clear hS; go_simp; (try go_bits); first | with_reducible rfl | (refine (if_pos ?_).trans ?_; omega; with_reducible rfl))
           (go_simp; (try go_bits)))
        | (refine mix_skip rfl (by rfl) ?_; go_simp))
      refine mix_loud rfl (fun K hK => ?_)
      (go_simp; (try go_bits))
      refine hK _ _ (fun _ => to_drew _ _) ?_
      clear hK K
      try (go_simp; (try go_bits))
      repeat (first
        | (refine mix_still rfl (by rfl) ?_
           apply Exists.intro
           refine ⟨fun w' hS => ?_, ?_⟩
           · (have hS' := cells_of hS; clear hS; go_simp; (try go_bits); first | with_reducible rfl | (refine (if_pos ?_).trans ?_; omega; with_reducible rfl))
           (go_simp; (try go_bits)))
        | (refine mix_skip rfl (by rfl) ?_; go_simp))
      refine mix_loud rfl (fun K hK => ?_)
      (go_simp; (try go_bits))
      refine hK _ _ (fun _ => to_drew _ _) ?_
      clear hK K
      try (go_simp; (try go_bits))
      refine mix_loud rfl (fun K hK => ?_)
      (go_simp; (try go_bits))
      refine hK _ _ (no_need (by kernel_rfl)) ?_
      clear hK K
      try (go_simp; (try go_bits))
      refine mix_nil ?_
      go_wp2
      go_ret
      exact ⟨_, zs, rfl, hno.out, hz2, hbx⟩
set_option maxRecDepth 100000 in
set_option maxHeartbeats 3200000 in
theorem spec_push {w0 w : World} {n : Nat} {v : Value} {ys : List S} {x : S} (h : HL w w0.heap.size v n ys) (hB : Below w0.heap.size w0 w) (hx : w.ownsRow w0.heap.size 3 1 x.v x.vals.length (ints x.vals))
    (hd : ∀ y ∈ ys, y.v.ownBlock = none ∨ y.v.ownBlock ≠ x.v.ownBlock) (hn : n ≤ 1048577) :
    Calls Try.prog 20 #[v, x.val] w fun e w' => ∃ v' zs, e = .returned v' ∧ zs.map S.abs = pushA (ys.map S.abs) x.abs ∧ HL w' w0.heap.size v' (n + 1) zs ∧ Below w0.heap.size w0 w' := by
  obtain ⟨A0, c0, hv0⟩ := lit (row_of_owns hx)
  rcases x with ⟨xv, xl, xs⟩
  obtain rfl : xv = .slice A0 xl.length c0 := hv0
  have ax := (Below.refl w.heap.size w).alloc (Nat.le_refl _) (.cells #[.slice A0 xl.length c0, .int .i64 xs] 31)
  obtain ⟨q, cap, w1, hrun, hL, hB1, -⟩ := HL.push (x := ⟨.slice A0 xl.length c0, xl, xs⟩) (h.below ax) (hB.trans (ax.mono hB.size)) (own_below hx ax) hd (by omega) (w.heap.size + 1) (by simp) rfl
  obtain ⟨Av, cv, rfl, -⟩ := row_of_owns h.row
  have hres : Hid (upA ((ys ++ [(⟨.slice A0 xl.length c0, xl, xs⟩ : S)]).map S.abs) n = pushA (ys.map S.abs) (xl, xs)) := Lib.hid (by unfold pushA; rw [List.map_append]; rw [List.length_map, h.len]; rfl)
  clear h hx hd ax
  replace hL := Lib.hid hL
  replace hB := Lib.hid hB
  replace hB1 := Lib.hid hB1
  go_enter Try.func20, Try.ntmps20
  go_wp2_with (at_builtin; refine wpList_append_run rfl rfl hrun ?_)
  go_loopw [5] (fun i wr => ∃ (k : Nat) (zs : List S), k ≤ n ∧ i = .int .i64 k ∧ Hid (upA (zs.map S.abs) k = pushA (ys.map S.abs) (xl, xs)) ∧ HL wr w0.heap.size (.slice (some ⟨q, 0, none⟩) (n + 1) cap) (n + 1) zs ∧ Below w0.heap.size w0 wr) (fun i _ => (intOf i).toNat)
  case atStart => exact ⟨n, _, by omega, by go_num, hres, hL.out, hB1.out⟩
  case round =>
    obtain ⟨k, zs, hk, rfl, hup, hz, hbw⟩ := hrel
    clear hres hL hB1 hrun
    obtain ⟨hq0, hq1, hqf⟩ := hz.q
    by_cases h0 : 0 < k
    · obtain ⟨u, hu⟩ : ∃ u, (k + 1) / 2 - 1 = u := ⟨_, rfl⟩
      have hku : k < zs.length := by rw [hz.len]; omega
      have hlu : u < zs.length := by rw [hz.len]; omega
      obtain ⟨a, ea⟩ : ∃ a, zs[k] = a := ⟨_, rfl⟩
      obtain ⟨b, eb⟩ : ∃ b, zs[u] = b := ⟨_, rfl⟩
      have ra := hz.own.rows _ (List.getElem_mem hku)
      have rb := hz.own.rows _ (List.getElem_mem hlu)
      rw [ea] at ra
      rw [eb] at rb
      have hle := less_at hku hlu ea eb
      obtain ⟨Aa, ca, ha⟩ := lit ra
      obtain ⟨Ab, cb, hb⟩ := lit rb
      rcases a with ⟨av, al, am⟩
      rcases b with ⟨bv, bl, bm⟩
      obtain rfl : av = .slice Aa al.length ca := ha
      obtain rfl : bv = .slice Ab bl.length cb := hb
      obtain ⟨p0, p1⟩ := hz.cells hku ea
      obtain ⟨q0, q1⟩ := hz.cells hlu eb
      have hcall := Lib.hid (fun (W : World) (hW : Below wr.heap.size wr W) => spec_less (Row.below ra hW) (Row.below rb hW) am bm)
      have i0 : (0 : Int) ≤ (k : Int) := by omega
      have i1 : (k : Int) < (n : Int) + 1 := by omega
      have i2 : (u : Int) < (n : Int) + 1 := by omega
      have i3 : (0 : Int) ≤ (u : Int) := by omega
      have d0 : decide ((0 : Int) < (k : Int)) = true := decide_eq_true (by omega)
      have s1 : IntKind.i64.wrap ((k : Int) + 1) = (k : Int) + 1 := IntWalk.i64_in _ (by omega)
      have s2 : ((k : Int) + 1) / 2 = (u : Int) + 1 := by omega
      have s3 : IntKind.i64.wrap (((k : Int) + 1).tdiv 2) = (u : Int) + 1 := by rw [Int.tdiv_eq_ediv_of_nonneg (by omega), s2]; exact IntWalk.i64_in _ (by omega)
      have s4 : IntKind.i64.wrap ((u : Int) + 1 - 1) = (u : Int) := by rw [Int.add_sub_cancel]; exact IntWalk.i64_in _ (by omega)
      replace ea := Lib.hid ea
      replace eb := Lib.hid eb
      replace hle := Lib.hid hle
      replace hz := Lib.hid hz
      replace hbw := Lib.hid hbw
      clear ra rb
      cases hl : lessState al bl am bm
      · simp only [hl] at hcall
        have hno := Lib.hid (hup.out.symm.trans (upA_no (by rw [hu, hle.out]; exact hl))).symm
        clear hl
        go_wp2
        refine wp_region_below [(0, true), (1, true), (2, true), (3, true), (4, true), (5, true), (6, true), (7, true), (8, true), (9, true), (10, true), (11, true), (12, true), (13, true), (14, false), (15, false)] (by kernel_rfl) (by kernel_rfl) (fun d _ _ _ _ h => by cases d <;> exact h) ?_
        repeat
         (refine mix_still rfl (by rfl) ?_
          apply Exists.intro
          refine ⟨fun w' hS => ?_, ?_⟩
          · (have hS' := cells_of hS; clear hS; go_simp; (try go_bits); first | with_reducible rfl | (refine (if_pos ?_).trans ?_; omega; with_reducible rfl))
          (go_simp; (try go_bits)))
        refine mix_loud rfl (fun K hK => ?_)
        (go_simp; (try go_bits))
        refine (hcall.out _ (to_drew _ _)).mono ?_
        rintro _ w2 ⟨rfl, hb1⟩
        replace hb1 := of_drew hb1
        refine hK _ _ (fun _ => hb1) ?_
        clear hK K
        (go_simp; (try go_bits))
        refine mix_loud rfl (fun K hK => ?_)
        (go_simp; (try go_bits))
        refine hK _ _ (no_need (by kernel_rfl)) ?_
        clear hK K
        try (go_simp; (try go_bits))
        refine mix_nil ?_
        have hz2 := hz.out.below hb1
        have hbx := hbw.out.trans (hb1.mono hbw.out.size)
        clear p0 p1 q0 q1 s1 s2 s3 s4
        go_wp2
        go_ret
        exact ⟨_, zs, rfl, hno.out, hz2, hbx⟩
      · simp only [hl] at hcall
        have hyes := Lib.hid (show upA ((swp zs k u).map S.abs) u = pushA (ys.map S.abs) (xl, xs) from by rw [swp_map, ← hu, ← upA_yes h0 (by rw [hu, hle.out]; exact hl)]; exact hup.out)
        clear hl
        go_wp2
        refine wp_region_below [(0, true), (1, true), (2, true), (3, true), (4, true), (5, true), (6, true), (7, true), (8, true), (9, true), (10, true), (11, true), (12, true), (13, true), (14, false), (15, false)] (by kernel_rfl) (by kernel_rfl) (fun d _ _ _ _ h => by cases d <;> exact h) ?_
        repeat
         (refine mix_still rfl (by rfl) ?_
          apply Exists.intro
          refine ⟨fun w' hS => ?_, ?_⟩
          · (have hS' := cells_of hS; clear hS; go_simp; (try go_bits); first | with_reducible rfl | (refine (if_pos ?_).trans ?_; omega; with_reducible rfl))
          (go_simp; (try go_bits)))
        refine mix_loud rfl (fun K hK => ?_)
        (go_simp; (try go_bits))
        refine (hcall.out _ (to_drew _ _)).mono ?_
        rintro _ w2 ⟨rfl, hb1⟩
        replace hb1 := of_drew hb1
        refine hK _ _ (fun _ => hb1) ?_
        clear hK K
        (go_simp; (try go_bits))
        refine mix_loud rfl (fun K hK => ?_)
        (go_simp; (try go_bits))
        refine hK _ _ (no_need (by kernel_rfl)) ?_
        clear hK K
        try (go_simp; (try go_bits))
        refine mix_nil ?_
        have hz2 := hz.out.below hb1
        have hbx := hbw.out.trans (hb1.mono hbw.out.size)
        clear p0 p1 q0 q1
        obtain ⟨hr0, hr1, hrf⟩ := hz2.q
        have hal := (Below.refl w2.heap.size w2).alloc (Nat.le_refl _) (.cells #[.slice Aa al.length ca, .int .i64 am] 31)
        have hs9 := hz2.swap hku hlu ea.out eb.out
        have hsw := Lib.hid (hs9.below ((Below.refl _ _).alloc (Nat.le_refl _) (.cells #[.slice Aa al.length ca, .int .i64 am] 31)))
        have hbs := Lib.hid ((below_swap hbx hq0 k u (.slice Ab bl.length cb) (.int .i64 bm) (.slice Aa al.length ca) (.int .i64 am)).alloc (by have := hbx.size; simpa using this) (.cells #[.slice Aa al.length ca, .int .i64 am] 31))
        clear hs9
        obtain ⟨p0, p1⟩ := hz2.cells hku ea.out
        obtain ⟨q0, q1⟩ := hz2.cells hlu eb.out
        have hn1 : q ≠ w2.heap.size := by omega
        have hn2 : w2.heap.size ≠ q := by omega
        have e9 : ((k : Int) + 1) / 2 - 1 = (u : Int) := by omega
        replace hz2 := Lib.hid hz2
        replace hbx := Lib.hid hbx
        clear hal s2
        go_wp2
        go_roundw
        case rel => exact ⟨u, _, by omega, rfl, hyes, hsw.out, hbs.out⟩
        case measure => simp [intOf]; omega
    · obtain rfl : k = 0 := by omega
      have hno := Lib.hid (hup.out.symm.trans (upA_zero _)).symm
      have hz2 := hz.below (to_drew wr _)
      have hbx := hbw.drew
      replace hz := Lib.hid hz
      replace hbw := Lib.hid hbw
      go_wp2
      refine wp_region_below [(0, true), (1, true), (2, true), (3, true), (4, true), (5, true), (6, true), (7, true), (8, true), (9, true), (10, true), (11, true), (12, true), (13, true), (14, false), (15, false)] (by kernel_rfl) (by kernel_rfl) (fun d _ _ _ _ h => by cases d <;> exact h) ?_
      repeat (first
        | (refine mix_still rfl (by rfl) ?_
           apply Exists.intro
           refine ⟨fun w' hS => ?_, ?_⟩
           · (have hS' := cells_of hS; clear hS; go_simp; (try go_bits); first | with_reducible rfl | (refine (if_pos ?_).trans ?_; omega; with_reducible rfl))
           (go_simp; (try go_bits)))
        | (refine mix_skip rfl (by rfl) ?_; go_simp))
      refine mix_loud rfl (fun K hK => ?_)
      (go_simp; (try go_bits))
      refine hK _ _ (fun _ => to_drew _ _) ?_
      clear hK K
      try (go_simp; (try go_bits))
      refine mix_loud rfl (fun K hK => ?_)
      (go_simp; (try go_bits))
      refine hK _ _ (no_need (by kernel_rfl)) ?_
      clear hK K
      try (go_simp; (try go_bits))
      refine mix_nil ?_
      go_wp2
      go_ret
      exact ⟨_, zs, rfl, hno.out, hz2, hbx⟩
end Go.Proofs.Ytocplbhgklfgeaa.States
