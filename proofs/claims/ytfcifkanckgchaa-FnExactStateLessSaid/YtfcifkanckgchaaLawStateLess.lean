/-
  FnExactStateLess: impl.StateLess and spec.StateLess answer the same for every two states.
  Conditions: none beyond the statement's own.
-/
import Derived.Test.YtfcifkanckgchaaRows
import Derived.Test.YtfcifkanckgchaaState
import Derived.Test.YtfcifkanckgchaaRecArgs
import Derived.Test.YtfcifkanckgchaaPost
import Derived.WalkKit
import Derived.ProofKit
import Derived.OpenShut
import Derived.Lib.SmallJoins
namespace Go.Proofs.Ytfcifkanckgchaa.lawStateLess
open Go.ChangeShapes Go.WideShapes Go.ChangeAt Go.RowKit Go.Joins Go.Proofs.Ytfcifkanckgchaa.Mix Go.Proofs.Ytfcifkanckgchaa.Row Go.Proofs.Ytfcifkanckgchaa.Ints Go.Proofs.Ytfcifkanckgchaa.State
set_option linter.unusedVariables false
theorem blk_below {W W' : World} {g : Nat} {o : Obj} (h : W.heap[g]? = some o) (k : Below W.heap.size W W') : W'.heap[g]? = some o := (k.block g (Array.getElem?_eq_some_iff.1 h).1).trans h
theorem blk_lt {W : World} {g : Nat} {o : Obj} (h : W.heap[g]? = some o) : g < W.heap.size := (Array.getElem?_eq_some_iff.1 h).1
theorem blk2 {W : World} {g : Nat} {a b : Value} {e : TypeId} (h : W.heap[g]? = some (.cells #[a, b] e (0, 0))) : W.cell? ⟨g, 0, none⟩ = some a ∧ W.cell? ⟨g, 1, none⟩ = some b :=
  ⟨by rw [cell_of_row W _ 0 _ _ (0, 0) h]; rfl, by rw [cell_of_row W _ 1 _ _ (0, 0) h]; rfl⟩
set_option maxRecDepth 100000 in
set_option maxHeartbeats 3200000 in
theorem walkN {v0 v1 : Value} {xs ys : List Int} {w : World} (h0 : Row w v0 1 xs.length (ints xs)) (h1 : Row w v1 1 ys.length (ints ys)) (s t : Int) :
    Calls Try.prog 4 #[state v0 s, state v1 t] w fun e w' => e = .returned (.bool true) ∧ Below w.heap.size w w' := by
  obtain ⟨A0, c0, rfl, -⟩ := id h0
  obtain ⟨A1, c1, rfl, -⟩ := id h1
  obtain ⟨k0, k1, hsz⟩ := two w (.cells #[.slice A0 xs.length c0, .int .i64 s] 30) (.cells #[.slice A1 ys.length c1, .int .i64 t] 30)
  have hB := below2 w (.cells #[.slice A0 xs.length c0, .int .i64 s] 30) (.cells #[.slice A1 ys.length c1, .int .i64 t] 30)
  have r0 := h0.below hB
  have r1 := h1.below hB
  generalize hW : (w.alloc (.cells #[.slice A0 xs.length c0, .int .i64 s] 30)).alloc (.cells #[.slice A1 ys.length c1, .int .i64 t] 30) = W at k0 k1 hsz hB r0 r1
  replace hW := Lib.hid hW
  have z0 := Lib.hid (szState_any r0 s 1048576 (by omega) (by omega))
  rcases szi_cases xs.length 1048576 (by omega) with ⟨r, hr, q0, q1, hlx⟩ | hr
  · rw [hr] at z0
    have d0 : decide (r < 0) = false := by simp; omega
    have z1 := Lib.hid (fun (V : World) (hV : Row V (.slice A1 ys.length c1) 1 ys.length (ints ys)) => szState_any hV t r q0 (by omega))
    replace hlx : xs.length * 8 ≤ 140737488355328 := by omega
    rcases szi_cases ys.length r q0 with ⟨u, hu, u0, u1, hly⟩ | hu
    · simp only [hu] at z1
      have d1 : decide (u < 0) = false := by simp; omega
      replace hly : ys.length * 8 ≤ 140737488355328 := by omega
      clear hr hu h0 h1
      replace r0 := Lib.hid r0
      replace r1 := Lib.hid r1
      go_enter Try.func4, Try.ntmps4
      go_wp2_with fail
      rw [hW.out]
      refine z0.out.mono ?_
      rintro e w1 ⟨rfl, b1⟩
      replace k0 := blk_below k0 b1
      replace k1 := blk_below k1 b1
      replace r0 := Lib.hid (r0.out.below b1)
      replace r1 := Lib.hid (r1.out.below b1)
      replace hB := hB.trans (b1.mono hB.size)
      clear b1 hW hsz z0
      obtain ⟨c00, c01⟩ := blk2 k0
      obtain ⟨c10, c11⟩ := blk2 k1
      go_wp2_with fail
      refine (z1.out _ r1.out).mono ?_
      rintro e w2 ⟨rfl, b2⟩
      clear c00 c01 c10 c11 z1
      replace k0 := blk_below k0 b2
      replace k1 := blk_below k1 b2
      replace r0 := Lib.hid (r0.out.below b2)
      replace r1 := Lib.hid (r1.out.below b2)
      replace hB := hB.trans (b2.mono hB.size)
      clear b2
      obtain ⟨c00, c01⟩ := blk2 k0
      obtain ⟨c10, c11⟩ := blk2 k1
      have l0 := blk_lt k0
      have l1 := blk_lt k1
      go_wp2
      refine wp_region_below [(0, true), (2, true), (1, false), (3, false), (4, false), (5, true)] (by kernel_rfl) (by kernel_rfl) (fun d _ _ _ _ h => by cases d <;> exact h) ?_
      repeat
       (refine mix_still rfl (by rfl) ?_
        apply Exists.intro
        refine ⟨fun w' hS => ?_, ?_⟩
        · (have hS' := cells_of hS; clear hS; go_simp; (try go_bits); first | with_reducible rfl | (refine (if_pos ?_).trans ?_; omega; with_reducible rfl))
        (go_simp; (try go_bits)))
      refine mix_loud rfl (fun K hK => ?_)
      (go_simp; (try go_bits))
      refine (toState_any (r0.out.drew) s hlx).mono ?_
      rintro _ w3 ⟨g3, rfl, -, o3, b3⟩
      have b3x := b3
      replace b3 := of_drew b3
      refine hK _ _ (fun _ => b3) ?_
      clear hK K
      (go_simp; (try go_bits))
      refine mix_loud rfl (fun K hK => ?_)
      (go_simp; (try go_bits))
      refine (toState_any (r1.out.below b3) t hly).mono ?_
      rintro _ w4 ⟨g4, rfl, -, o4, b4⟩
      have b4x := b4
      replace b4 := thenBelow b3 b4
      refine hK _ _ (fun _ => b4) ?_
      clear hK K
      (go_simp; (try go_bits))
      refine mix_loud rfl (fun K hK => ?_)
      (go_simp; (try go_bits))
      refine (spec_less (o3.below b4x).row o4.row s t).mono ?_
      rintro _ w5 ⟨rfl, b5⟩
      have b5x := b5
      replace b5 := thenBelow b4 b5
      refine hK _ _ (fun _ => b5) ?_
      clear hK K
      (go_simp; (try go_bits))
      repeat
       (refine mix_still rfl (by rfl) ?_
        apply Exists.intro
        refine ⟨fun w' hS => ?_, ?_⟩
        · (have hS' := cells_of hS; clear hS; go_simp; (try go_bits); first | with_reducible rfl | (refine (if_pos ?_).trans ?_; omega; with_reducible rfl))
        (go_simp; (try go_bits)))
      refine mix_nil ?_
      clear b3 b4 b3x b4x b5x o3 o4
      clear c00 c01 c10 c11 l0 l1
      replace k0 := blk_below k0 b5
      replace k1 := blk_below k1 b5
      replace r0 := Lib.hid (r0.out.below b5)
      replace r1 := Lib.hid (r1.out.below b5)
      replace hB := hB.trans (b5.mono hB.size)
      clear b5
      obtain ⟨c00, c01⟩ := blk2 k0
      obtain ⟨c10, c11⟩ := blk2 k1
      have l0 := blk_lt k0
      have l1 := blk_lt k1
      generalize hans : lessState xs ys s t = ans at *
      replace hans := Lib.hid hans
      have dd : (ans != ans) = false := by simp
      go_wp2_with fail
      refine (toState_any r0.out s hlx).mono ?_
      rintro e w6 ⟨g6, rfl, -, o6, b6⟩
      replace o6 := Lib.hid o6
      clear c00 c01 c10 c11 l0 l1
      replace k0 := blk_below k0 b6
      replace k1 := blk_below k1 b6
      replace r0 := Lib.hid (r0.out.below b6)
      replace r1 := Lib.hid (r1.out.below b6)
      replace hB := hB.trans (b6.mono hB.size)
      clear b6
      obtain ⟨ck00, ck01⟩ := blk2 k0
      have lk0 := blk_lt k0
      obtain ⟨ck10, ck11⟩ := blk2 k1
      have lk1 := blk_lt k1
      have ax := (Below.refl w6.heap.size w6).alloc (Nat.le_refl _) (.cells #[.slice (some ⟨g6, 0, none⟩) xs.length xs.length, .int .i64 s] 33)
      have kx := heap_alloc_new w6 (.cells #[.slice (some ⟨g6, 0, none⟩) xs.length xs.length, .int .i64 s] 33)
      generalize hW7 : w6.alloc (.cells #[.slice (some ⟨g6, 0, none⟩) xs.length xs.length, .int .i64 s] 33) = W7 at ax kx
      replace hW7 := Lib.hid hW7
      have kb0 := Lib.hid (blk_below k0 ax)
      have kb1 := Lib.hid (blk_below k1 ax)
      replace r0 := Lib.hid (r0.out.below ax)
      replace r1 := Lib.hid (r1.out.below ax)
      replace o6 := Lib.hid (o6.out.below ax)
      replace hB := hB.trans (ax.mono hB.size)
      replace kx := Lib.hid kx
      clear ax
      go_wp2_with fail
      rw [hW7.out]
      clear ck00 ck01 lk0 ck10 ck11 lk1
      clear k0 k1 hW7
      have k0 := kb0.out
      have k1 := kb1.out
      replace kx := kx.out
      clear kb0 kb1
      refine (toState_any r1.out t hly).mono ?_
      rintro e w8 ⟨g8, rfl, -, o8, b8⟩
      replace o8 := Lib.hid o8
      replace k0 := blk_below k0 b8
      replace k1 := blk_below k1 b8
      replace kx := blk_below kx b8
      replace r0 := Lib.hid (r0.out.below b8)
      replace r1 := Lib.hid (r1.out.below b8)
      replace o6 := Lib.hid (o6.out.below b8)
      replace hB := hB.trans (b8.mono hB.size)
      clear b8
      obtain ⟨ck00, ck01⟩ := blk2 k0
      have lk0 := blk_lt k0
      obtain ⟨ck10, ck11⟩ := blk2 k1
      have lk1 := blk_lt k1
      obtain ⟨ckx0, ckx1⟩ := blk2 kx
      have lkx := blk_lt kx
      have ay := (Below.refl w8.heap.size w8).alloc (Nat.le_refl _) (.cells #[.slice (some ⟨g8, 0, none⟩) ys.length ys.length, .int .i64 t] 33)
      have ky := heap_alloc_new w8 (.cells #[.slice (some ⟨g8, 0, none⟩) ys.length ys.length, .int .i64 t] 33)
      generalize hW9 : w8.alloc (.cells #[.slice (some ⟨g8, 0, none⟩) ys.length ys.length, .int .i64 t] 33) = W9 at ay ky
      replace hW9 := Lib.hid hW9
      have kb0 := Lib.hid (blk_below k0 ay)
      have kb1 := Lib.hid (blk_below k1 ay)
      have kbx := Lib.hid (blk_below kx ay)
      replace r0 := Lib.hid (r0.out.below ay)
      replace r1 := Lib.hid (r1.out.below ay)
      replace o6 := Lib.hid (o6.out.below ay)
      replace o8 := Lib.hid (o8.out.below ay)
      replace hB := hB.trans (ay.mono hB.size)
      replace ky := Lib.hid ky
      clear ay
      go_wp2_with fail
      rw [hW9.out]
      clear ck00 ck01 lk0 ck10 ck11 lk1 ckx0 ckx1 lkx
      clear k0 k1 kx hW9
      have k0 := kb0.out
      have k1 := kb1.out
      have kx := kbx.out
      replace ky := ky.out
      clear kb0 kb1 kbx
      refine (impl_less o6.out.row o8.out.row s t).mono ?_
      rintro e w10 ⟨rfl, b10⟩
      rw [hans.out]
      replace k0 := blk_below k0 b10
      replace k1 := blk_below k1 b10
      replace kx := blk_below kx b10
      replace ky := blk_below ky b10
      replace r0 := Lib.hid (r0.out.below b10)
      replace r1 := Lib.hid (r1.out.below b10)
      replace o6 := Lib.hid (o6.out.below b10)
      replace o8 := Lib.hid (o8.out.below b10)
      replace hB := hB.trans (b10.mono hB.size)
      clear b10
      obtain ⟨ck00, ck01⟩ := blk2 k0
      have lk0 := blk_lt k0
      obtain ⟨ck10, ck11⟩ := blk2 k1
      have lk1 := blk_lt k1
      obtain ⟨ckx0, ckx1⟩ := blk2 kx
      have lkx := blk_lt kx
      obtain ⟨cky0, cky1⟩ := blk2 ky
      have lky := blk_lt ky
      go_wp2
      refine wp_region_below [(0, true), (1, true), (2, false), (3, false), (4, false)] (by kernel_rfl) (by kernel_rfl) (fun d _ _ _ _ h => by cases d <;> exact h) ?_
      repeat
       (refine mix_still rfl (by rfl) ?_
        apply Exists.intro
        refine ⟨fun w' hS => ?_, ?_⟩
        · (have hS' := cells_of hS; clear hS; go_simp; (try go_bits); first | with_reducible rfl | (refine (if_pos ?_).trans ?_; omega; with_reducible rfl))
        (go_simp; (try go_bits)))
      refine mix_loud rfl (fun K hK => ?_)
      (go_simp; (try go_bits))
      refine (toState_any r0.out.drew s hlx).mono ?_
      rintro _ w11 ⟨g11, rfl, -, o11, b11⟩
      have b11x := b11
      replace b11 := of_drew b11
      refine hK _ _ (fun _ => b11) ?_
      clear hK K
      (go_simp; (try go_bits))
      refine mix_loud rfl (fun K hK => ?_)
      (go_simp; (try go_bits))
      refine (eqState_self (o6.out.drew.below b11x).row o11.row s).mono ?_
      rintro _ w12 ⟨rfl, b12⟩
      have b12x := b12
      replace b12 := thenBelow b11 b12
      refine hK _ _ (fun _ => b12) ?_
      clear hK K
      (go_simp; (try go_bits))
      refine mix_loud rfl (fun K hK => ?_)
      (go_simp; (try go_bits))
      refine hK _ _ (no_need (by kernel_rfl)) ?_
      clear hK K
      try (go_simp; (try go_bits))
      refine mix_nil ?_
      clear b11 b11x b12x o11
      clear ck00 ck01 lk0 ck10 ck11 lk1 ckx0 ckx1 lkx cky0 cky1 lky
      replace k0 := blk_below k0 b12
      replace k1 := blk_below k1 b12
      replace kx := blk_below kx b12
      replace ky := blk_below ky b12
      replace r0 := Lib.hid (r0.out.below b12)
      replace r1 := Lib.hid (r1.out.below b12)
      replace o6 := Lib.hid (o6.out.below b12)
      replace o8 := Lib.hid (o8.out.below b12)
      replace hB := hB.trans (b12.mono hB.size)
      clear b12
      obtain ⟨ck00, ck01⟩ := blk2 k0
      have lk0 := blk_lt k0
      obtain ⟨ck10, ck11⟩ := blk2 k1
      have lk1 := blk_lt k1
      obtain ⟨ckx0, ckx1⟩ := blk2 kx
      have lkx := blk_lt kx
      obtain ⟨cky0, cky1⟩ := blk2 ky
      have lky := blk_lt ky
      go_wp2
      refine wp_region_below [(0, true), (1, true), (2, false), (3, false), (4, false)] (by kernel_rfl) (by kernel_rfl) (fun d _ _ _ _ h => by cases d <;> exact h) ?_
      repeat
       (refine mix_still rfl (by rfl) ?_
        apply Exists.intro
        refine ⟨fun w' hS => ?_, ?_⟩
        · (have hS' := cells_of hS; clear hS; go_simp; (try go_bits); first | with_reducible rfl | (refine (if_pos ?_).trans ?_; omega; with_reducible rfl))
        (go_simp; (try go_bits)))
      refine mix_loud rfl (fun K hK => ?_)
      (go_simp; (try go_bits))
      refine (toState_any r1.out.drew t hly).mono ?_
      rintro _ w13 ⟨g13, rfl, -, o13, b13⟩
      have b13x := b13
      replace b13 := of_drew b13
      refine hK _ _ (fun _ => b13) ?_
      clear hK K
      (go_simp; (try go_bits))
      refine mix_loud rfl (fun K hK => ?_)
      (go_simp; (try go_bits))
      refine (eqState_self (o8.out.drew.below b13x).row o13.row t).mono ?_
      rintro _ w14 ⟨rfl, b14⟩
      have b14x := b14
      replace b14 := thenBelow b13 b14
      refine hK _ _ (fun _ => b14) ?_
      clear hK K
      (go_simp; (try go_bits))
      refine mix_loud rfl (fun K hK => ?_)
      (go_simp; (try go_bits))
      refine hK _ _ (no_need (by kernel_rfl)) ?_
      clear hK K
      try (go_simp; (try go_bits))
      refine mix_nil ?_
      clear b13 b13x b14x o13
      clear ck00 ck01 lk0 ck10 ck11 lk1 ckx0 ckx1 lkx cky0 cky1 lky
      replace k0 := blk_below k0 b14
      replace k1 := blk_below k1 b14
      replace kx := blk_below kx b14
      replace ky := blk_below ky b14
      replace r0 := Lib.hid (r0.out.below b14)
      replace r1 := Lib.hid (r1.out.below b14)
      replace o6 := Lib.hid (o6.out.below b14)
      replace o8 := Lib.hid (o8.out.below b14)
      replace hB := hB.trans (b14.mono hB.size)
      clear b14
      go_wp2
      go_ret
      exact ⟨rfl, hB⟩
    · simp only [hu] at z1
      clear hr hu h0 h1
      replace r0 := Lib.hid r0
      replace r1 := Lib.hid r1
      go_enter Try.func4, Try.ntmps4
      go_wp2_with fail
      rw [hW.out]
      refine z0.out.mono ?_
      rintro e w1 ⟨rfl, b1⟩
      replace k0 := blk_below k0 b1
      replace k1 := blk_below k1 b1
      replace r1 := Lib.hid (r1.out.below b1)
      replace hB := hB.trans (b1.mono hB.size)
      clear b1 hW hsz z0
      obtain ⟨c00, c01⟩ := blk2 k0
      obtain ⟨c10, c11⟩ := blk2 k1
      go_wp2_with fail
      refine (z1.out _ r1.out).mono ?_
      rintro e w2 ⟨rfl, b2⟩
      go_wp2
      go_ret
      exact ⟨rfl, hB.trans (b2.mono hB.size)⟩
  · rw [hr] at z0
    clear hr h0 h1
    replace r0 := Lib.hid r0
    replace r1 := Lib.hid r1
    go_enter Try.func4, Try.ntmps4
    go_wp2_with fail
    rw [hW.out]
    refine z0.out.mono ?_
    rintro e w1 ⟨rfl, b1⟩
    go_wp2
    go_ret
    exact ⟨rfl, hB.trans (b1.mono hB.size)⟩
theorem cellsL : Try.prog.cellsOf 30 = 2 := by kernel_rfl
theorem cellsI : Try.prog.cellsOf 3 = 1 := by kernel_rfl
theorem walk (v0 : Value) {base : Nat} {w : World} (o0 : Value.okWide Try.prog w .any base 30 v0) {H : Type} {enc : TypeId × Value → H} {d0 : DataW H} {p0 : List MemPlace} (h0 : DataW.Trod enc Try.prog w 0 (fun _ => true) true 30 v0 d0 p0)
    (v1 : Value) (o1 : Value.okWide Try.prog w .any base 30 v1) {d1 : DataW H} {p1 : List MemPlace} (h1 : DataW.Trod enc Try.prog w 0 (fun _ => true) true 30 v1 d1 p1) :
    Calls Try.prog 4 #[v0, v1] w fun e w' => e = .returned (.bool true) ∧ Below w.heap.size w w' := by
  obtain ⟨c0, c1, y0, y1, m, rfl, rfl, rfl, hy0, hy1⟩ := open_agg2 Try.underlying30 (by kernel_rfl) cellsL o0 h0
  obtain ⟨c2, c3, y2, y3, n, rfl, rfl, rfl, hy2, hy3⟩ := open_agg2 Try.underlying30 (by kernel_rfl) cellsL o1 h1
  obtain ⟨xs, hx, _⟩ := Args.row_ints_at Try.underlying28 Try.underlying3 cellsI hy0
  obtain ⟨ys, hy, _⟩ := Args.row_ints_at Try.underlying28 Try.underlying3 cellsI hy2
  obtain ⟨b, e1, rfl, _⟩ := DataW.trod_int Try.underlying3 hy1
  obtain ⟨d, e3, rfl, _⟩ := DataW.trod_int Try.underlying3 hy3
  simp at e1 e3
  subst e1 e3
  exact walkN hx hy b d
theorem own : ownKnob Try.prog.godebug = none := by kernel_rfl
theorem laidOut : laidOutB Try.prog = true := by kernel_rfl
set_option maxRecDepth 100000 in
theorem lifted (os : Os) (started : os.Started) (H : Type) (enc : TypeId × Value → H) :
    ReturnsInHanded {} Try.checked os 4 .any (Rows.fnExactStateLessSpec.pre6 enc Try.prog Try.f4 Rows.fnExactStateLessRow.domain false) (Rows.fnExactStateLessSpec.post enc Try.prog Try.f4 false true false false) := by
  refine returnsInHanded_of_change (C := Try.checked) own started (by kernel_rfl) Try.func4
    (ChangeSpec.witness6 (enc := enc) (C := Try.checked) false ⟨#[], #[.agg #[.slice none 0 0, .int .i64 0], .agg #[.slice none 0 0, .int .i64 0]], []⟩ 8 (by kernel_rfl) (by kernel_rfl) (by kernel_rfl) (by kernel_rfl)) ?_
  intro W base args ds gs before hval0 hW hcnd _
  have hval : ∀ (j : Nat) t v, Try.f4.params[j]? = some t → args[j]? = some v → Value.okWide Try.prog W .any base t v := hval0
  have hW' := hW
  obtain ⟨p, q, hA0, hV, rfl, hfz, hnd⟩ := hW
  have hA : DataW.TrodAll enc Try.prog W 0 (fun _ => true) true Try.f4.params.toList args.toList ds p := hA0
  rw [Try.params4] at hA hval
  obtain ⟨v0, vs0, d0, ds0, p0, q0, hargs, rfl, rfl, h0, r0⟩ := trodAll_cons hA
  obtain ⟨v1, vs1, d1, ds1, p1, q1, rfl, rfl, rfl, h1, r1⟩ := trodAll_cons r0
  obtain ⟨rfl, rfl, rfl⟩ := trodAll_nil r1
  obtain rfl : args = #[v0, v1] := by cases args; simp_all
  obtain ⟨rfl, rfl⟩ := trodVars_none hV
  have k0 := h0
  have o0 := hval 0 30 v0 rfl rfl
  have k1 := h1
  have o1 := hval 1 30 v1 rfl rfl
  clear hA0 hval0
  simp only [List.append_nil] at hW'
  have hlt := fun x hx => DataW.Whole.lt hW' x hx
  refine (walk v0 o0 h0 v1 o1 h1).mono fun e W' ⟨he, hg⟩ => ?_
  subst he
  exact ⟨_, rfl, Post.post_of_below (pa := p0 ++ (p1 ++ ([]))) (pv := []) hW' (fun _ _ _ => (trodAll_cons_mk (shut_bool Try.underlying4 _) trodAll_mk0)) (fun sp hsp => (trodAll_cons_mk (Post.stays laidOut (by kernel_rfl) (of_decide_eq_true (by kernel_rfl)) k0 hg (fun x hx => by first | (cases hx; done) | simp [hx]) hlt hsp) (trodAll_cons_mk (Post.stays laidOut (by kernel_rfl) (of_decide_eq_true (by kernel_rfl)) k1 hg (fun x hx => by first | (cases hx; done) | simp [hx]) hlt hsp) trodAll_mk0))) (fun _ _ => rfl) (by simp)
    hg (ok_one (by kernel_rfl) rfl (okWide_bool_mk Try.underlying4 _))⟩

theorem over : Rows.fnExactStateLessRow.holds Try.pinned (OpenSpec.ofChange Rows.fnExactStateLessSpec) :=
  OpenClaim.holds_of_wide 4 Try.f4 rfl rfl rfl rfl rfl rfl rfl ⟨rfl, rfl, rfl, rfl, rfl⟩ rfl rfl rfl rfl rfl (by kernel_rfl) Try.func4 (by kernel_rfl)
    (of_decide_eq_true (by kernel_rfl)) (by unfold Func.isWrapper; first | (rw [if_pos (by decide +kernel)]; kernel_rfl) | (rw [if_neg (by decide +kernel)]; exact ⟨rfl, rfl⟩))
    (fun os started H enc _ => lifted os started H enc)

/-- THE STATEMENT -/
theorem proved : Rows.FnExactStateLessSaid :=
  over
end Go.Proofs.Ytfcifkanckgchaa.lawStateLess
