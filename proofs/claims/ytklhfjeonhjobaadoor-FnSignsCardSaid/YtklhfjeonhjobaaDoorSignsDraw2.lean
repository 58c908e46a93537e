/-
  The contracts of the reference's draws over signs: DrawSigns, DrawSignsOf, DrawSameSigns, DrawKeyWord, DrawMarkOk.
  Conditions: the code that is drawn from reads as bytes.
-/
import Derived.Test.YtklhfjeonhjobaaDoorSignsDraw
namespace Go.Proofs.YtklhfjeonhjobaaDoor.Draw
open Go.RowKit Go.Proofs.YtklhfjeonhjobaaDoor.Row Go.Proofs.YtklhfjeonhjobaaDoor.Mem Go.Proofs.YtklhfjeonhjobaaDoor.Mix Go.Proofs.YtklhfjeonhjobaaDoor.Owns Go.Proofs.YtklhfjeonhjobaaDoor.Blocks Go.Proofs.YtklhfjeonhjobaaDoor.Scan
open Go.Proofs.YtklhfjeonhjobaaDoor.Sign (Sign signs sign ESg texts flatText flatText_size flat_len)
theorem fit_tot : ∀ {xs : List Sign}, (∀ x ∈ xs, Fit x) → Strs.tot (texts xs) ≤ 14 * xs.length
  | [], _ => by simp [Strs.tot, texts]
  | x :: xs, h => by
    have ih := fit_tot (xs := xs) (fun y hy => h y (by simp [hy]))
    have hx := (h x (by simp)).2
    simp only [Strs.tot, texts, List.map_cons, List.sum_cons, List.length_cons] at ih ⊢
    omega
theorem fit_flat {xs : List Sign} (h : ∀ x ∈ xs, Fit x) (hl : xs.length ≤ 9) : (flatText xs xs.length).size ≤ 200 := by
  have h1 := flat_len xs xs.length (Nat.le_refl _)
  have h2 := fit_tot h
  have h3 := Strs.tot_take (texts xs) xs.length
  rw [flatText_size]
  omega
theorem drawSigns_any {w : World} {v : Value} {bs : List Int} (h : Drawn w v bs) (hm : bs.length ≤ 1048576) :
    Calls Tryd.prog 45 #[v] w fun e w' => ∃ (v' : Value) (xs : List Sign), xs.length ≤ 9 ∧ (∀ x ∈ xs, Fit x) ∧ e = .returned v' ∧ w'.ownsRow w.heap.size 61 4 v' xs.length (signs xs) ∧ Below w.heap.size w w' := by
  go_enter Tryd.func45, Tryd.ntmps45
  go_wp2_with fail
  refine (new_any h hm).mono ?_
  rintro e w1 ⟨rfl, c1, b1⟩
  have s1 := b1.size
  go_wp2_with fail
  refine (signs_any c1).mono ?_
  rintro e w2 ⟨v', xs, hl, hf, rfl, own, -, k2⟩
  replace hf := Lib.hid hf
  replace own := Lib.hid (own_mono own s1)
  have hB := Lib.hid (below_of_keep b1 k2 s1)
  clear b1 k2 c1
  go_wp2
  go_ret
  exact ⟨v', xs, hl, hf.out, rfl, own.out, hB.out⟩
theorem drawSame_any {w : World} {v : Value} {bs : List Int} (h : Drawn w v bs) (hm : bs.length ≤ 1048576) :
    Calls Tryd.prog 48 #[v] w fun e w' => ∃ (v1 v2 : Value) (xs ys : List Sign), e = .returned (.tuple #[v1, v2]) ∧ Row w' v1 4 xs.length (signs xs) ∧ Row w' v2 4 ys.length (signs ys) ∧ Below w.heap.size w w' := by
  go_enter Tryd.func48, Tryd.ntmps48
  go_wp2_with fail
  refine (new_any h hm).mono ?_
  rintro e w1 ⟨rfl, c1, b1⟩
  have s1 := b1.size
  have l1 := c1.lt
  go_wp2_with fail
  refine (signs_any c1).mono ?_
  rintro e w2 ⟨v1, xs, -, -, rfl, own, c2, k2⟩
  clear c1
  obtain ⟨A1, p1, rfl, -⟩ := row_of_owns own
  go_wp2_with fail
  refine (once_any c2 2).mono ?_
  rintro e w3 ⟨b, rfl, c3, k3⟩
  replace own := own_keep own k3 l1
  replace k3 := keep_trans k2 k3
  clear c2 k2
  cases b
  · go_wp2_with fail
    refine (signs_any c3).mono ?_
    rintro e w4 ⟨v2, ys, -, -, rfl, own2, -, k4⟩
    replace own := Lib.hid (row_of_owns (own_keep own k4 l1))
    replace own2 := Lib.hid (row_of_owns own2)
    have hB := Lib.hid (below_of_keep b1 (keep_trans k3 k4) s1)
    clear b1 k3 k4 c3
    go_wp2
    refine bodyPost_ret (results_tmp2 rfl _ _ _) rfl ?_
    exact ⟨_, _, xs, ys, rfl, own.out, own2.out, hB.out⟩
  · replace own := Lib.hid (row_of_owns own)
    have hB := Lib.hid (below_of_keep b1 k3 s1)
    clear b1 k3 c3
    go_wp2
    refine bodyPost_ret (results_tmp2 rfl _ _ _) rfl ?_
    exact ⟨_, _, xs, xs, rfl, own.out, own.out, hB.out⟩
def l6 : List ByteArray := [⟨#[99, 108, 97, 115, 115]⟩, ⟨#[114, 101, 116, 117, 114, 110]⟩, ⟨#[120]⟩, ⟨#[]⟩, ⟨#[86, 97, 114]⟩]
def l7 : List ByteArray := [⟨#[38, 38]⟩, ⟨#[46, 46]⟩, ⟨#[38]⟩, ⟨#[]⟩, ⟨#[63]⟩, ⟨#[120]⟩]
set_option maxRecDepth 100000 in
theorem drawKeyWord_any {w : World} {v : Value} {bs : List Int} (h : Drawn w v bs) (hm : bs.length ≤ 1048576) :
    Calls Tryd.prog 49 #[v] w fun e w' => ∃ s : ByteArray, e = .returned (.string s) ∧ Below w.heap.size w w' := by
  go_enter Tryd.func49, Tryd.ntmps49
  go_wp2_with fail
  refine (new_any h hm).mono ?_
  rintro e w1 ⟨rfl, c1, b1⟩
  have s1 := b1.size
  have l1 := c1.lt
  have c2 := c1.below ((Below.refl w1.heap.size w1).alloc (Nat.le_refl _) (.cells (l6.map Value.string).toArray 9))
  have b2 := b1.trans (((Below.refl w1.heap.size w1).alloc (Nat.le_refl _) (.cells (l6.map Value.string).toArray 9)).mono s1)
  have s2 := b2.size
  have hp := pick_any c2 w1.heap.size l6 5 _ _ (str_alloc w1 _ _ _) (by omega) rfl (by omega) (by omega)
  simp only [l6, List.map_cons, List.map_nil] at hp c2 b2 s2
  replace hp := Lib.hid hp
  replace b2 := Lib.hid b2
  replace s2 := Lib.hid s2
  clear c2 c1 b1
  go_wp2_with fail
  refine hp.out.mono ?_
  rintro e w2 ⟨s, -, rfl, -, k3⟩
  go_wp2
  go_ret
  exact ⟨s, rfl, below_of_keep b2.out k3 s2.out⟩
set_option maxRecDepth 100000 in
theorem drawMarkOk_any {w : World} {v : Value} {bs : List Int} (h : Drawn w v bs) (hm : bs.length ≤ 1048576) :
    Calls Tryd.prog 50 #[v] w fun e w' => ∃ s : ByteArray, e = .returned (.string s) ∧ Below w.heap.size w w' := by
  go_enter Tryd.func50, Tryd.ntmps50
  go_wp2_with fail
  refine (new_any h hm).mono ?_
  rintro e w1 ⟨rfl, c1, b1⟩
  have s1 := b1.size
  have l1 := c1.lt
  have c2 := c1.below ((Below.refl w1.heap.size w1).alloc (Nat.le_refl _) (.cells (l7.map Value.string).toArray 9))
  have b2 := b1.trans (((Below.refl w1.heap.size w1).alloc (Nat.le_refl _) (.cells (l7.map Value.string).toArray 9)).mono s1)
  have s2 := b2.size
  have hp := pick_any c2 w1.heap.size l7 6 _ _ (str_alloc w1 _ _ _) (by omega) rfl (by omega) (by omega)
  simp only [l7, List.map_cons, List.map_nil] at hp c2 b2 s2
  replace hp := Lib.hid hp
  replace b2 := Lib.hid b2
  replace s2 := Lib.hid s2
  clear c2 c1 b1
  go_wp2_with fail
  refine hp.out.mono ?_
  rintro e w2 ⟨s, -, rfl, -, k3⟩
  go_wp2
  go_ret
  exact ⟨s, rfl, below_of_keep b2.out k3 s2.out⟩
def l8 (z : ByteArray) : List ByteArray := [⟨#[39, 97]⟩, ⟨#[38]⟩, ⟨#[124]⟩, ⟨#[9]⟩, ⟨#[49, 50, 51, 52, 53, 54, 55, 56, 57, 48, 49, 50, 51]⟩, ⟨#[47, 47, 32, 7]⟩, ⟨#[36]⟩, z]
theorem l8_size {s z : ByteArray} (hz : z.size = 31) (h : s ∈ l8 z) : s.size ≤ 31 := by
  simp only [l8, List.mem_cons, List.not_mem_nil, or_false] at h
  rcases h with rfl | rfl | rfl | rfl | rfl | rfl | rfl | rfl
  all_goals first | omega | decide
set_option maxRecDepth 100000 in
set_option maxHeartbeats 1600000 in
theorem drawSignsOf_any {w : World} {v : Value} {bs : List Int} (h : Drawn w v bs) (hm : bs.length ≤ 1048576) :
    Calls Tryd.prog 47 #[v] w fun e w' => ∃ s : ByteArray, s.size ≤ 4000 ∧ e = .returned (.string s) ∧ Below w.heap.size w w' := by
  go_enter Tryd.func47, Tryd.ntmps47
  go_wp2_with fail
  refine (new_any h hm).mono ?_
  rintro e w1 ⟨rfl, c1, b1⟩
  have s1 := b1.size
  have l1 := c1.lt
  go_wp2_with fail
  refine (below_any c1 8).mono ?_
  rintro e w2 ⟨y, y0, y1, -, rfl, c2, k2⟩
  clear c1 y1
  go_wp2_with fail
  refine (signs_any c2).mono ?_
  rintro e w3 ⟨v1, xs, hl, hf, rfl, own, c3, k3⟩
  replace k3 := keep_trans k2 k3
  clear c2 k2
  have hz := fit_flat hf hl
  have ht := fit_tot hf
  have cf := Sign.spec_Flat (row_of_owns own) (by omega)
  obtain ⟨A1, p1, rfl, -⟩ := row_of_owns own
  clear own ht hf
  generalize flatText xs xs.length = s at hz cf
  replace cf := Lib.hid cf
  go_wp2_with fail
  refine cf.out.mono ?_
  rintro e w3' ⟨rfl, rfl⟩
  clear cf
  have l3 := c3.lt
  by_cases q0 : y = 0
  · subst q0
    have hlong := Lib.hid (long_any 31 (by omega) 97 w3)
    go_wp2_with fail
    refine hlong.out.mono ?_
    rintro e w4 ⟨z, hz1, rfl, b4⟩
    have c4 := c3.below b4
    have k4 := keep_below k3 b4
    have s4 := b4.size
    clear c3 k3 b4 hlong
    have c5 := c4.below ((Below.refl w4.heap.size w4).alloc (Nat.le_refl _) (.cells ((l8 z).map Value.string).toArray 9))
    have k5 := keep_below k4 ((Below.refl w4.heap.size w4).alloc (Nat.le_refl _) (.cells ((l8 z).map Value.string).toArray 9))
    have hp := pick_any c5 w4.heap.size (l8 z) 8 _ _ (str_alloc w4 _ _ _) (by omega) rfl (by omega) (by omega)
    have hB := Lib.hid (below_of_keep b1 k5 s1)
    simp only [l8, List.map_cons, List.map_nil] at hp c5 k5 hB
    replace hp := Lib.hid hp
    replace k5 := Lib.hid k5
    clear c5 c4 k4
    go_wp2_with fail
    refine hp.out.mono ?_
    rintro e w6 ⟨u, hu, rfl, -, k6⟩
    have hu31 := l8_size hz1 hu
    replace hB := Lib.hid (below_of_keep b1 (keep_trans k5.out k6) s1)
    clear hu hp k5 k6 b1
    go_wp2
    go_ret
    exact ⟨_, by rw [ByteArray.size_append]; omega, rfl, hB.out⟩
  · have f0 : (y == 0) = false := beq_eq_false_iff_ne.2 q0
    by_cases q1 : y = 1
    · subst q1
      have hB := Lib.hid (below_of_keep b1 k3 s1)
      clear c3 k3 b1
      go_wp2
      go_ret
      refine ⟨_, ?_, rfl, hB.out⟩
      simp only [ByteArray.size_append]
      have e1 : (⟨#[10, 32, 10]⟩ : ByteArray).size = 3 := rfl
      have e2 : (⟨#[10, 10, 32, 32, 97]⟩ : ByteArray).size = 5 := rfl
      omega
    · have f1 : (y == 1) = false := beq_eq_false_iff_ne.2 q1
      by_cases q2 : y = 2
      · subst q2
        go_wp2_with fail
        refine (below_any c3 2).mono ?_
        rintro e w4 ⟨x, x0, x1, -, rfl, c4, k4⟩
        have x2 := x1 (by omega)
        obtain ⟨m, rfl⟩ := Int.eq_ofNat_of_zero_le x0
        replace k4 := keep_trans k3 k4
        have hB := Lib.hid (below_of_keep b1 k4 s1)
        clear x1 c3 c4 k3 k4 b1
        have e1 : (3000 : Int) + (m : Int) = ((3000 + m : Nat) : Int) := by omega
        have hl := Lib.hid (long_any (3000 + m) (by omega) 32 w4)
        rw [← e1] at hl
        clear e1
        go_wp2_with fail
        refine hl.out.mono ?_
        rintro e w5 ⟨u, hu, rfl, b5⟩
        go_wp2
        go_ret
        exact ⟨u, by omega, rfl, hB.out.trans (b5.mono hB.out.size)⟩
      · have f2 : (y == 2) = false := beq_eq_false_iff_ne.2 q2
        have hB := Lib.hid (below_of_keep b1 k3 s1)
        clear c3 k3 b1
        go_wp2
        go_ret
        exact ⟨s, by omega, rfl, hB.out⟩
end Go.Proofs.YtklhfjeonhjobaaDoor.Draw
