/-
  The contracts of laws.szIntS, toState, eqState, szState and of impl.StateLess, spec.StateLess.
  Conditions: the slices read as lists of numbers.
-/
import Derived.Test.YtocplbhgklfgeaaInts
import Derived.Test.YtocplbhgklfgeaaCompare
namespace Go.Proofs.Ytocplbhgklfgeaa.State
open Go.RowKit Go.Proofs.Ytocplbhgklfgeaa.Row Go.Proofs.Ytocplbhgklfgeaa.Mem Go.Proofs.Ytocplbhgklfgeaa.Mix Go.Proofs.Ytocplbhgklfgeaa.Ints
abbrev state (v : Value) (s : Int) : Value := .agg #[v, .int .i64 s]
def szi (n : Nat) (left : Int) : Int := if (n : Int) ≤ left then left - n else -1
theorem szi_cases (n : Nat) (left : Int) (h0 : 0 ≤ left) : (∃ r : Int, szi n left = r ∧ 0 ≤ r ∧ r ≤ left ∧ (n : Int) ≤ left) ∨ szi n left = -1 := by
  unfold szi
  split
  · exact .inl ⟨_, rfl, by omega, by omega, by omega⟩
  · exact .inr rfl
set_option maxHeartbeats 400000 in
theorem szInts_any {v : Value} {xs : List Int} {w : World} (h1 : Row w v 1 xs.length (ints xs)) (left : Int) (h0 : 0 ≤ left) (hm : left ≤ 1048576) :
    Calls Try.prog 19 #[v, .int .i64 left] w fun e w' => e = .returned (.int .i64 (szi xs.length left)) ∧ w = w' := by
  obtain ⟨A, c, rfl, -, hn, -⟩ := h1
  unfold szi
  by_cases h : (xs.length : Int) ≤ left
  · rw [if_pos h]
    have d : decide (left - (xs.length : Int) < 0) = false := by simp; omega
    go_enter Try.func19, Try.ntmps19
    go_wp2
    go_ret
    exact ⟨rfl, rfl⟩
  · rw [if_neg h]
    have d : decide (left - (xs.length : Int) < 0) = true := by simp; omega
    go_enter Try.func19, Try.ntmps19
    go_wp2
    go_ret
    exact ⟨rfl, rfl⟩
set_option maxRecDepth 100000 in
set_option maxHeartbeats 400000 in
theorem szState_any {v : Value} {xs : List Int} {w : World} (h1 : Row w v 1 xs.length (ints xs)) (s : Int) (left : Int) (h0 : 0 ≤ left) (hm : left ≤ 1048576) :
    Calls Try.prog 6 #[state v s, .int .i64 left] w fun e w' => e = .returned (.int .i64 (szi xs.length left)) ∧ Below w.heap.size w w' := by
  have hr : ∀ o, Row (w.alloc o) v 1 xs.length (ints xs) := fun o => h1.below ((Below.refl _ _).alloc (Nat.le_refl _) o)
  have hc := Lib.hid (fun (o : Obj) => szInts_any (hr o) left h0 hm)
  obtain ⟨A, c, rfl, -⟩ := h1
  clear hr
  rcases szi_cases xs.length left h0 with ⟨r, hv, r0, r1, -⟩ | hv
  · rw [hv] at hc ⊢
    clear hv
    have d : decide (r < 0) = false := by simp; omega
    go_enter Try.func6, Try.ntmps6
    go_wp2_with fail
    refine (hc.out _).mono ?_
    rintro e w1 ⟨rfl, rfl⟩
    go_wp2
    go_ret
    refine ⟨rfl, ?_⟩
    repeat (first | exact Below.refl _ _ | assumption | refine Below.setCell ?_ (by first | omega | (simp <;> omega)) _ | refine Below.alloc ?_ (by first | omega | (simp <;> omega)) _ | refine Below.drew ?_)
  · rw [hv] at hc ⊢
    clear hv
    go_enter Try.func6, Try.ntmps6
    go_wp2_with fail
    refine (hc.out _).mono ?_
    rintro e w1 ⟨rfl, rfl⟩
    go_wp2
    go_ret
    refine ⟨rfl, ?_⟩
    repeat (first | exact Below.refl _ _ | assumption | refine Below.setCell ?_ (by first | omega | (simp <;> omega)) _ | refine Below.alloc ?_ (by first | omega | (simp <;> omega)) _ | refine Below.drew ?_)
theorem three (w : World) (o1 o2 o3 : Obj) : (((w.alloc o1).alloc o2).alloc o3).heap[w.heap.size]? = some o1 ∧ (((w.alloc o1).alloc o2).alloc o3).heap[w.heap.size + 1]? = some o2 ∧ (((w.alloc o1).alloc o2).alloc o3).heap[w.heap.size + 1 + 1]? = some o3 ∧ (((w.alloc o1).alloc o2).alloc o3).heap.size = w.heap.size + 1 + 1 + 1 := by
  have s1 : (w.alloc o1).heap.size = w.heap.size + 1 := by simp
  have s2 : ((w.alloc o1).alloc o2).heap.size = w.heap.size + 1 + 1 := by simp
  refine ⟨?_, ?_, ?_, by simp⟩
  · rw [Below.heap_alloc _ _ _ (by omega), Below.heap_alloc _ _ _ (by omega), heap_alloc_new]
  · rw [Below.heap_alloc _ _ _ (by omega), ← s1, heap_alloc_new]
  · rw [← s2, heap_alloc_new]
set_option maxRecDepth 100000 in
set_option maxHeartbeats 800000 in
theorem toState_any {v : Value} {xs : List Int} {w : World} (h1 : Row w v 1 xs.length (ints xs)) (s : Int) (hb8 : xs.length * 8 ≤ 140737488355328) :
    Calls Try.prog 9 #[state v s] w fun e w' => ∃ g, e = .returned (state (.slice (some ⟨g, 0, none⟩) xs.length xs.length) s) ∧ w.heap.size ≤ g ∧
      Own w' (.slice (some ⟨g, 0, none⟩) xs.length xs.length) 3 1 g xs.length (ints xs) ∧ Below w.heap.size w w' := by
  have hr : ∀ o o2 o3, Row (((w.alloc o).alloc o2).alloc o3) v 1 xs.length (ints xs) := fun o o2 o3 => h1.below ((((Below.refl _ _).alloc (Nat.le_refl _) o).alloc (by simp) o2).alloc (by simp; omega) o3)
  have hc := Lib.hid (fun (o o2 o3 : Obj) => to_any (hr o o2 o3) hb8)
  obtain ⟨A, c, rfl, -⟩ := h1
  clear hr
  go_enter Try.func9, Try.ntmps9
  go_wp2_with fail
  refine (hc.out _ _ _).mono ?_
  rintro e w1 ⟨rfl, hown, hb⟩
  generalize hW : ((w.alloc _).alloc _).alloc _ = W at hown hb
  obtain ⟨k0, k1, k2, hsz⟩ := three w (.cells #[.slice A xs.length c, .int .i64 s] 25) (.cells #[.slice none 0 0, .int .i64 0] 31) (.cells #[.slice none 0 0, .int .i64 0] 31)
  have hbw : Below w.heap.size w W := by
    rw [← hW]
    exact (((Below.refl _ _).alloc (Nat.le_refl _) _).alloc (by simp) _).alloc (by simp; omega) _
  rw [hW] at k0 k1 k2 hsz
  rw [← hb.block _ (by omega)] at k0 k1 k2
  have a0 : w1.cell? ⟨w.heap.size, 1, none⟩ = some (.int .i64 s) := by rw [cell_of_row w1 _ 1 _ _ (0, 0) k0]; rfl
  have a1 : w1.cell? ⟨w.heap.size + 1, 0, none⟩ = some (.slice none 0 0) := by rw [cell_of_row w1 _ 0 _ _ (0, 0) k1]; rfl
  have a2 : w1.cell? ⟨w.heap.size + 1, 1, none⟩ = some (.int .i64 0) := by rw [cell_of_row w1 _ 1 _ _ (0, 0) k1]; rfl
  have a3 : w1.cell? ⟨w.heap.size + 1 + 1, 0, none⟩ = some (.slice none 0 0) := by rw [cell_of_row w1 _ 0 _ _ (0, 0) k2]; rfl
  have a4 : w1.cell? ⟨w.heap.size + 1 + 1, 1, none⟩ = some (.int .i64 0) := by rw [cell_of_row w1 _ 1 _ _ (0, 0) k2]; rfl
  have f1 : ∀ j, w1.frozen? ⟨w.heap.size + 1, j, none⟩ = false := fun j => by simp [World.frozen?, k1]
  have f2 : ∀ j, w1.frozen? ⟨w.heap.size + 1 + 1, j, none⟩ = false := fun j => by simp [World.frozen?, k2]
  have hn1 : w.heap.size + 1 ≠ W.heap.size := by omega
  have hn2 : w.heap.size + 1 + 1 ≠ W.heap.size := by omega
  have hge : w.heap.size ≤ W.heap.size := by omega
  clear k0 k1 k2 hW hc
  go_wp2
  refine bodyPost_ret (v := state (.slice (some ⟨W.heap.size, 0, none⟩) xs.length xs.length) s) (by simp [results, Try.results9, go_sem, a1, a2, a3, a4]) rfl ⟨_, rfl, hge, ?_, ?_⟩
  · exact (((hown.setCell (p := ⟨_, _, none⟩) (by simp; omega) _).setCell (p := ⟨_, _, none⟩) (by simp; omega) _).setCell (p := ⟨_, _, none⟩) (by simp; omega) _).setCell (p := ⟨_, _, none⟩) (by simp; omega) _
  · have hB := hbw.trans (hb.mono hge)
    repeat (first | exact hB | refine Below.setCell ?_ (by simp <;> omega) _)
theorem two (w : World) (o1 o2 : Obj) : ((w.alloc o1).alloc o2).heap[w.heap.size]? = some o1 ∧ ((w.alloc o1).alloc o2).heap[w.heap.size + 1]? = some o2 ∧ ((w.alloc o1).alloc o2).heap.size = w.heap.size + 1 + 1 := by
  have s1 : (w.alloc o1).heap.size = w.heap.size + 1 := by simp
  refine ⟨?_, ?_, by simp⟩
  · rw [Below.heap_alloc _ _ _ (by omega), heap_alloc_new]
  · rw [← s1, heap_alloc_new]
theorem below2 (w : World) (o1 o2 : Obj) : Below w.heap.size w ((w.alloc o1).alloc o2) := ((Below.refl _ _).alloc (Nat.le_refl _) _).alloc (by simp) _
theorem eqInts_self {v1 v2 : Value} {xs : List Int} {w : World} (h1 : Row w v1 1 xs.length (ints xs)) (h2 : Row w v2 1 xs.length (ints xs)) :
    Calls Try.prog 26 #[v1, v2] w fun e w' => e = .returned (.bool true) ∧ Below w.heap.size w w' :=
  (eq_any h1 h2).mono fun e w' h => ⟨by rw [h.1]; simp, h.2⟩
set_option maxRecDepth 100000 in
set_option maxHeartbeats 800000 in
theorem eqState_self {v1 v2 : Value} {xs : List Int} {w : World} (h1 : Row w v1 1 xs.length (ints xs)) (h2 : Row w v2 1 xs.length (ints xs)) (s : Int) :
    Calls Try.prog 12 #[state v1 s, state v2 s] w fun e w' => e = .returned (.bool true) ∧ Below w.heap.size w w' := by
  have hc := Lib.hid (fun (o o2 : Obj) => eqInts_self (h1.below (below2 w o o2)) (h2.below (below2 w o o2)))
  obtain ⟨A, c, rfl, -⟩ := h1
  obtain ⟨A2, c2, rfl, -⟩ := h2
  go_enter Try.func12, Try.ntmps12
  go_wp2_with fail
  refine (hc.out _ _).mono ?_
  rintro e w1 ⟨rfl, hb⟩
  obtain ⟨k0, k1, hsz⟩ := two w (.cells #[.slice A xs.length c, .int .i64 s] 31) (.cells #[.slice A2 xs.length c2, .int .i64 s] 31)
  rw [← hb.block _ (by omega)] at k0 k1
  have a0 : w1.cell? ⟨w.heap.size, 1, none⟩ = some (.int .i64 s) := by rw [cell_of_row w1 _ 1 _ _ (0, 0) k0]; rfl
  have a1 : w1.cell? ⟨w.heap.size + 1, 1, none⟩ = some (.int .i64 s) := by rw [cell_of_row w1 _ 1 _ _ (0, 0) k1]; rfl
  have hB := Lib.hid ((below2 w _ _).trans (hb.mono (by omega)))
  have d : (s != s) = false := by simp
  clear k0 k1 hsz hc hb
  go_wp2
  go_ret
  exact ⟨rfl, hB.out⟩
def lessState (xs ys : List Int) (s t : Int) : Bool := decide (s < t) || (s == t && decide (Compare.cmp xs ys < 0))
set_option maxRecDepth 100000 in
set_option maxHeartbeats 800000 in
theorem spec_less {v1 v2 : Value} {xs ys : List Int} {w : World} (h1 : Row w v1 1 xs.length (ints xs)) (h2 : Row w v2 1 ys.length (ints ys)) (s t : Int) :
    Calls Try.prog 31 #[state v1 s, state v2 t] w fun e w' => e = .returned (.bool (lessState xs ys s t)) ∧ Below w.heap.size w w' := by
  have hc := Lib.hid (fun (o o2 : Obj) => Compare.spec_Compare (h1.below (below2 w o o2)) (h2.below (below2 w o o2)))
  obtain ⟨A, c, rfl, -⟩ := h1
  obtain ⟨A2, c2, rfl, -⟩ := h2
  by_cases hlt : s < t
  · have d1 : decide (s < t) = true := by simpa using hlt
    have hv := Lib.hid (show lessState xs ys s t = true by simp [lessState, hlt])
    clear hc hlt
    go_enter Try.func31, Try.ntmps31
    go_wp2
    go_ret
    refine ⟨by rw [hv.out]; rfl, ?_⟩
    repeat (first | exact Below.refl _ _ | assumption | refine Below.setCell ?_ (by first | omega | (simp <;> omega)) _ | refine Below.alloc ?_ (by first | omega | (simp <;> omega)) _ | refine Below.drew ?_)
  · have d1 : decide (s < t) = false := by simpa using hlt
    by_cases he : s = t
    · subst he
      have d2 : (s == s) = true := by simp
      have hv := Lib.hid (show lessState xs ys s s = decide (Compare.cmp xs ys < 0) by simp [lessState])
      clear hlt
      generalize Compare.cmp xs ys = q at *
      go_enter Try.func31, Try.ntmps31
      go_wp2_with fail
      refine (hc.out _ _).mono ?_
      rintro e w1 ⟨rfl, hb⟩
      go_wp2
      go_ret
      refine ⟨by rw [hv.out]; rfl, ?_⟩
      exact (below2 w _ _).trans (hb.mono (by simp; omega))
    · have d2 : (s == t) = false := by simpa using he
      have hv := Lib.hid (show lessState xs ys s t = false by simp [lessState, hlt, he])
      clear hc hlt he
      go_enter Try.func31, Try.ntmps31
      go_wp2
      go_ret
      refine ⟨by rw [hv.out]; rfl, ?_⟩
      repeat (first | exact Below.refl _ _ | assumption | refine Below.setCell ?_ (by first | omega | (simp <;> omega)) _ | refine Below.alloc ?_ (by first | omega | (simp <;> omega)) _ | refine Below.drew ?_)
set_option maxRecDepth 100000 in
set_option maxHeartbeats 800000 in
theorem impl_less {v1 v2 : Value} {xs ys : List Int} {w : World} (h1 : Row w v1 1 xs.length (ints xs)) (h2 : Row w v2 1 ys.length (ints ys)) (s t : Int) :
    Calls Try.prog 32 #[state v1 s, state v2 t] w fun e w' => e = .returned (.bool (lessState xs ys s t)) ∧ Below w.heap.size w w' := by
  have hc := Lib.hid (fun (o o2 : Obj) => Compare.impl_Compare (h1.below (below2 w o o2)) (h2.below (below2 w o o2)))
  obtain ⟨A, c, rfl, -⟩ := h1
  obtain ⟨A2, c2, rfl, -⟩ := h2
  by_cases hlt : s < t
  · have d1 : decide (s < t) = true := by simpa using hlt
    have hv := Lib.hid (show lessState xs ys s t = true by simp [lessState, hlt])
    clear hc hlt
    go_enter Try.func32, Try.ntmps32
    go_wp2
    go_ret
    refine ⟨by rw [hv.out]; rfl, ?_⟩
    repeat (first | exact Below.refl _ _ | assumption | refine Below.setCell ?_ (by first | omega | (simp <;> omega)) _ | refine Below.alloc ?_ (by first | omega | (simp <;> omega)) _ | refine Below.drew ?_)
  · have d1 : decide (s < t) = false := by simpa using hlt
    by_cases he : s = t
    · subst he
      have d2 : (s == s) = true := by simp
      have hv := Lib.hid (show lessState xs ys s s = decide (Compare.cmp xs ys < 0) by simp [lessState])
      clear hlt
      generalize Compare.cmp xs ys = q at *
      go_enter Try.func32, Try.ntmps32
      go_wp2_with fail
      refine (hc.out _ _).mono ?_
      rintro e w1 ⟨rfl, rfl⟩
      go_wp2
      go_ret
      refine ⟨by rw [hv.out]; rfl, ?_⟩
      exact below2 w _ _
    · have d2 : (s == t) = false := by simpa using he
      have hv := Lib.hid (show lessState xs ys s t = false by simp [lessState, hlt, he])
      clear hc hlt he
      go_enter Try.func32, Try.ntmps32
      go_wp2
      go_ret
      refine ⟨by rw [hv.out]; rfl, ?_⟩
      repeat (first | exact Below.refl _ _ | assumption | refine Below.setCell ?_ (by first | omega | (simp <;> omega)) _ | refine Below.alloc ?_ (by first | omega | (simp <;> omega)) _ | refine Below.drew ?_)
end Go.Proofs.Ytocplbhgklfgeaa.State
