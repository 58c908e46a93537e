/-
  The contracts of the reference's further draws: l01Once, l01Pick, l01PickInt, l01Long, l01Number, l03Text and the draws of the lines.
  Conditions: the code that is drawn from reads as bytes; a list that is picked from lies in a block of its own.
-/
import Derived.Test.YtklhfjeonhjobaaDoorDraw
namespace Go.Proofs.YtklhfjeonhjobaaDoor.Draw
open Go.RowKit Go.Proofs.YtklhfjeonhjobaaDoor.Row Go.Proofs.YtklhfjeonhjobaaDoor.Mem Go.Proofs.YtklhfjeonhjobaaDoor.Mix Go.Proofs.YtklhfjeonhjobaaDoor.Owns Go.Proofs.YtklhfjeonhjobaaDoor.Blocks
theorem once_any {w : World} {c : Value} {g : Nat} (hc : Cur w c g) (n : Int) :
    Calls Tryd.prog 65 #[c, .int .i64 n] w fun e w' => ∃ b : Bool, e = .returned (.bool b) ∧ Cur w' c g ∧ Keep g w w' := by
  go_enter Tryd.func65, Tryd.ntmps65
  go_wp2_with fail
  refine (below_any hc n).mono ?_
  rintro e w1 ⟨x, -, -, -, rfl, c1, k1⟩
  clear hc
  go_wp2
  go_ret
  exact ⟨x == 0, rfl, c1, k1⟩
/-- a list in a block of its own -/
theorem list_at {w : World} {b : Nat} {arr : Array Value} {e : TypeId} {fr : Nat × Nat} (h : w.heap[b]? = some (.cells arr e fr)) (j : Nat) (u : Value) (hu : arr[j]? = some u) : w.cell? ⟨b, j, none⟩ = some u := by
  unfold World.cell?; rw [h]; simpa using hu
set_option maxHeartbeats 800000 in
/-- one of the texts of a list -/
theorem pick_any {w : World} {c : Value} {g : Nat} (hc : Cur w c g) (b : Nat) (xs : List ByteArray) (n : Nat) (e : TypeId) (fr : Nat × Nat) (hb : w.heap[b]? = some (.cells (xs.map Value.string).toArray e fr)) (hne : b ≠ g) (hn : xs.length = n) (h0 : 0 < n) (hm : n ≤ 1000) :
    Calls Tryd.prog 77 #[c, .slice (some ⟨b, 0, none⟩) n n] w fun e w' => ∃ s ∈ xs, e = .returned (.string s) ∧ Cur w' c g ∧ Keep g w w' := by
  have hbl := blk_lt hb
  go_enter Tryd.func77, Tryd.ntmps77
  go_wp2_with fail
  refine (below_any hc n).mono ?_
  rintro e w1 ⟨x, x0, x1, -, rfl, c1, k1⟩
  have x2 := x1 (by omega)
  clear x1
  obtain ⟨m, rfl⟩ := Int.eq_ofNat_of_zero_le x0
  have hmx : m < xs.length := by omega
  have c0 : w1.cell? ⟨b, m, none⟩ = some (.string xs[m]) := (k1.cell hbl hne).trans (list_at hb m _ (by simp [hmx]))
  have hmem : xs[m] ∈ xs := List.getElem_mem hmx
  generalize xs[m] = s at c0 hmem
  have hmem := Lib.hid hmem
  clear hc hb hmx
  go_wp2
  go_ret
  exact ⟨s, hmem.out, rfl, c1, k1⟩
set_option maxHeartbeats 800000 in
/-- one of the numbers of a list -/
theorem pickInt_any {w : World} {c : Value} {g : Nat} (hc : Cur w c g) (b : Nat) (xs : List Int) (n : Nat) (e : TypeId) (fr : Nat × Nat) (hb : w.heap[b]? = some (.cells (xs.map (Value.int .i64)).toArray e fr)) (hne : b ≠ g) (hn : xs.length = n) (h0 : 0 < n) (hm : n ≤ 1000) :
    Calls Tryd.prog 90 #[c, .slice (some ⟨b, 0, none⟩) n n] w fun e w' => ∃ s ∈ xs, e = .returned (.int .i64 s) ∧ Cur w' c g ∧ Keep g w w' := by
  have hbl := blk_lt hb
  go_enter Tryd.func90, Tryd.ntmps90
  go_wp2_with fail
  refine (below_any hc n).mono ?_
  rintro e w1 ⟨x, x0, x1, -, rfl, c1, k1⟩
  have x2 := x1 (by omega)
  clear x1
  obtain ⟨m, rfl⟩ := Int.eq_ofNat_of_zero_le x0
  have hmx : m < xs.length := by omega
  have c0 : w1.cell? ⟨b, m, none⟩ = some (.int .i64 xs[m]) := (k1.cell hbl hne).trans (list_at hb m _ (by simp [hmx]))
  have hmem : xs[m] ∈ xs := List.getElem_mem hmx
  generalize xs[m] = s at c0 hmem
  have hmem := Lib.hid hmem
  clear hc hb hmx
  go_wp2
  go_ret
  exact ⟨s, hmem.out, rfl, c1, k1⟩
theorem str_alloc (W : World) (cells : Array Value) (e : TypeId) (fr : Nat × Nat) : (W.alloc (.cells cells e fr)).heap[W.heap.size]? = some (.cells cells e fr) := heap_alloc_new W _
def l3 : List ByteArray := [⟨#[97]⟩, ⟨#[]⟩, ⟨#[116, 119, 111, 32, 119, 111, 114, 100, 115]⟩, ⟨#[32, 32, 105, 110]⟩, ⟨#[101, 110, 100, 32, 32]⟩]
theorem l3_size {s : ByteArray} (h : s ∈ l3) : s.size ≤ 9 := by
  simp only [l3, List.mem_cons, List.not_mem_nil, or_false] at h
  rcases h with rfl | rfl | rfl | rfl | rfl <;> decide
set_option maxRecDepth 100000 in
set_option maxHeartbeats 1600000 in
/-- a text of lines -/
theorem lined_any {w : World} {c : Value} {g : Nat} (hc : Cur w c g) :
    Calls Tryd.prog 70 #[c] w fun e w' => ∃ s : ByteArray, s.size ≤ 120 ∧ e = .returned (.string s) ∧ Cur w' c g ∧ Keep g w w' := by
  have k0 := keep_refl g w
  go_enter Tryd.func70, Tryd.ntmps70
  go_wp2
  go_loopw [3, 4] (fun s i wr => ∃ (k : Nat) (t : ByteArray), k ≤ 6 ∧ t.size ≤ 12 * k ∧ i = .int .i64 k ∧ s = .string t ∧ Cur wr c g ∧ Keep g w wr) (fun _ i _ => 6 - (intOf i).toNat)
  case atStart => exact ⟨0, ⟨#[]⟩, by omega, by decide, rfl, rfl, hc, k0⟩
  case round =>
    clear hc k0
    obtain ⟨k, t, hk, ht, rfl, rfl, hcw, hkw⟩ := hrel
    go_wp2_with fail
    refine (below_any hcw 6).mono ?_
    rintro e w1 ⟨x, x0, x1, -, rfl, c1, k1⟩
    have x2 := x1 (by omega)
    clear x1 hcw
    have k1' := keep_trans hkw k1
    clear hkw k1
    have l1 := c1.lt
    by_cases hlt : (k : Int) < x
    · have k7 : k < 6 := by omega
      have c2 := c1.below ((Below.refl w1.heap.size w1).alloc (Nat.le_refl _) (.cells (l3.map Value.string).toArray 9))
      have k2 := keep_below k1' ((Below.refl w1.heap.size w1).alloc (Nat.le_refl _) (.cells (l3.map Value.string).toArray 9))
      have hp := pick_any c2 w1.heap.size l3 5 _ _ (str_alloc w1 _ _ _) (by omega) rfl (by omega) (by omega)
      simp only [l3, List.map_cons, List.map_nil] at hp c2 k2
      replace hp := Lib.hid hp
      replace k2 := Lib.hid k2
      clear c2 c1 k1'
      go_wp2_with fail
      refine hp.out.mono ?_
      rintro e w2 ⟨s, hs, rfl, c3, k3⟩
      have hs9 : s.size ≤ 9 := l3_size hs
      clear hs hp
      have k4 := keep_trans k2.out k3
      clear k2 k3
      go_wp2_with fail
      refine (once_any c3 5).mono ?_
      rintro e w3 ⟨b, rfl, c5, k5⟩
      have k6 := keep_trans k4 k5
      clear c3 k4 k5
      cases b
      · go_wp2
        go_roundw
        case rel => exact ⟨k + 1, t ++ s ++ ⟨#[10]⟩, by omega, by simp only [ByteArray.size_append]; have : (⟨#[10]⟩ : ByteArray).size = 1 := rfl; omega, by go_num, rfl, c5, k6⟩
        case measure => simp [intOf]; omega
      · go_wp2
        go_roundw
        case rel => exact ⟨k + 1, t ++ s, by omega, by simp only [ByteArray.size_append]; omega, by go_num, rfl, c5, k6⟩
        case measure => simp [intOf]; omega
    · have d0 : decide ((k : Int) < x) = false := by simpa using hlt
      go_wp2
      go_ret
      exact ⟨t, by omega, rfl, c1, k1'⟩
theorem drawText_any {w : World} {v : Value} {bs : List Int} (h : Drawn w v bs) (hm : bs.length ≤ 1048576) :
    Calls Tryd.prog 28 #[v] w fun e w' => ∃ s : ByteArray, s.size ≤ 120 ∧ e = .returned (.string s) ∧ Below w.heap.size w w' := by
  go_enter Tryd.func28, Tryd.ntmps28
  go_wp2_with fail
  refine (new_any h hm).mono ?_
  rintro e w1 ⟨rfl, c1, b1⟩
  have s1 := b1.size
  go_wp2_with fail
  refine (lined_any c1).mono ?_
  rintro e w2 ⟨s, hs, rfl, -, k2⟩
  go_wp2
  go_ret
  exact ⟨s, hs, rfl, below_of_keep b1 k2 s1⟩
theorem drawPlaceOf_any {w : World} {v : Value} {bs : List Int} (h : Drawn w v bs) (hm : bs.length ≤ 1048576) :
    Calls Tryd.prog 33 #[v] w fun e w' => ∃ (s : ByteArray) (n : Int), s.size ≤ 120 ∧ -1 ≤ n ∧ n ≤ 30 ∧ e = .returned (.tuple #[.string s, .int .i64 n]) ∧ Below w.heap.size w w' := by
  go_enter Tryd.func33, Tryd.ntmps33
  go_wp2_with fail
  refine (new_any h hm).mono ?_
  rintro e w1 ⟨rfl, c1, b1⟩
  have s1 := b1.size
  go_wp2_with fail
  refine (below_any c1 24).mono ?_
  rintro e w2 ⟨x, x0, x1, -, rfl, c2, k2⟩
  have x2 := x1 (by omega)
  clear x1 c1
  go_wp2_with fail
  refine (lined_any c2).mono ?_
  rintro e w3 ⟨s, hs, rfl, -, k3⟩
  go_wp2
  refine bodyPost_ret (results_tmp2 rfl _ _ _) rfl ?_
  exact ⟨s, x - 1, hs, by omega, by omega, rfl, below_of_keep b1 (keep_trans k2 k3) s1⟩
def l4 : List ByteArray := [⟨#[]⟩, ⟨#[97]⟩, ⟨#[97, 32]⟩, ⟨#[32, 97, 32, 32]⟩, ⟨#[32, 32, 32]⟩, ⟨#[97, 32, 98]⟩]
theorem l4_size {s : ByteArray} (h : s ∈ l4) : s.size ≤ 9 := by
  simp only [l4, List.mem_cons, List.not_mem_nil, or_false] at h
  rcases h with rfl | rfl | rfl | rfl | rfl | rfl <;> decide
set_option maxRecDepth 100000 in
theorem drawTrimmed_any {w : World} {v : Value} {bs : List Int} (h : Drawn w v bs) (hm : bs.length ≤ 1048576) :
    Calls Tryd.prog 35 #[v] w fun e w' => ∃ s : ByteArray, s.size ≤ 9 ∧ e = .returned (.string s) ∧ Below w.heap.size w w' := by
  go_enter Tryd.func35, Tryd.ntmps35
  go_wp2_with fail
  refine (new_any h hm).mono ?_
  rintro e w1 ⟨rfl, c1, b1⟩
  have s1 := b1.size
  have l1 := c1.lt
  have c2 := c1.below ((Below.refl w1.heap.size w1).alloc (Nat.le_refl _) (.cells (l4.map Value.string).toArray 9))
  have b2 := b1.trans (((Below.refl w1.heap.size w1).alloc (Nat.le_refl _) (.cells (l4.map Value.string).toArray 9)).mono s1)
  have s2 := b2.size
  have hp := pick_any c2 w1.heap.size l4 6 _ _ (str_alloc w1 _ _ _) (by omega) rfl (by omega) (by omega)
  simp only [l4, List.map_cons, List.map_nil] at hp c2 b2 s2
  replace hp := Lib.hid hp
  replace b2 := Lib.hid b2
  replace s2 := Lib.hid s2
  clear c2 c1 b1
  go_wp2_with fail
  refine hp.out.mono ?_
  rintro e w2 ⟨s, hs, rfl, -, k3⟩
  have hs9 : s.size ≤ 9 := l4_size hs
  go_wp2
  go_ret
  exact ⟨s, hs9, rfl, below_of_keep b2.out k3 s2.out⟩
