/-
  The contracts of the reference's draws of signs: l04Signs, DrawSigns, DrawSignsOf, DrawSameSigns, DrawKeyWord, DrawMarkOk.
  Conditions: the code that is drawn from reads as bytes.
-/
import Derived.Test.YtklhfjeonhjobaaDoorPick2
import Derived.Test.YtklhfjeonhjobaaDoorScan2
import Derived.Test.YtklhfjeonhjobaaDoorLex6
import Derived.Test.YtklhfjeonhjobaaDoorMark
namespace Go.Proofs.YtklhfjeonhjobaaDoor.Draw
open Go.RowKit Go.Proofs.YtklhfjeonhjobaaDoor.Row Go.Proofs.YtklhfjeonhjobaaDoor.Mem Go.Proofs.YtklhfjeonhjobaaDoor.Mix Go.Proofs.YtklhfjeonhjobaaDoor.Owns Go.Proofs.YtklhfjeonhjobaaDoor.Blocks Go.Proofs.YtklhfjeonhjobaaDoor.Scan
open Go.Proofs.YtklhfjeonhjobaaDoor.Sign (Sign signs sign ESg)
theorem Cur.ne {w : World} {c : Value} {g b j : Nat} {u : Value} (h : Cur w c g) (hc : w.cell? ⟨b, j, none⟩ = some u) (hj : 3 ≤ j) : b ≠ g := by
  rintro rfl
  obtain ⟨_, A, n, cap, i, hh, bs, hb, _⟩ := h
  unfold World.cell? at hc
  rw [hb] at hc
  have h3 : (#[Value.slice A n cap, .int .i64 i, .int .i64 hh] : Array Value)[j]? = none := by
    rw [Array.getElem?_eq_none]; exact hj
  simp [h3] at hc
set_option maxHeartbeats 800000 in
/-- one of the texts of a list, wherever it lies -/
theorem pick_at {w : World} {c : Value} {g : Nat} (hc : Cur w c g) {A : Option Addr} (xs : List ByteArray) (n : Nat) (hr : Row w (.slice A n n) 1 n (Strs.strs xs)) (hn : xs.length = n) (h3 : 3 < n) (hm : n ≤ 1000) :
    Calls Tryd.prog 77 #[c, .slice A n n] w fun e w' => ∃ s ∈ xs, e = .returned (.string s) ∧ Cur w' c g ∧ Keep g w w' := by
  obtain ⟨A', c', hv, -, -, -, -, ha⟩ := hr
  cases hv
  obtain ⟨b, off, rfl, hbl, hcell⟩ := ha (by omega)
  have hne : b ≠ g := hc.ne (hcell 3 _ (Strs.at_str (show 3 < xs.length by omega))) (by omega)
  go_enter Tryd.func77, Tryd.ntmps77
  go_wp2_with fail
  refine (below_any hc n).mono ?_
  rintro e w1 ⟨x, x0, x1, -, rfl, c1, k1⟩
  have x2 := x1 (by omega)
  clear x1
  obtain ⟨m, rfl⟩ := Int.eq_ofNat_of_zero_le x0
  have hmx : m < xs.length := by omega
  have c0 : w1.cell? ⟨b, off + m, none⟩ = some (.string xs[m]) := (k1.cell hbl hne).trans (hcell m _ (Strs.at_str hmx))
  have hmem : xs[m] ∈ xs := List.getElem_mem hmx
  generalize xs[m] = s at c0 hmem
  have hmem := Lib.hid hmem
  clear hc ha hcell hmx
  go_wp2
  go_ret
  exact ⟨s, hmem.out, rfl, c1, k1⟩
def Fit (x : Sign) : Prop := Scan.Good x.k x.t ∧ x.t.size ≤ 14
def s1 : List ByteArray := [⟨#[97]⟩, ⟨#[99, 108, 97, 115, 115]⟩, ⟨#[95, 120, 49]⟩, ⟨#[66, 105, 103]⟩]
theorem s1_good {s : ByteArray} (h : s ∈ s1) : Scan.Good 1 s ∧ s.size ≤ 14 := by
  simp only [s1, List.mem_cons, List.not_mem_nil, or_false] at h
  rcases h with rfl | rfl | rfl | rfl
  · exact ⟨.name _ 97 [] rfl (by decide) (by decide) (by decide), by decide⟩
  · exact ⟨.name _ 99 [108, 97, 115, 115] rfl (by decide) (by decide) (by decide), by decide⟩
  · exact ⟨.name _ 95 [120, 49] rfl (by decide) (by decide) (by decide), by decide⟩
  · exact ⟨.name _ 66 [105, 103] rfl (by decide) (by decide) (by decide), by decide⟩
def s2 : List ByteArray := [⟨#[48]⟩, ⟨#[49, 50, 51, 52, 53, 54, 55, 56, 57, 48, 49, 50]⟩, ⟨#[55]⟩]
theorem s2_good {s : ByteArray} (h : s ∈ s2) : Scan.Good 2 s ∧ s.size ≤ 14 := by
  simp only [s2, List.mem_cons, List.not_mem_nil, or_false] at h
  rcases h with rfl | rfl | rfl
  · exact ⟨.num _ 48 [] rfl (by decide) (by decide) (by decide), by decide⟩
  · exact ⟨.num _ 49 [50, 51, 52, 53, 54, 55, 56, 57, 48, 49, 50] rfl (by decide) (by decide) (by decide), by decide⟩
  · exact ⟨.num _ 55 [] rfl (by decide) (by decide) (by decide), by decide⟩
def s3 : List ByteArray := [⟨#[39, 39]⟩, ⟨#[39, 97, 32, 98, 39]⟩, ⟨#[39, 47, 47, 39]⟩]
theorem s3_good {s : ByteArray} (h : s ∈ s3) : Scan.Good 3 s ∧ s.size ≤ 14 := by
  simp only [s3, List.mem_cons, List.not_mem_nil, or_false] at h
  rcases h with rfl | rfl | rfl
  · exact ⟨.quo _ [] rfl (by decide), by decide⟩
  · exact ⟨.quo _ [97, 32, 98] rfl (by decide), by decide⟩
  · exact ⟨.quo _ [47, 47] rfl (by decide), by decide⟩
def s5 : List ByteArray := [⟨#[47, 47]⟩, ⟨#[47, 47, 32, 115, 97, 105, 100]⟩, ⟨#[47, 47, 97, 32, 32, 98]⟩]
theorem s5_good {s : ByteArray} (h : s ∈ s5) : Scan.Good 5 s ∧ s.size ≤ 14 := by
  simp only [s5, List.mem_cons, List.not_mem_nil, or_false] at h
  rcases h with rfl | rfl | rfl
  · exact ⟨.note _ [] rfl (by decide) (by first | rfl | decide), by decide⟩
  · exact ⟨.note _ [32, 115, 97, 105, 100] rfl (by decide) (by first | rfl | decide), by decide⟩
  · exact ⟨.note _ [97, 32, 32, 98] rfl (by decide) (by first | rfl | decide), by decide⟩
theorem s4_good {s : ByteArray} (h : s ∈ Mark.marks) : Scan.Good 4 s ∧ s.size ≤ 14 := by
  unfold Mark.marks at h
  rcases List.mem_append.1 h with h | h
  · have hz : ∀ s ∈ Mark.two, s.size ≤ 14 := by decide
    exact ⟨.mark2 s h, hz s h⟩
  · obtain ⟨c, hc, rfl⟩ := List.mem_map.1 h
    exact ⟨.mark1 c hc, by show 1 ≤ 14; omega⟩
theorem signs_snoc (xs : List Sign) (k : Int) (s : ByteArray) : signs xs ++ [.int .i64 k, .string s, .int .i64 0, .bool false] = signs (xs ++ [⟨k, s, 0, false⟩]) := by simp [signs, Sign.Sign.cells]
theorem fit_snoc {xs : List Sign} {k : Int} {s : ByteArray} (h : ∀ x ∈ xs, Fit x) (hs : Scan.Good k s ∧ s.size ≤ 14) : ∀ x ∈ xs ++ [⟨k, s, 0, false⟩], Fit x := by
  intro x hx
  rcases List.mem_append.1 hx with hx | hx
  · exact h x hx
  · obtain rfl := List.mem_singleton.1 hx; exact hs
set_option maxRecDepth 100000 in
set_option maxHeartbeats 3200000 in
/-- right signs -/
theorem signs_any {w : World} {c : Value} {g : Nat} (hc : Cur w c g) :
    Calls Tryd.prog 82 #[c] w fun e w' => ∃ (v' : Value) (xs : List Sign), xs.length ≤ 9 ∧ (∀ x ∈ xs, Fit x) ∧ e = .returned v' ∧ w'.ownsRow w.heap.size 61 4 v' xs.length (signs xs) ∧ Cur w' c g ∧ Keep g w w' := by
  have hg := hc.lt
  have k0 := keep_below (keep_refl g w) ((Below.refl w.heap.size w).alloc (Nat.le_refl _) (.cells #[] 61))
  have c0 := hc.below ((Below.refl w.heap.size w).alloc (Nat.le_refl _) (.cells #[] 61))
  replace hc := Lib.hid hc
  go_enter Tryd.func82, Tryd.ntmps82
  go_wp2
  go_loopw [3, 4] (fun o i wr => ∃ (k : Nat) (xs : List Sign), k ≤ 9 ∧ xs.length = k ∧ Hid (∀ x ∈ xs, Fit x) ∧ i = .int .i64 k ∧ wr.ownsRow w.heap.size 61 4 o xs.length (signs xs) ∧ Cur wr c g ∧ Keep g w wr) (fun _ i _ => 9 - (intOf i).toNat)
  case atStart => exact ⟨0, [], by omega, rfl, Lib.hid (by simp), rfl, own_emptyG w _ 4, c0, k0⟩
  case round =>
    clear c0 k0
    obtain ⟨k, xs, hk, hxl, hfit, rfl, hown, hcw, hkw⟩ := hrel
    go_wp2_with fail
    refine (below_any hcw 9).mono ?_
    rintro e w1 ⟨x, x0, x1, -, rfl, c1, k1⟩
    have x2 := x1 (by omega)
    clear x1 hcw
    replace hown := own_keep hown k1 hg
    replace k1 := keep_trans hkw k1
    clear hkw
    by_cases hlt : (k : Int) < x
    · have k8 : k < 9 := by omega
      go_wp2_with fail
      refine (below_any c1 5).mono ?_
      rintro e w2 ⟨y, y0, y1, -, rfl, c2, k2⟩
      have y2 := y1 (by omega)
      clear y1 c1
      replace hown := own_keep hown k2 hg
      replace k2 := keep_trans k1 k2
      clear k1
      have l2 := c2.lt
      by_cases q0 : y = 0
      · subst q0
        have c3 := c2.below ((Below.refl w2.heap.size w2).alloc (Nat.le_refl _) (.cells (s1.map Value.string).toArray 9))
        have k3 := keep_below k2 ((Below.refl w2.heap.size w2).alloc (Nat.le_refl _) (.cells (s1.map Value.string).toArray 9))
        have own3 := own_below hown ((Below.refl w2.heap.size w2).alloc (Nat.le_refl _) (.cells (s1.map Value.string).toArray 9))
        have hp := pick_any c3 w2.heap.size s1 4 _ _ (str_alloc w2 _ _ _) (by omega) rfl (by omega) (by omega)
        simp only [s1, List.map_cons, List.map_nil] at hp c3 k3 own3
        replace hp := Lib.hid hp
        replace k3 := Lib.hid k3
        replace own3 := Lib.hid own3
        clear c3 c2 k2 hown
        go_wp2_with fail
        refine hp.out.mono ?_
        rintro e w4 ⟨s, hs, rfl, c4, k4⟩
        have hsg := s1_good hs
        clear hs hp
        have own4 := own_keep own3.out k4 hg
        replace k4 := keep_trans k3.out k4
        clear own3 k3
        have s4 := k4.size
        obtain ⟨v', w', hrun, hown', hgr, -⟩ := append_b ESg own4 s4 w4.heap.size rfl [.int .i64 1, .string s, .int .i64 0, .bool false] 1 rfl (by simp [Value.oneCell']) (by simp only [maxLen]; omega) (by omega)
        rw [signs_snoc] at hown'
        have hfit' := Lib.hid (fit_snoc hfit.out hsg)
        have hr : ∀ q, (_ : Value).ownBlock = some q → w.heap.size ≤ q := fun q hq => (own4.lt q hq).1
        have hc2 := Lib.hid (c4.grown hgr (fun q hq => Nat.lt_of_lt_of_le hg (hr q hq)))
        have hk2 := Lib.hid (keep_grown k4 hgr hr)
        replace hown' := Lib.hid hown'
        clear hgr hr own4 k4 c4 hsg hfit
        go_wp2_with (at_builtin; refine wpList_append_run rfl rfl hrun ?_)
        go_roundw
        case rel => exact ⟨k + 1, xs ++ [⟨1, s, 0, false⟩], by omega, by simp [hxl], hfit'.out |> Lib.hid, by go_num, by rw [List.length_append]; exact hown'.out, hc2.out, hk2.out⟩
        case measure => simp [intOf]; omega
      · have f0 : (y == 0) = false := beq_eq_false_iff_ne.2 q0
        by_cases q1 : y = 1
        · subst q1
          have c3 := c2.below ((Below.refl w2.heap.size w2).alloc (Nat.le_refl _) (.cells (s2.map Value.string).toArray 9))
          have k3 := keep_below k2 ((Below.refl w2.heap.size w2).alloc (Nat.le_refl _) (.cells (s2.map Value.string).toArray 9))
          have own3 := own_below hown ((Below.refl w2.heap.size w2).alloc (Nat.le_refl _) (.cells (s2.map Value.string).toArray 9))
          have hp := pick_any c3 w2.heap.size s2 3 _ _ (str_alloc w2 _ _ _) (by omega) rfl (by omega) (by omega)
          simp only [s2, List.map_cons, List.map_nil] at hp c3 k3 own3
          replace hp := Lib.hid hp
          replace k3 := Lib.hid k3
          replace own3 := Lib.hid own3
          clear c3 c2 k2 hown
          go_wp2_with fail
          refine hp.out.mono ?_
          rintro e w4 ⟨s, hs, rfl, c4, k4⟩
          have hsg := s2_good hs
          clear hs hp
          have own4 := own_keep own3.out k4 hg
          replace k4 := keep_trans k3.out k4
          clear own3 k3
          have s4 := k4.size
          obtain ⟨v', w', hrun, hown', hgr, -⟩ := append_b ESg own4 s4 w4.heap.size rfl [.int .i64 2, .string s, .int .i64 0, .bool false] 1 rfl (by simp [Value.oneCell']) (by simp only [maxLen]; omega) (by omega)
          rw [signs_snoc] at hown'
          have hfit' := Lib.hid (fit_snoc hfit.out hsg)
          have hr : ∀ q, (_ : Value).ownBlock = some q → w.heap.size ≤ q := fun q hq => (own4.lt q hq).1
          have hc2 := Lib.hid (c4.grown hgr (fun q hq => Nat.lt_of_lt_of_le hg (hr q hq)))
          have hk2 := Lib.hid (keep_grown k4 hgr hr)
          replace hown' := Lib.hid hown'
          clear hgr hr own4 k4 c4 hsg hfit
          go_wp2_with (at_builtin; refine wpList_append_run rfl rfl hrun ?_)
          go_roundw
          case rel => exact ⟨k + 1, xs ++ [⟨2, s, 0, false⟩], by omega, by simp [hxl], hfit'.out |> Lib.hid, by go_num, by rw [List.length_append]; exact hown'.out, hc2.out, hk2.out⟩
          case measure => simp [intOf]; omega
        · have f1 : (y == 1) = false := beq_eq_false_iff_ne.2 q1
          by_cases q2 : y = 2
          · subst q2
            have c3 := c2.below ((Below.refl w2.heap.size w2).alloc (Nat.le_refl _) (.cells (s3.map Value.string).toArray 9))
            have k3 := keep_below k2 ((Below.refl w2.heap.size w2).alloc (Nat.le_refl _) (.cells (s3.map Value.string).toArray 9))
            have own3 := own_below hown ((Below.refl w2.heap.size w2).alloc (Nat.le_refl _) (.cells (s3.map Value.string).toArray 9))
            have hp := pick_any c3 w2.heap.size s3 3 _ _ (str_alloc w2 _ _ _) (by omega) rfl (by omega) (by omega)
            simp only [s3, List.map_cons, List.map_nil] at hp c3 k3 own3
            replace hp := Lib.hid hp
            replace k3 := Lib.hid k3
            replace own3 := Lib.hid own3
            clear c3 c2 k2 hown
            go_wp2_with fail
            refine hp.out.mono ?_
            rintro e w4 ⟨s, hs, rfl, c4, k4⟩
            have hsg := s3_good hs
            clear hs hp
            have own4 := own_keep own3.out k4 hg
            replace k4 := keep_trans k3.out k4
            clear own3 k3
            have s4 := k4.size
            obtain ⟨v', w', hrun, hown', hgr, -⟩ := append_b ESg own4 s4 w4.heap.size rfl [.int .i64 3, .string s, .int .i64 0, .bool false] 1 rfl (by simp [Value.oneCell']) (by simp only [maxLen]; omega) (by omega)
            rw [signs_snoc] at hown'
            have hfit' := Lib.hid (fit_snoc hfit.out hsg)
            have hr : ∀ q, (_ : Value).ownBlock = some q → w.heap.size ≤ q := fun q hq => (own4.lt q hq).1
            have hc2 := Lib.hid (c4.grown hgr (fun q hq => Nat.lt_of_lt_of_le hg (hr q hq)))
            have hk2 := Lib.hid (keep_grown k4 hgr hr)
            replace hown' := Lib.hid hown'
            clear hgr hr own4 k4 c4 hsg hfit
            go_wp2_with (at_builtin; refine wpList_append_run rfl rfl hrun ?_)
            go_roundw
            case rel => exact ⟨k + 1, xs ++ [⟨3, s, 0, false⟩], by omega, by simp [hxl], hfit'.out |> Lib.hid, by go_num, by rw [List.length_append]; exact hown'.out, hc2.out, hk2.out⟩
            case measure => simp [intOf]; omega
          · have f2 : (y == 2) = false := beq_eq_false_iff_ne.2 q2
            by_cases q3 : y = 3
            · subst q3
              have c3 := c2.below ((Below.refl w2.heap.size w2).alloc (Nat.le_refl _) (.cells (s5.map Value.string).toArray 9))
              have k3 := keep_below k2 ((Below.refl w2.heap.size w2).alloc (Nat.le_refl _) (.cells (s5.map Value.string).toArray 9))
              have own3 := own_below hown ((Below.refl w2.heap.size w2).alloc (Nat.le_refl _) (.cells (s5.map Value.string).toArray 9))
              have hp := pick_any c3 w2.heap.size s5 3 _ _ (str_alloc w2 _ _ _) (by omega) rfl (by omega) (by omega)
              simp only [s5, List.map_cons, List.map_nil] at hp c3 k3 own3
              replace hp := Lib.hid hp
              replace k3 := Lib.hid k3
              replace own3 := Lib.hid own3
              clear c3 c2 k2 hown
              go_wp2_with fail
              refine hp.out.mono ?_
              rintro e w4 ⟨s, hs, rfl, c4, k4⟩
              have hsg := s5_good hs
              clear hs hp
              have own4 := own_keep own3.out k4 hg
              replace k4 := keep_trans k3.out k4
              clear own3 k3
              have s4 := k4.size
              obtain ⟨v', w', hrun, hown', hgr, -⟩ := append_b ESg own4 s4 w4.heap.size rfl [.int .i64 5, .string s, .int .i64 0, .bool false] 1 rfl (by simp [Value.oneCell']) (by simp only [maxLen]; omega) (by omega)
              rw [signs_snoc] at hown'
              have hfit' := Lib.hid (fit_snoc hfit.out hsg)
              have hr : ∀ q, (_ : Value).ownBlock = some q → w.heap.size ≤ q := fun q hq => (own4.lt q hq).1
              have hc2 := Lib.hid (c4.grown hgr (fun q hq => Nat.lt_of_lt_of_le hg (hr q hq)))
              have hk2 := Lib.hid (keep_grown k4 hgr hr)
              replace hown' := Lib.hid hown'
              clear hgr hr own4 k4 c4 hsg hfit
              go_wp2_with (at_builtin; refine wpList_append_run rfl rfl hrun ?_)
              go_roundw
              case rel => exact ⟨k + 1, xs ++ [⟨5, s, 0, false⟩], by omega, by simp [hxl], hfit'.out |> Lib.hid, by go_num, by rw [List.length_append]; exact hown'.out, hc2.out, hk2.out⟩
              case measure => simp [intOf]; omega
            · have f3 : (y == 3) = false := beq_eq_false_iff_ne.2 q3
              go_wp2_with fail
              refine (Mark.marks_any _).mono ?_
              rintro e w3 ⟨A, rfl, hr, b3⟩
              have c3 := c2.below b3
              have k3 := keep_below k2 b3
              have own3 := own_below hown b3
              clear c2 k2 hown b3
              have hp := Lib.hid (pick_at c3 Mark.marks 21 hr rfl (by omega) (by omega))
              obtain ⟨A1, c5, hv, -, -, -, -, -⟩ := hr
              cases hv
              replace k3 := Lib.hid k3
              replace own3 := Lib.hid own3
              clear c3
              go_wp2_with fail
              refine hp.out.mono ?_
              rintro e w4 ⟨s, hs, rfl, c4, k4⟩
              have hsg := s4_good hs
              clear hs hp
              have own4 := own_keep own3.out k4 hg
              replace k4 := keep_trans k3.out k4
              clear own3 k3
              have s4 := k4.size
              obtain ⟨v', w', hrun, hown', hgr, -⟩ := append_b ESg own4 s4 w4.heap.size rfl [.int .i64 4, .string s, .int .i64 0, .bool false] 1 rfl (by simp [Value.oneCell']) (by simp only [maxLen]; omega) (by omega)
              rw [signs_snoc] at hown'
              have hfit' := Lib.hid (fit_snoc hfit.out hsg)
              have hr : ∀ q, (_ : Value).ownBlock = some q → w.heap.size ≤ q := fun q hq => (own4.lt q hq).1
              have hc2 := Lib.hid (c4.grown hgr (fun q hq => Nat.lt_of_lt_of_le hg (hr q hq)))
              have hk2 := Lib.hid (keep_grown k4 hgr hr)
              replace hown' := Lib.hid hown'
              clear hgr hr own4 k4 c4 hsg hfit
              go_wp2_with (at_builtin; refine wpList_append_run rfl rfl hrun ?_)
              go_roundw
              case rel => exact ⟨k + 1, xs ++ [⟨4, s, 0, false⟩], by omega, by simp [hxl], hfit'.out |> Lib.hid, by go_num, by rw [List.length_append]; exact hown'.out, hc2.out, hk2.out⟩
              case measure => simp [intOf]; omega
    · have d0 : decide ((k : Int) < x) = false := by simpa using hlt
      go_wp2
      go_ret
      exact ⟨_, xs, by omega, hfit.out, rfl, hown, c1, k1⟩
end Go.Proofs.YtklhfjeonhjobaaDoor.Draw
