/-
  The contracts of spec.l07Left, impl.isSpare and impl.withoutSpare: a list without each comma ahead of a closing bracket.
  Conditions: the slice reads as a list of signs, of 2^40 at most.
-/
import Derived.Test.YtfcifkanckgchaaSame
namespace Go.Proofs.Ytfcifkanckgchaa.Sign
open Go.RowKit Go.Proofs.Ytfcifkanckgchaa.Row Go.Proofs.Ytfcifkanckgchaa.Mem Go.Proofs.Ytfcifkanckgchaa.Mix Go.Proofs.Ytfcifkanckgchaa.Recs
def spareAt (x y : Sign) : Bool := (x.k == 4) && (x.t.toList == [44]) && (y.k == 4) && ((y.t.toList == [41]) || (y.t.toList == [93]))
def spare (xs : List Sign) (k : Nat) : Bool := match xs[k]?, xs[k + 1]? with
  | some x, some y => spareAt x y
  | _, _ => false
def kept (xs : List Sign) : Nat → List Sign
  | 0 => []
  | k + 1 => kept xs k ++ (match xs[k]? with | some x => if spare xs k then [] else [x] | none => [])
theorem spare_in {xs : List Sign} {k : Nat} (h : k + 1 < xs.length) : spare xs k = spareAt xs[k] xs[k + 1] := by
  unfold spare
  rw [List.getElem?_eq_getElem (show k < xs.length by omega), List.getElem?_eq_getElem h]
theorem spare_last {xs : List Sign} {k : Nat} (h : ¬ k + 1 < xs.length) : spare xs k = false := by
  unfold spare
  rw [List.getElem?_eq_none (show xs.length ≤ k + 1 by omega)]
  split <;> simp_all
theorem kept_on {xs : List Sign} {k : Nat} (h : k < xs.length) (hs : spare xs k = false) : kept xs (k + 1) = kept xs k ++ [xs[k]] := by simp [kept, h, hs]
theorem kept_off {xs : List Sign} {k : Nat} (hs : spare xs k = true) : kept xs (k + 1) = kept xs k := by
  simp only [kept, hs, if_true]
  split <;> simp
theorem kept_len (xs : List Sign) : ∀ k, (kept xs k).length ≤ k
  | 0 => by simp [kept]
  | k + 1 => by
    have := kept_len xs k
    simp only [kept, List.length_append]
    split
    · split <;> simp <;> omega
    · simp; omega
theorem signs_snoc (l : List Sign) (x : Sign) : signs l ++ [.int .i64 x.k, .string x.t, .int .i64 x.a, .bool x.b] = signs (l ++ [x]) := by
  simp [signs, Sign.cells]
theorem own_below {w w' : World} {base : Nat} {e : TypeId} {size : Nat} {v : Value} {n : Nat} {xs : List Value} (h : w.ownsRow base e size v n xs) (k : Below w.heap.size w w') : w'.ownsRow base e size v n xs :=
  h.kept (row := none) ⟨k.os, k.tape, k.output, k.size, fun i hi _ => k.block i hi⟩ (by cases v.ownBlock <;> simp)
theorem own_empty (w : World) (e : TypeId) (size : Nat) : (w.alloc (.cells #[] e)).ownsRow w.heap.size e size (.slice (some ⟨w.heap.size, 0, none⟩) 0 0) 0 [] := by
  refine ⟨by simp, .inr ⟨w.heap.size, 0, #[], rfl, Nat.le_refl _, heap_alloc_new w _, by omega, by simp [maxLen], by simp, by simp⟩⟩
set_option maxRecDepth 100000 in
set_option maxHeartbeats 1600000 in
theorem isSpare_any {v : Value} {xs : List Sign} {w : World} (h1 : Row w v 4 xs.length (signs xs)) {k : Nat} (hk : k < xs.length) (hmx : xs.length ≤ 1099511627776) :
    Calls Try.prog 76 #[v, .int .i64 k] w fun e w' => e = .returned (.bool (spare xs k)) ∧ Below w.heap.size w w' := by
  obtain ⟨A, c, rfl, -, hn, hnc, hcm, ha⟩ := h1
  obtain ⟨b, off, rfl, hb, hc⟩ := ha (by omega)
  obtain ⟨p0, p1, p2, p3⟩ := cells4 hc hk
  have z3 : b ≠ w.heap.size := by omega
  by_cases h1 : k + 1 < xs.length
  · have hs := Lib.hid (spare_in h1)
    obtain ⟨q0, q1, q2, q3⟩ := cells4 hc h1
    clear hc ha p2 p3
    have d1 : decide ((xs.length : Int) ≤ (k : Int) + 1) = false := by simp; omega
    go_enter Try.func76, Try.ntmps76
    go_wp2
    all_goals
      go_ret
      refine ⟨by rw [hs.out]; simp_all [spareAt], ?_⟩
      repeat (first | exact Below.refl _ _ | assumption | refine Below.setCell ?_ (by first | omega | (simp <;> omega)) _ | refine Below.alloc ?_ (by first | omega | (simp <;> omega)) _ | refine Below.drew ?_)
  · have hs := Lib.hid (spare_last h1)
    clear hc ha p2 p3
    have d1 : decide ((xs.length : Int) ≤ (k : Int) + 1) = true := by simp; omega
    go_enter Try.func76, Try.ntmps76
    go_wp2
    go_ret
    exact ⟨by rw [hs.out]; rfl, Below.refl _ _⟩
set_option maxRecDepth 100000 in
set_option maxHeartbeats 1600000 in
theorem impl_kept {v : Value} {xs : List Sign} {w : World} (h1 : Row w v 4 xs.length (signs xs)) (hmx : xs.length ≤ 1048576) :
    Calls Try.prog 62 #[v] w fun e w' => ∃ v', e = .returned v' ∧ Row w' v' 4 (kept xs xs.length).length (signs (kept xs xs.length)) ∧ Below w.heap.size w w' := by
  have g1 := Lib.hid h1
  obtain ⟨A, c, rfl, -, hn, hnc, hcm, ha⟩ := h1
  go_enter Try.func62, Try.ntmps62
  go_wp2
  go_loopw [3, 8] (fun o i wr => ∃ k : Nat, k ≤ xs.length ∧ i = .int .i64 k ∧ wr.ownsRow w.heap.size 63 4 o (kept xs k).length (signs (kept xs k)) ∧ Below w.heap.size w wr) (fun _ i _ => xs.length - (intOf i).toNat)
  case atStart => exact ⟨0, by omega, rfl, ⟨by simp [kept], .inl ⟨rfl, rfl⟩⟩, Below.refl _ _⟩
  case round =>
    obtain ⟨k, hk, rfl, hown, hbw⟩ := hrel
    have hs := hbw.size
    by_cases hlt : k < xs.length
    · obtain ⟨b, off, rfl, hb, hc⟩ := ha (by omega)
      obtain ⟨p0, p1, p2, p3⟩ := cells4 (fun j u hu => (cells_of hbw b _ hb).trans (hc j u hu)) hlt
      clear hc ha
      have z3 : b ≠ wr.heap.size := by omega
      have hkl := kept_len xs k
      have hrow : ∀ o, Row (wr.alloc o) (.slice (some ⟨b, off, none⟩) xs.length c) 4 xs.length (signs xs) := fun o => g1.out.below (hbw.alloc hs o |>.mono (Nat.le_refl _))
      replace hrow := Lib.hid hrow
      have ho1 := Lib.hid (fun o => own_below hown ((Below.refl wr.heap.size wr).alloc (Nat.le_refl _) o))
      have hb1 := Lib.hid (fun o => hbw.alloc hs o)
      cases hsp : spare xs k
      · have hcall := Lib.hid (fun (W : World) (hW : Row W (.slice (some ⟨b, off, none⟩) xs.length c) 4 xs.length (signs xs)) => isSpare_any hW hlt (by omega))
        rw [hsp] at hcall
        have hon := Lib.hid (kept_on hlt hsp)
        clear hsp hown hbw
        go_wp2_with fail
        refine (hcall.out _ (hrow.out _)).mono ?_
        rintro e w1 ⟨rfl, hb2⟩
        have hown1 := own_below (ho1.out _) hb2
        have hbw1 := (hb1.out _).trans (hb2.mono (hb1.out _).size)
        have hG : w1.heap[wr.heap.size]? = some (.cells #[.int .i64 xs[k].k, .string xs[k].t, .int .i64 xs[k].a, .bool xs[k].b] 63 (0, 0)) := (hb2.block wr.heap.size (by simp)).trans (heap_alloc_new wr _)
        have g0 : w1.cell? ⟨wr.heap.size, 0, none⟩ = some (.int .i64 xs[k].k) := by rw [cell_of_row w1 _ 0 _ _ (0, 0) hG]; rfl
        have g1' : w1.cell? ⟨wr.heap.size, 1, none⟩ = some (.string xs[k].t) := by rw [cell_of_row w1 _ 1 _ _ (0, 0) hG]; rfl
        have g2' : w1.cell? ⟨wr.heap.size, 2, none⟩ = some (.int .i64 xs[k].a) := by rw [cell_of_row w1 _ 2 _ _ (0, 0) hG]; rfl
        have g3' : w1.cell? ⟨wr.heap.size, 3, none⟩ = some (.bool xs[k].b) := by rw [cell_of_row w1 _ 3 _ _ (0, 0) hG]; rfl
        obtain ⟨v', w', hrun, hown', hb', -, -⟩ := append_new ESg hown1 hbw1 [.int .i64 xs[k].k, .string xs[k].t, .int .i64 xs[k].a, .bool xs[k].b] 1 rfl (by simp [Value.oneCell']) (by simp only [maxLen]; omega) (by omega)
        rw [signs_snoc, ← List.length_singleton (a := xs[k]), ← List.length_append, ← hon.out] at hown'
        replace hown' := Lib.hid hown'
        replace hb' := Lib.hid hb'
        clear hG hb2 hown1 hbw1 ho1 hb1 hcall hrow p0 p1 p2 p3
        go_wp2_with (at_builtin; refine wpList_append_run rfl rfl hrun ?_)
        go_roundw
        case rel => exact ⟨k + 1, by omega, by go_num, hown'.out, hb'.out⟩
        case measure => simp [intOf]; omega
      · have hcall := Lib.hid (fun (W : World) (hW : Row W (.slice (some ⟨b, off, none⟩) xs.length c) 4 xs.length (signs xs)) => isSpare_any hW hlt (by omega))
        rw [hsp] at hcall
        have hon := Lib.hid (kept_off hsp)
        clear hsp hown hbw
        go_wp2_with fail
        refine (hcall.out _ (hrow.out _)).mono ?_
        rintro e w1 ⟨rfl, hb2⟩
        have hown1 := Lib.hid (own_below (ho1.out _) hb2)
        have hbw1 := Lib.hid ((hb1.out _).trans (hb2.mono (hb1.out _).size))
        clear hb2 ho1 hb1 hcall hrow p0 p1 p2 p3
        go_wp2
        go_roundw
        case rel => exact ⟨k + 1, by omega, by go_num, by rw [hon.out]; exact hown1.out, hbw1.out⟩
        case measure => simp [intOf]; omega
    · obtain rfl : k = xs.length := by omega
      have hr := row_of_owns hown
      obtain ⟨A', c', rfl, -⟩ := id hr
      replace hr := Lib.hid hr
      go_wp2
      go_ret
      exact ⟨_, rfl, hr.out, hbw⟩
set_option maxRecDepth 100000 in
set_option maxHeartbeats 3200000 in
theorem spec_kept {v : Value} {xs : List Sign} {w : World} (h1 : Row w v 4 xs.length (signs xs)) (hmx : xs.length ≤ 1048576) :
    Calls Try.prog 61 #[v] w fun e w' => ∃ v', e = .returned v' ∧ Row w' v' 4 (kept xs xs.length).length (signs (kept xs xs.length)) ∧ Below w.heap.size w w' := by
  obtain ⟨A, c, rfl, -, hn, hnc, hcm, ha⟩ := h1
  go_enter Try.func61, Try.ntmps61
  go_wp2
  go_loopw [3, 4] (fun o i wr => ∃ k : Nat, k ≤ xs.length ∧ i = .int .i64 k ∧ wr.ownsRow w.heap.size 63 4 o (kept xs k).length (signs (kept xs k)) ∧ Below w.heap.size w wr) (fun _ i _ => xs.length - (intOf i).toNat)
  case atStart => exact ⟨0, by omega, rfl, own_empty w _ 4, (Below.refl _ _).alloc (Nat.le_refl _) _⟩
  case round =>
    obtain ⟨k, hk, rfl, hown, hbw⟩ := hrel
    have hs := hbw.size
    by_cases hlt : k < xs.length
    · obtain ⟨b, off, rfl, hb, hc⟩ := ha (by omega)
      obtain ⟨p0, p1, p2, p3⟩ := cells4 (fun j u hu => (cells_of hbw b _ hb).trans (hc j u hu)) hlt
      have hkl := kept_len xs k
      by_cases h1 : k + 1 < xs.length
      · obtain ⟨q0, q1, q2, q3⟩ := cells4 (fun j u hu => (cells_of hbw b _ hb).trans (hc j u hu)) h1
        clear hc ha
        have d1 : decide ((k : Int) + 1 < (xs.length : Int)) = true := by simp; omega
        cases a1 : (xs[k].k == 4)
        · have hsp : spare xs k = false := by rw [spare_in h1]; simp [spareAt, a1]
          have hon := Lib.hid (kept_on hlt hsp)
          obtain ⟨v', w', hrun, hown', hb', -, -⟩ := append_new ESg hown hbw [.int .i64 xs[k].k, .string xs[k].t, .int .i64 xs[k].a, .bool xs[k].b] 1 rfl (by simp [Value.oneCell']) (by simp only [maxLen]; omega) (by omega)
          rw [signs_snoc, ← List.length_singleton (a := xs[k]), ← List.length_append, ← hon.out] at hown'
          replace hown' := Lib.hid hown'
          replace hb' := Lib.hid hb'
          clear hsp hown hbw
          go_wp2_with (at_builtin; refine wpList_append_run rfl rfl hrun ?_)
          go_roundw
          case rel => exact ⟨k + 1, by omega, by go_num, hown'.out, hb'.out⟩
          case measure => simp [intOf]; omega
        · cases a2 : (xs[k].t.toList == [44])
          · have hsp : spare xs k = false := by rw [spare_in h1]; simp [spareAt, a1, a2]
            have hon := Lib.hid (kept_on hlt hsp)
            obtain ⟨v', w', hrun, hown', hb', -, -⟩ := append_new ESg hown hbw [.int .i64 xs[k].k, .string xs[k].t, .int .i64 xs[k].a, .bool xs[k].b] 1 rfl (by simp [Value.oneCell']) (by simp only [maxLen]; omega) (by omega)
            rw [signs_snoc, ← List.length_singleton (a := xs[k]), ← List.length_append, ← hon.out] at hown'
            replace hown' := Lib.hid hown'
            replace hb' := Lib.hid hb'
            clear hsp hown hbw
            go_wp2_with (at_builtin; refine wpList_append_run rfl rfl hrun ?_)
            go_roundw
            case rel => exact ⟨k + 1, by omega, by go_num, hown'.out, hb'.out⟩
            case measure => simp [intOf]; omega
          · cases n1 : (xs[k + 1].k == 4)
            · have hsp : spare xs k = false := by rw [spare_in h1]; simp [spareAt, a1, a2, n1]
              have hon := Lib.hid (kept_on hlt hsp)
              obtain ⟨v', w', hrun, hown', hb', -, -⟩ := append_new ESg hown hbw [.int .i64 xs[k].k, .string xs[k].t, .int .i64 xs[k].a, .bool xs[k].b] 1 rfl (by simp [Value.oneCell']) (by simp only [maxLen]; omega) (by omega)
              rw [signs_snoc, ← List.length_singleton (a := xs[k]), ← List.length_append, ← hon.out] at hown'
              replace hown' := Lib.hid hown'
              replace hb' := Lib.hid hb'
              clear hsp hown hbw
              go_wp2_with (at_builtin; refine wpList_append_run rfl rfl hrun ?_)
              go_roundw
              case rel => exact ⟨k + 1, by omega, by go_num, hown'.out, hb'.out⟩
              case measure => simp [intOf]; omega
            · cases t1 : (xs[k + 1].t.toList == [41])
              · cases t2 : (xs[k + 1].t.toList == [93])
                · have hsp : spare xs k = false := by rw [spare_in h1]; simp [spareAt, a1, a2, n1, t1, t2]
                  have hon := Lib.hid (kept_on hlt hsp)
                  obtain ⟨v', w', hrun, hown', hb', -, -⟩ := append_new ESg hown hbw [.int .i64 xs[k].k, .string xs[k].t, .int .i64 xs[k].a, .bool xs[k].b] 1 rfl (by simp [Value.oneCell']) (by simp only [maxLen]; omega) (by omega)
                  rw [signs_snoc, ← List.length_singleton (a := xs[k]), ← List.length_append, ← hon.out] at hown'
                  replace hown' := Lib.hid hown'
                  replace hb' := Lib.hid hb'
                  clear hsp hown hbw
                  go_wp2_with (at_builtin; refine wpList_append_run rfl rfl hrun ?_)
                  go_roundw
                  case rel => exact ⟨k + 1, by omega, by go_num, hown'.out, hb'.out⟩
                  case measure => simp [intOf]; omega
                · have hsp : spare xs k = true := by rw [spare_in h1]; simp [spareAt, a1, a2, n1, t1, t2]
                  have hon := Lib.hid (kept_off hsp)
                  replace hown := Lib.hid hown
                  replace hbw := Lib.hid hbw
                  clear hsp
                  go_wp2
                  go_roundw
                  case rel => exact ⟨k + 1, by omega, by go_num, by rw [hon.out]; exact hown.out, hbw.out⟩
                  case measure => simp [intOf]; omega
              · have hsp : spare xs k = true := by rw [spare_in h1]; simp [spareAt, a1, a2, n1, t1]
                have hon := Lib.hid (kept_off hsp)
                replace hown := Lib.hid hown
                replace hbw := Lib.hid hbw
                clear hsp
                go_wp2
                go_roundw
                case rel => exact ⟨k + 1, by omega, by go_num, by rw [hon.out]; exact hown.out, hbw.out⟩
                case measure => simp [intOf]; omega
      · clear hc ha
        have d1 : decide ((k : Int) + 1 < (xs.length : Int)) = false := by simp; omega
        cases a1 : (xs[k].k == 4)
        · have hsp : spare xs k = false := by exact spare_last h1
          have hon := Lib.hid (kept_on hlt hsp)
          obtain ⟨v', w', hrun, hown', hb', -, -⟩ := append_new ESg hown hbw [.int .i64 xs[k].k, .string xs[k].t, .int .i64 xs[k].a, .bool xs[k].b] 1 rfl (by simp [Value.oneCell']) (by simp only [maxLen]; omega) (by omega)
          rw [signs_snoc, ← List.length_singleton (a := xs[k]), ← List.length_append, ← hon.out] at hown'
          replace hown' := Lib.hid hown'
          replace hb' := Lib.hid hb'
          clear hsp hown hbw
          go_wp2_with (at_builtin; refine wpList_append_run rfl rfl hrun ?_)
          go_roundw
          case rel => exact ⟨k + 1, by omega, by go_num, hown'.out, hb'.out⟩
          case measure => simp [intOf]; omega
        · cases a2 : (xs[k].t.toList == [44])
          · have hsp : spare xs k = false := by exact spare_last h1
            have hon := Lib.hid (kept_on hlt hsp)
            obtain ⟨v', w', hrun, hown', hb', -, -⟩ := append_new ESg hown hbw [.int .i64 xs[k].k, .string xs[k].t, .int .i64 xs[k].a, .bool xs[k].b] 1 rfl (by simp [Value.oneCell']) (by simp only [maxLen]; omega) (by omega)
            rw [signs_snoc, ← List.length_singleton (a := xs[k]), ← List.length_append, ← hon.out] at hown'
            replace hown' := Lib.hid hown'
            replace hb' := Lib.hid hb'
            clear hsp hown hbw
            go_wp2_with (at_builtin; refine wpList_append_run rfl rfl hrun ?_)
            go_roundw
            case rel => exact ⟨k + 1, by omega, by go_num, hown'.out, hb'.out⟩
            case measure => simp [intOf]; omega
          · have hsp : spare xs k = false := by exact spare_last h1
            have hon := Lib.hid (kept_on hlt hsp)
            obtain ⟨v', w', hrun, hown', hb', -, -⟩ := append_new ESg hown hbw [.int .i64 xs[k].k, .string xs[k].t, .int .i64 xs[k].a, .bool xs[k].b] 1 rfl (by simp [Value.oneCell']) (by simp only [maxLen]; omega) (by omega)
            rw [signs_snoc, ← List.length_singleton (a := xs[k]), ← List.length_append, ← hon.out] at hown'
            replace hown' := Lib.hid hown'
            replace hb' := Lib.hid hb'
            clear hsp hown hbw
            go_wp2_with (at_builtin; refine wpList_append_run rfl rfl hrun ?_)
            go_roundw
            case rel => exact ⟨k + 1, by omega, by go_num, hown'.out, hb'.out⟩
            case measure => simp [intOf]; omega
    · obtain rfl : k = xs.length := by omega
      have hr := row_of_owns hown
      obtain ⟨A', c', rfl, -⟩ := id hr
      replace hr := Lib.hid hr
      go_wp2
      go_ret
      exact ⟨_, rfl, hr.out, hbw⟩
set_option maxRecDepth 100000 in
set_option maxHeartbeats 800000 in
theorem spec_words {v1 v2 : Value} {xs ys : List Sign} {w : World} (h1 : Row w v1 4 xs.length (signs xs)) (h2 : Row w v2 4 ys.length (signs ys)) (m1 : xs.length ≤ 1048576) (m2 : ys.length ≤ 1048576) :
    Calls Try.prog 26 #[v1, v2] w fun e w' => e = .returned (.bool (decide (keys (kept xs xs.length) = keys (kept ys ys.length)))) ∧ Below w.heap.size w w' := by
  have g1 := Lib.hid h1
  have g2 := Lib.hid h2
  obtain ⟨A, c, rfl, -⟩ := h1
  obtain ⟨A2, c2, rfl, -⟩ := h2
  go_enter Try.func26, Try.ntmps26
  go_wp2_with fail
  refine (spec_kept g1.out m1).mono ?_
  rintro e w1 ⟨v', rfl, r1, b1⟩
  go_wp2_with fail
  refine (spec_kept (g2.out.below b1) m2).mono ?_
  rintro e w2 ⟨v'', rfl, r2, b2⟩
  go_wp2_with fail
  refine (spec_same (r1.below b2) r2).mono ?_
  rintro e w3 ⟨rfl, b3⟩
  replace b3 := thenBelow (thenBelow b1 b2) b3
  clear r1 r2 b1 b2
  go_wp2
  go_ret
  exact ⟨rfl, b3⟩
set_option maxRecDepth 100000 in
set_option maxHeartbeats 800000 in
theorem impl_words {v1 v2 : Value} {xs ys : List Sign} {w : World} (h1 : Row w v1 4 xs.length (signs xs)) (h2 : Row w v2 4 ys.length (signs ys)) (m1 : xs.length ≤ 1048576) (m2 : ys.length ≤ 1048576) :
    Calls Try.prog 27 #[v1, v2] w fun e w' => e = .returned (.bool (decide (keys (kept xs xs.length) = keys (kept ys ys.length)))) ∧ Below w.heap.size w w' := by
  have g1 := Lib.hid h1
  have g2 := Lib.hid h2
  obtain ⟨A, c, rfl, -⟩ := h1
  obtain ⟨A2, c2, rfl, -⟩ := h2
  go_enter Try.func27, Try.ntmps27
  go_wp2_with fail
  refine (impl_kept g1.out m1).mono ?_
  rintro e w1 ⟨v', rfl, r1, b1⟩
  go_wp2_with fail
  refine (impl_kept (g2.out.below b1) m2).mono ?_
  rintro e w2 ⟨v'', rfl, r2, b2⟩
  go_wp2_with fail
  refine (impl_same (r1.below b2) r2).mono ?_
  rintro e w3 ⟨rfl, b3⟩
  replace b3 := thenBelow (thenBelow b1 b2) b3
  clear r1 r2 b1 b2
  go_wp2
  go_ret
  exact ⟨rfl, b3⟩
end Go.Proofs.Ytfcifkanckgchaa.Sign
