/-
  The contracts of impl.SameSigns and spec.SameSigns: the same kinds and texts, one by one.
  Conditions: the slices read as lists of signs.
-/
import Derived.Test.YtklhfjeonhjobaaDoorSign
namespace Go.Proofs.YtklhfjeonhjobaaDoor.Sign
open Go.RowKit Go.Proofs.YtklhfjeonhjobaaDoor.Row Go.Proofs.YtklhfjeonhjobaaDoor.Mem Go.Proofs.YtklhfjeonhjobaaDoor.Mix Go.Proofs.YtklhfjeonhjobaaDoor.Recs
abbrev keys (xs : List Sign) : List (Int × ByteArray) := xs.map fun x => (x.k, x.t)
theorem keys_eq {xs ys : List Sign} {k : Nat} (h1 : k < xs.length) (h2 : k < ys.length) (h : keys (xs.take k) = keys (ys.take k)) (he : xs[k].k = ys[k].k) (ht : xs[k].t = ys[k].t) : keys (xs.take (k + 1)) = keys (ys.take (k + 1)) := by
  unfold keys at h ⊢
  rw [List.take_succ_eq_append_getElem h1, List.take_succ_eq_append_getElem h2, List.map_append, List.map_append, h]
  simp [he, ht]
theorem keys_get {xs ys : List Sign} (h : keys xs = keys ys) {k : Nat} (h1 : k < xs.length) (h2 : k < ys.length) : xs[k].k = ys[k].k ∧ xs[k].t = ys[k].t := by
  have := congrArg (fun l => l[k]?) h
  simp [h1, h2] at this
  exact this
theorem keys_len {xs ys : List Sign} (h : keys xs = keys ys) : xs.length = ys.length := by
  have := congrArg List.length h
  simpa using this
set_option maxRecDepth 100000 in
set_option maxHeartbeats 1600000 in
theorem spec_same {v1 v2 : Value} {xs ys : List Sign} {w : World} (h1 : Row w v1 4 xs.length (signs xs)) (h2 : Row w v2 4 ys.length (signs ys)) :
    Calls Tryd.prog 53 #[v1, v2] w fun e w' => e = .returned (.bool (decide (keys xs = keys ys))) ∧ Below w.heap.size w w' := by
  obtain ⟨A, c, rfl, -, hn, hnc, hcm, ha⟩ := h1
  obtain ⟨A2, c2, rfl, -, hn2, hnc2, hcm2, ha2⟩ := h2
  by_cases hl : xs.length = ys.length
  · have d1 : (xs.length == ys.length) = true := by simpa using hl
    have d2 : (xs.length != ys.length) = false := by simpa using hl
    have d3 : ((xs.length : Int) != (ys.length : Int)) = false := by simp; omega
    have hle : xs.length ≤ ys.length := by omega
    have hge : ys.length ≤ xs.length := by omega
    replace hl := Lib.hid hl
    go_enter Tryd.func53, Tryd.ntmps53
    go_wp2
    go_loopw [5] (fun i wr => ∃ k : Nat, k ≤ xs.length ∧ i = .int .i64 k ∧ (∃ n, wr = w.drewN n) ∧ Hid (keys (xs.take k) = keys (ys.take k))) (fun i _ => xs.length - (intOf i).toNat)
    case atStart => exact ⟨0, by omega, rfl, ⟨0, rfl⟩, Lib.hid (by simp)⟩
    case round =>
      obtain ⟨k, hk, rfl, ⟨nd, rfl⟩, hr⟩ := hrel
      by_cases hlt : k < xs.length
      · have hlt2 : k < ys.length := by omega
        obtain ⟨b, off, rfl, hb, hc⟩ := ha (by omega)
        obtain ⟨b2, off2, rfl, hb2, hc2⟩ := ha2 (by omega)
        obtain ⟨p0, p1, p2, p3⟩ := cells4 hc hlt
        obtain ⟨q0, q1, q2, q3⟩ := cells4 hc2 hlt2
        clear hc hc2 ha ha2 p2 p3 q2 q3
        have i0 : (0 : Int) ≤ (k : Int) := by omega
        have i1 : (k : Int) < (xs.length : Int) := by omega
        have i2 : (k : Int) < (ys.length : Int) := by omega
        by_cases h : xs[k].k = ys[k].k
        · have e1 : (xs[k].k != ys[k].k) = false := by simpa using h
          by_cases ht : xs[k].t = ys[k].t
          · have e2 : (xs[k].t.toList == ys[k].t.toList) = true := by rw [Strs.eq_bytes]; simpa using ht
            have hon := Lib.hid (keys_eq hlt hlt2 hr.out h ht)
            replace h := Lib.hid h
            replace ht := Lib.hid ht
            go_wp2
            go_quiet (fail)
            go_wp2
            go_roundw
            case rel => exact ⟨k + 1, by omega, by go_num, ⟨_, rfl⟩, hon⟩
            case measure => simp [intOf]; omega
          · have e2 : (xs[k].t.toList == ys[k].t.toList) = false := by rw [Strs.eq_bytes]; simpa using ht
            have hne := Lib.hid (show decide (keys xs = keys ys) = false by apply decide_eq_false; intro he; exact ht (keys_get he hlt hlt2).2)
            replace h := Lib.hid h
            replace ht := Lib.hid ht
            go_wp2
            go_quiet (fail)
            go_wp2
            go_ret
            exact ⟨by rw [hne.out]; rfl, by first | exact to_drewN _ _ _ | (simp only [World.drewN_drewN]; exact to_drewN _ _ _)⟩
        · have e1 : (xs[k].k != ys[k].k) = true := by simpa using h
          have hne := Lib.hid (show decide (keys xs = keys ys) = false by apply decide_eq_false; intro he; exact h (keys_get he hlt hlt2).1)
          replace h := Lib.hid h
          go_wp2
          go_quiet (fail)
          go_wp2
          go_ret
          exact ⟨by rw [hne.out]; rfl, by first | exact to_drewN _ _ _ | (simp only [World.drewN_drewN]; exact to_drewN _ _ _)⟩
      · have hyes := Lib.hid (show decide (keys xs = keys ys) = true by
          apply decide_eq_true
          have := hr.out
          rw [List.take_of_length_le (by omega), List.take_of_length_le (by omega)] at this
          exact this)
        go_wp2
        go_ret
        exact ⟨by rw [hyes.out]; rfl, to_drewN _ _ _⟩
  · have d1 : (xs.length == ys.length) = false := by simpa using hl
    have d2 : (xs.length != ys.length) = true := by simpa using hl
    have d3 : ((xs.length : Int) != (ys.length : Int)) = true := by simp; omega
    have hne := Lib.hid (show decide (keys xs = keys ys) = false by apply decide_eq_false; intro he; exact hl (keys_len he))
    replace hl := Lib.hid hl
    go_enter Tryd.func53, Tryd.ntmps53
    go_wp2
    go_ret
    exact ⟨by rw [hne.out]; rfl, Below.refl _ _⟩
set_option maxHeartbeats 400000 in
theorem clo_any (x y : Sign) (w : World) : Calls Tryd.prog 85 #[sign x, sign y] w fun e w' => e = .returned (.bool (decide ((x.k, x.t) = (y.k, y.t)))) ∧ Below w.heap.size w w' := by
  obtain ⟨k, t, a, b⟩ := x
  obtain ⟨k2, t2, a2, b2⟩ := y
  go_enter Tryd.func85, Tryd.ntmps85
  go_wp2
  all_goals
    go_ret
    refine ⟨by simp_all [Strs.eq_bytes], ?_⟩
    repeat (first | exact Below.refl _ _ | assumption | refine Below.setCell ?_ (by first | omega | (simp <;> omega)) _ | refine Below.alloc ?_ (by first | omega | (simp <;> omega)) _ | refine Below.drew ?_)
set_option maxRecDepth 100000 in
set_option maxHeartbeats 1600000 in
theorem equal_any {v1 v2 : Value} {xs ys : List Sign} {w : World} (h1 : Row w v1 4 xs.length (signs xs)) (h2 : Row w v2 4 ys.length (signs ys)) :
    Calls Tryd.prog 84 #[v1, v2, .func (.func 85) #[] #[]] w fun e w' => e = .returned (.bool (decide (keys xs = keys ys))) ∧ Below w.heap.size w w' := by
  obtain ⟨A, c, rfl, -, hn, hnc, hcm, ha⟩ := h1
  obtain ⟨A2, c2, rfl, -, hn2, hnc2, hcm2, ha2⟩ := h2
  by_cases hl : xs.length = ys.length
  · have d1 : (xs.length == ys.length) = true := by simpa using hl
    have d2 : (xs.length != ys.length) = false := by simpa using hl
    have d3 : ((xs.length : Int) != (ys.length : Int)) = false := by simp; omega
    have hle : xs.length ≤ ys.length := by omega
    have hge : ys.length ≤ xs.length := by omega
    replace hl := Lib.hid hl
    go_enter Tryd.func84, Tryd.ntmps84
    go_wp2
    go_loopw [17] (fun i wr => ∃ k : Nat, k ≤ xs.length ∧ i = .int .i64 k ∧ Below w.heap.size w wr ∧ Hid (keys (xs.take k) = keys (ys.take k))) (fun i _ => xs.length - (intOf i).toNat)
    case atStart => exact ⟨0, by omega, rfl, Below.refl _ _, Lib.hid (by simp)⟩
    case round =>
      obtain ⟨k, hk, rfl, hbw, hr⟩ := hrel
      by_cases hlt : k < xs.length
      · have hlt2 : k < ys.length := by omega
        obtain ⟨b, off, rfl, hb, hc⟩ := ha (by omega)
        obtain ⟨b2, off2, rfl, hb2, hc2⟩ := ha2 (by omega)
        obtain ⟨p0, p1, p2, p3⟩ := cells4 (fun j u hu => (cells_of hbw b _ hb).trans (hc j u hu)) hlt
        obtain ⟨q0, q1, q2, q3⟩ := cells4 (fun j u hu => (cells_of hbw b2 _ hb2).trans (hc2 j u hu)) hlt2
        clear hc hc2 ha ha2
        have z1 := Nat.lt_of_lt_of_le hb hbw.size
        have z2 := Nat.lt_of_lt_of_le hb2 hbw.size
        have hsz := hbw.size
        have z3 : b ≠ wr.heap.size := by omega
        have z4 : b2 ≠ wr.heap.size := by omega
        have hkk : decide ((xs[k].k, xs[k].t) = (ys[k].k, ys[k].t)) = (decide (xs[k].k = ys[k].k) && decide (xs[k].t = ys[k].t)) := by simp
        by_cases h : xs[k].k = ys[k].k ∧ xs[k].t = ys[k].t
        · have e1 : decide ((xs[k].k, xs[k].t) = (ys[k].k, ys[k].t)) = true := by simpa using h
          have hon := Lib.hid (keys_eq hlt hlt2 hr.out h.1 h.2)
          clear h hkk
          have hcl := Lib.hid (clo_any xs[k] ys[k])
          rw [e1] at hcl
          clear e1
          go_wp2_with (go_at_call 85; refine (hcl.out _).mono ?_; rintro e w2 ⟨rfl, hb2⟩)
          go_roundw
          case rel =>
            refine ⟨k + 1, by omega, by go_num, hbw.trans ?_, hon⟩
            refine Below.trans ?_ (hb2.mono ?_)
            · skip
              repeat (first | exact Below.refl _ _ | assumption | refine Below.setCell ?_ (by first | omega | (simp <;> omega)) _ | refine Below.alloc ?_ (by first | omega | (simp <;> omega)) _ | refine Below.drew ?_)
            · simp
              have := hbw.size
              omega
          case measure => simp [intOf]; omega
        · have e1 : decide ((xs[k].k, xs[k].t) = (ys[k].k, ys[k].t)) = false := by rw [hkk]; simpa using h
          have hne := Lib.hid (show decide (keys xs = keys ys) = false by apply decide_eq_false; intro he; exact h (keys_get he hlt hlt2))
          clear h hkk
          have hcl := Lib.hid (clo_any xs[k] ys[k])
          rw [e1] at hcl
          clear e1
          go_wp2_with (go_at_call 85; refine (hcl.out _).mono ?_; rintro e w2 ⟨rfl, hb2⟩)
          go_ret
          refine ⟨by rw [hne.out]; rfl, hbw.trans ?_⟩
          refine Below.trans ?_ (hb2.mono ?_)
          · skip
            repeat (first | exact Below.refl _ _ | assumption | refine Below.setCell ?_ (by first | omega | (simp <;> omega)) _ | refine Below.alloc ?_ (by first | omega | (simp <;> omega)) _ | refine Below.drew ?_)
          · simp
            have := hbw.size
            omega
      · have hyes := Lib.hid (show decide (keys xs = keys ys) = true by
          apply decide_eq_true
          have := hr.out
          rw [List.take_of_length_le (by omega), List.take_of_length_le (by omega)] at this
          exact this)
        go_wp2
        go_ret
        exact ⟨by rw [hyes.out]; rfl, hbw⟩
  · have d1 : (xs.length == ys.length) = false := by simpa using hl
    have d2 : (xs.length != ys.length) = true := by simpa using hl
    have d3 : ((xs.length : Int) != (ys.length : Int)) = true := by simp; omega
    have hne := Lib.hid (show decide (keys xs = keys ys) = false by apply decide_eq_false; intro he; exact hl (keys_len he))
    replace hl := Lib.hid hl
    go_enter Tryd.func84, Tryd.ntmps84
    go_wp2
    go_ret
    exact ⟨by rw [hne.out]; rfl, Below.refl _ _⟩
set_option maxRecDepth 100000 in
set_option maxHeartbeats 400000 in
theorem impl_same {v1 v2 : Value} {xs ys : List Sign} {w : World} (h1 : Row w v1 4 xs.length (signs xs)) (h2 : Row w v2 4 ys.length (signs ys)) :
    Calls Tryd.prog 51 #[v1, v2] w fun e w' => e = .returned (.bool (decide (keys xs = keys ys))) ∧ Below w.heap.size w w' := by
  have g1 := Lib.hid h1
  have g2 := Lib.hid h2
  obtain ⟨A, c, rfl, -⟩ := h1
  obtain ⟨A2, c2, rfl, -⟩ := h2
  go_enter Tryd.func51, Tryd.ntmps51
  go_wp2_with (go_at_call 84; refine (equal_any g1.out g2.out).mono ?_; rintro e w1 ⟨rfl, hb⟩)
  go_ret
  exact ⟨rfl, hb⟩
end Go.Proofs.YtklhfjeonhjobaaDoor.Sign
