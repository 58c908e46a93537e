/-
  The contracts of impl.SameTree and spec.SameTree: the same kinds, texts, kids and blanks, one by one.
  Conditions: the slices read as lists of nodes.
-/
import Derived.Test.YtfhigagbipkipaaNodes
namespace Go.Proofs.Ytfhigagbipkipaa.Nodes
open Go.RowKit Go.Proofs.Ytfhigagbipkipaa.Row Go.Proofs.Ytfhigagbipkipaa.Mem Go.Proofs.Ytfhigagbipkipaa.Mix Go.Proofs.Ytfhigagbipkipaa.Ints Go.Proofs.Ytfhigagbipkipaa.Recs Go.Proofs.Ytfhigagbipkipaa.Owns Go.Proofs.Ytfhigagbipkipaa.Blocks
theorem abs_on {xs ys : List N} {k : Nat} (h1 : k < xs.length) (h2 : k < ys.length) (h : (xs.take k).map N.abs = (ys.take k).map N.abs) (he : xs[k].abs = ys[k].abs) : (xs.take (k + 1)).map N.abs = (ys.take (k + 1)).map N.abs := by
  rw [List.take_succ_eq_append_getElem h1, List.take_succ_eq_append_getElem h2, List.map_append, List.map_append, h]
  simp [he]
def same (xs ys : List N) : Bool := decide (xs.map N.abs = ys.map N.abs)
theorem same_no {xs ys : List N} {k : Nat} (h1 : k < xs.length) (h2 : k < ys.length) (he : xs[k].abs ≠ ys[k].abs) : same xs ys = false :=
  decide_eq_false fun e => he (abs_get e h1 h2)
theorem same_yes {xs ys : List N} {k : Nat} (h : (xs.take k).map N.abs = (ys.take k).map N.abs) (h1 : xs.length ≤ k) (h2 : ys.length ≤ k) : same xs ys = true := by
  rw [List.take_of_length_le h1, List.take_of_length_le h2] at h
  exact decide_eq_true h
theorem same_len {xs ys : List N} (h : ¬ xs.length = ys.length) : same xs ys = false := decide_eq_false fun e => h (abs_len e)
theorem drew_fin {w : World} (a b : Nat) : Below w.heap.size w ((w.drewN a).drewN b) := by rw [World.drewN_drewN]; exact to_drewN _ _ _
set_option maxRecDepth 100000 in
set_option maxHeartbeats 6400000 in
theorem spec_tree {v1 v2 : Value} {xs ys : List N} {w : World} (h1 : NRow w v1 xs) (h2 : NRow w v2 ys) :
    Calls Try.prog 17 #[v1, v2] w fun e w' => e = .returned (.bool (same xs ys)) ∧ Below w.heap.size w w' := by
  have hr1 := Lib.hid h1.2
  have hr2 := Lib.hid h2.2
  obtain ⟨⟨A, c, rfl, -, hn, hnc, hcm, ha⟩, -⟩ := h1
  obtain ⟨⟨A2, c2, rfl, -, hn2, hnc2, hcm2, ha2⟩, -⟩ := h2
  by_cases hl : xs.length = ys.length
  · have d1 : (xs.length == ys.length) = true := by simpa using hl
    have d2 : (xs.length != ys.length) = false := by simpa using hl
    have d3 : ((xs.length : Int) != (ys.length : Int)) = false := by simp; omega
    have hle : xs.length ≤ ys.length := by omega
    have hge : ys.length ≤ xs.length := by omega
    replace hl := Lib.hid hl
    go_enter Try.func17, Try.ntmps17
    go_wp2
    go_loopw [5, 6] (fun i _ wr => ∃ k : Nat, k ≤ xs.length ∧ i = .int .i64 k ∧ (∃ n, wr = w.drewN n) ∧ Hid ((xs.take k).map N.abs = (ys.take k).map N.abs)) (fun i _ _ => xs.length - (intOf i).toNat)
    case atStart => exact ⟨0, by omega, rfl, ⟨0, rfl⟩, Lib.hid (by simp)⟩
    case round =>
      obtain ⟨k, hk, rfl, ⟨nd, rfl⟩, hr⟩ := hrel
      by_cases hlt : k < xs.length
      · have hlt2 : k < ys.length := by omega
        obtain ⟨b, off, rfl, hb, hc⟩ := ha (by omega)
        obtain ⟨b2, off2, rfl, hb2, hc2⟩ := ha2 (by omega)
        obtain ⟨p0, p1, p2, p3⟩ := cells_ hc hlt
        obtain ⟨q0, q1, q2, q3⟩ := cells_ hc2 hlt2
        obtain ⟨B1, l1, hv1, -, vn1, vnc1, vcm1, va1⟩ := hr1.out _ (List.getElem_mem hlt)
        obtain ⟨B2, l2, hv2, -, vn2, vnc2, vcm2, va2⟩ := hr2.out _ (List.getElem_mem hlt2)
        rw [hv1] at p2
        rw [hv2] at q2
        clear hc hc2 ha ha2 hv1 hv2
        have hno : ∀ {p : Prop}, p → (xs[k].abs = ys[k].abs → ¬ p) → Hid (same xs ys = false) := fun hp h => Lib.hid (same_no hlt hlt2 (fun e => h e hp))
        have hab : Hid (xs[k].abs = ys[k].abs ↔ xs[k].k = ys[k].k ∧ xs[k].t = ys[k].t ∧ xs[k].kids = ys[k].kids ∧ xs[k].b = ys[k].b) := Lib.hid (by simp [N.abs])
        have i0 : (0 : Int) ≤ (k : Int) := by omega
        have i1 : (k : Int) < (xs.length : Int) := by omega
        have i2 : (k : Int) < (ys.length : Int) := by omega
        by_cases h : xs[k].k = ys[k].k
        · have e1 : (xs[k].k != ys[k].k) = false := by simpa using h
          by_cases ht : xs[k].t = ys[k].t
          · have e2 : (xs[k].t.toList == ys[k].t.toList) = true := by rw [Strs.eq_bytes]; simpa using ht
            by_cases hbb : xs[k].b = ys[k].b
            · have e3 : (xs[k].b == ys[k].b) = true := by simpa using hbb
              by_cases hkl : xs[k].kids.length = ys[k].kids.length
              · have e4 : (xs[k].kids.length == ys[k].kids.length) = true := by simpa using hkl
                have e5 : ((xs[k].kids.length : Int) != (ys[k].kids.length : Int)) = false := by simp; omega
                have hkle : xs[k].kids.length ≤ ys[k].kids.length := by omega
                have hab2 : Hid (xs[k].abs = ys[k].abs ↔ xs[k].kids = ys[k].kids) := Lib.hid (hab.out.trans ⟨fun e => e.2.2.1, fun e => ⟨h, ht, e, hbb⟩⟩)
                replace h := Lib.hid h
                replace ht := Lib.hid ht
                replace hbb := Lib.hid hbb
                replace hkl := Lib.hid hkl
                clear hno hab
                go_wp2
                go_quiet (fail)
                go_wp2
                go_loopw [6] (fun j wr => ∃ m : Nat, m ≤ xs[k].kids.length ∧ j = .int .i64 m ∧ (∃ n, wr = w.drewN n) ∧ Hid (xs[k].kids.take m = ys[k].kids.take m)) (fun j _ => xs[k].kids.length - (intOf j).toNat)
                case atStart => exact ⟨0, by omega, rfl, ⟨_, by first | rfl | exact World.drewN_drewN _ _ _⟩, Lib.hid (by simp)⟩
                case round =>
                  obtain ⟨m, hm, rfl, ⟨nd2, rfl⟩, hr3⟩ := hrel
                  by_cases hmt : m < xs[k].kids.length
                  · have hmt2 : m < ys[k].kids.length := by omega
                    obtain ⟨b3, off3, rfl, hb3, hc3⟩ := va1 (by omega)
                    obtain ⟨b4, off4, rfl, hb4, hc4⟩ := va2 (by omega)
                    have y1 := hc3 m _ (at_one hmt .i64)
                    have y2 := hc4 m _ (at_one hmt2 .i64)
                    clear hc3 hc4 va1 va2
                    have j0 : (0 : Int) ≤ (m : Int) := by omega
                    have j1 : (m : Int) < (xs[k].kids.length : Int) := by omega
                    have j2 : (m : Int) < (ys[k].kids.length : Int) := by omega
                    by_cases hv : xs[k].kids[m] = ys[k].kids[m]
                    · have e6 : (xs[k].kids[m] != ys[k].kids[m]) = false := by simpa using hv
                      have hon := Lib.hid (take_eq hmt hmt2 hr3.out hv)
                      replace hv := Lib.hid hv
                      go_wp2
                      go_quiet (fail)
                      go_wp2
                      go_roundw
                      case rel => exact ⟨m + 1, by omega, by go_num, ⟨_, rfl⟩, hon⟩
                      case measure => simp [intOf]; omega
                    · have e6 : (xs[k].kids[m] != ys[k].kids[m]) = true := by simpa using hv
                      have hne := Lib.hid (same_no hlt hlt2 (fun e => hv (get_eq (hab2.out.1 e) hmt hmt2)))
                      replace hv := Lib.hid hv
                      go_wp2
                      go_quiet (fail)
                      go_wp2
                      go_ret
                      exact ⟨by rw [hne.out]; rfl, by first | exact to_drewN _ _ _ | exact drew_fin _ _ | (simp only [World.drewN_drewN]; exact to_drewN _ _ _)⟩
                  · have hon := Lib.hid (abs_on hlt hlt2 hr.out (hab2.out.2 (by
                      have := hr3.out
                      have hkl' := hkl.out
                      rwa [List.take_of_length_le (by omega), List.take_of_length_le (by omega)] at this)))
                    go_wp2
                    go_roundw
                    case rel => exact ⟨k + 1, by omega, by go_num, ⟨_, rfl⟩, hon⟩
                    case measure => simp [intOf]; omega
              · have e4 : (xs[k].kids.length == ys[k].kids.length) = false := by simpa using hkl
                have e5 : ((xs[k].kids.length : Int) != (ys[k].kids.length : Int)) = true := by simp; omega
                have hne := hno hkl (fun e hx => hx (by rw [(hab.out.1 e).2.2.1]))
                replace h := Lib.hid h
                replace ht := Lib.hid ht
                replace hbb := Lib.hid hbb
                replace hkl := Lib.hid hkl
                clear hno hab
                go_wp2
                go_quiet (fail)
                go_wp2
                go_ret
                exact ⟨by rw [hne.out]; rfl, by first | exact to_drewN _ _ _ | exact drew_fin _ _ | (simp only [World.drewN_drewN]; exact to_drewN _ _ _)⟩
            · have e3 : (xs[k].b == ys[k].b) = false := by simpa using hbb
              have hne := hno hbb (fun e hx => hx (hab.out.1 e).2.2.2)
              replace h := Lib.hid h
              replace ht := Lib.hid ht
              replace hbb := Lib.hid hbb
              clear hno hab
              go_wp2
              go_quiet (fail)
              go_wp2
              go_ret
              exact ⟨by rw [hne.out]; rfl, by first | exact to_drewN _ _ _ | exact drew_fin _ _ | (simp only [World.drewN_drewN]; exact to_drewN _ _ _)⟩
          · have e2 : (xs[k].t.toList == ys[k].t.toList) = false := by rw [Strs.eq_bytes]; simpa using ht
            have hne := hno ht (fun e hx => hx (hab.out.1 e).2.1)
            replace h := Lib.hid h
            replace ht := Lib.hid ht
            clear hno hab
            go_wp2
            go_quiet (fail)
            go_wp2
            go_ret
            exact ⟨by rw [hne.out]; rfl, by first | exact to_drewN _ _ _ | exact drew_fin _ _ | (simp only [World.drewN_drewN]; exact to_drewN _ _ _)⟩
        · have e1 : (xs[k].k != ys[k].k) = true := by simpa using h
          have hne := hno h (fun e hx => hx (hab.out.1 e).1)
          replace h := Lib.hid h
          clear hno hab
          go_wp2
          go_quiet (fail)
          go_wp2
          go_ret
          exact ⟨by rw [hne.out]; rfl, by first | exact to_drewN _ _ _ | exact drew_fin _ _ | (simp only [World.drewN_drewN]; exact to_drewN _ _ _)⟩
      · have hyes := Lib.hid (same_yes hr.out (by omega) (by omega))
        go_wp2
        go_ret
        exact ⟨by rw [hyes.out]; rfl, to_drewN _ _ _⟩
  · have d1 : (xs.length == ys.length) = false := by simpa using hl
    have d2 : (xs.length != ys.length) = true := by simpa using hl
    have d3 : ((xs.length : Int) != (ys.length : Int)) = true := by simp; omega
    have hne := Lib.hid (same_len hl)
    replace hl := Lib.hid hl
    go_enter Try.func17, Try.ntmps17
    go_wp2
    go_ret
    exact ⟨by rw [hne.out]; rfl, Below.refl _ _⟩
set_option maxRecDepth 100000 in
set_option maxHeartbeats 800000 in
theorem lib_equal {v1 v2 : Value} {xs ys : List Int} {w : World} (h1 : Row w v1 1 xs.length (ints xs)) (h2 : Row w v2 1 ys.length (ints ys)) :
    Calls Try.prog 41 #[v1, v2] w fun e w' => e = .returned (.bool (xs == ys)) ∧ Below w.heap.size w w' := by
  obtain ⟨A, c, rfl, -, hn, hnc, hcm, ha⟩ := h1
  obtain ⟨A2, c2, rfl, -, hn2, hnc2, hcm2, ha2⟩ := h2
  by_cases hl : xs.length = ys.length
  · have d1 : (xs.length == ys.length) = true := by simpa using hl
    have d2 : (xs.length != ys.length) = false := by simpa using hl
    have d3 : ((xs.length : Int) != (ys.length : Int)) = false := by simp; omega
    have hle : xs.length ≤ ys.length := by omega
    have hge : ys.length ≤ xs.length := by omega
    replace hl := Lib.hid hl
    go_enter Try.func41, Try.ntmps41
    go_wp2
    go_loopw [5, 13] (fun _ i wr => ∃ k : Nat, k ≤ xs.length ∧ i = .int .i64 k ∧ (∃ n, wr = w.drewN n) ∧ Hid (xs.take k = ys.take k)) (fun _ i _ => xs.length - (intOf i).toNat)
    case atStart => exact ⟨0, by omega, rfl, ⟨0, rfl⟩, Lib.hid (by simp)⟩
    case round =>
      obtain ⟨k, hk, rfl, ⟨nd, rfl⟩, hr⟩ := hrel
      by_cases hlt : k < xs.length
      · have hlt2 : k < ys.length := by omega
        obtain ⟨b, off, rfl, hb, hc⟩ := ha (by omega)
        obtain ⟨b2, off2, rfl, hb2, hc2⟩ := ha2 (by omega)
        have c1 := hc k _ (at_one hlt .i64)
        have c2 := hc2 k _ (at_one hlt2 .i64)
        clear hc hc2
        have i0 : (0 : Int) ≤ (k : Int) := by omega
        have i1 : (k : Int) < (xs.length : Int) := by omega
        have i2 : (k : Int) < (ys.length : Int) := by omega
        by_cases h : xs[k] = ys[k]
        · have e1 : (xs[k] == ys[k]) = true := by simpa using h
          have e2 : (xs[k] != ys[k]) = false := by simpa using h
          have hon := Lib.hid (take_eq hlt hlt2 hr.out h)
          replace h := Lib.hid h
          go_wp2
          go_quiet (fail)
          go_wp2
          go_roundw
          case rel => exact ⟨k + 1, by omega, by go_num, ⟨_, rfl⟩, hon⟩
          case measure => simp [intOf]; omega
        · have e1 : (xs[k] == ys[k]) = false := by simpa using h
          have e2 : (xs[k] != ys[k]) = true := by simpa using h
          have hne := Lib.hid (show (xs == ys) = false by rw [beq_eq_false_iff_ne]; intro he; subst he; exact h rfl)
          go_wp2
          go_quiet (fail)
          go_wp2
          go_ret
          exact ⟨by rw [hne.out]; rfl, by first | exact to_drewN _ _ _ | exact drew_fin _ _ | (simp only [World.drewN_drewN]; exact to_drewN _ _ _)⟩
      · have hyes := Lib.hid (show (xs == ys) = true by
          have := hr.out
          rw [List.take_of_length_le (by omega), List.take_of_length_le (by omega)] at this
          simpa using this)
        go_wp2
        go_ret
        exact ⟨by rw [hyes.out]; rfl, to_drewN _ _ _⟩
  · have d1 : (xs.length == ys.length) = false := by simpa using hl
    have d2 : (xs.length != ys.length) = true := by simpa using hl
    have d3 : ((xs.length : Int) != (ys.length : Int)) = true := by simp; omega
    have hne := Lib.hid (show (xs == ys) = false by rw [beq_eq_false_iff_ne]; intro he; subst he; exact hl rfl)
    replace hl := Lib.hid hl
    go_enter Try.func41, Try.ntmps41
    go_wp2
    go_ret
    exact ⟨by rw [hne.out]; rfl, Below.refl _ _⟩
def one (x y : N) : Bool := x.k == y.k && (x.t.toList == y.t.toList && (x.b == y.b && x.kids == y.kids))
theorem one_iff {x y : N} : one x y = true ↔ x.abs = y.abs := by
  simp only [one, N.abs, Bool.and_eq_true, beq_iff_eq, Strs.toList_iff, Prod.mk.injEq]
  constructor
  · rintro ⟨a, b, c, d⟩; exact ⟨a, b, d, c⟩
  · rintro ⟨a, b, c, d⟩; exact ⟨a, b, d, c⟩
set_option maxRecDepth 100000 in
set_option maxHeartbeats 1600000 in
theorem clo_any {x y : N} {w : World} (hx : VRow w x) (hy : VRow w y) : Calls Try.prog 40 #[x.val, y.val] w fun e w' => e = .returned (.bool (one x y)) ∧ Below w.heap.size w w' := by
  obtain ⟨xk, xt, xv, xl, xb⟩ := x
  obtain ⟨yk, yt, yv, yl, yb⟩ := y
  obtain ⟨A, l, h1, -⟩ := id hx
  obtain ⟨A2, l2, h2, -⟩ := id hy
  simp only at h1 h2
  subst h1 h2
  unfold VRow at hx hy
  simp only at hx hy
  have hc := Lib.hid (fun (o o2 : Obj) => lib_equal (hx.below (below2 w o o2)) (hy.below (below2 w o o2)))
  have hB := Lib.hid (fun o o2 => below2 w o o2)
  have hv : Hid (∀ b, one ⟨xk, xt, .slice A xl.length l, xl, xb⟩ ⟨yk, yt, .slice A2 yl.length l2, yl, yb⟩ = b ↔ (xk == yk && (xt.toList == yt.toList && (xb == yb && xl == yl))) = b) := Lib.hid (fun b => Iff.rfl)
  clear hx hy
  cases e1 : (xk == yk)
  · have hno := Lib.hid ((hv.out false).2 (by rw [e1]; rfl))
    clear hv
    go_enter Try.func40, Try.ntmps40
    go_wp2
    go_ret
    exact ⟨by rw [hno.out]; rfl, hB.out _ _⟩
  · cases e2 : (xt.toList == yt.toList)
    · have hno := Lib.hid ((hv.out false).2 (by rw [e1, e2]; rfl))
      clear hv
      go_enter Try.func40, Try.ntmps40
      go_wp2
      go_ret
      exact ⟨by rw [hno.out]; rfl, hB.out _ _⟩
    · cases e3 : (xb == yb)
      · have hno := Lib.hid ((hv.out false).2 (by rw [e1, e2, e3]; rfl))
        clear hv
        go_enter Try.func40, Try.ntmps40
        go_wp2
        go_ret
        exact ⟨by rw [hno.out]; rfl, hB.out _ _⟩
      · have hyes := Lib.hid ((hv.out (xl == yl)).2 (by rw [e1, e2, e3]; rfl))
        clear hv
        generalize (xl == yl) = q at *
        go_enter Try.func40, Try.ntmps40
        go_wp2_with fail
        refine (hc.out _ _).mono ?_
        rintro e w1 ⟨rfl, hb⟩
        go_wp2
        go_ret
        exact ⟨by rw [hyes.out]; rfl, (hB.out _ _).trans (hb.mono (hB.out _ _).size)⟩
set_option maxRecDepth 100000 in
set_option maxHeartbeats 1600000 in
theorem equal_any {v1 v2 : Value} {xs ys : List N} {w : World} (h1 : NRow w v1 xs) (h2 : NRow w v2 ys) :
    Calls Try.prog 39 #[v1, v2, .func (.func 40) #[] #[]] w fun e w' => e = .returned (.bool (same xs ys)) ∧ Below w.heap.size w w' := by
  have hr1 := Lib.hid h1.2
  have hr2 := Lib.hid h2.2
  obtain ⟨⟨A, c, rfl, -, hn, hnc, hcm, ha⟩, -⟩ := h1
  obtain ⟨⟨A2, c2, rfl, -, hn2, hnc2, hcm2, ha2⟩, -⟩ := h2
  by_cases hl : xs.length = ys.length
  · have d1 : (xs.length == ys.length) = true := by simpa using hl
    have d2 : (xs.length != ys.length) = false := by simpa using hl
    have d3 : ((xs.length : Int) != (ys.length : Int)) = false := by simp; omega
    have hle : xs.length ≤ ys.length := by omega
    have hge : ys.length ≤ xs.length := by omega
    replace hl := Lib.hid hl
    go_enter Try.func39, Try.ntmps39
    go_wp2
    go_loopw [17] (fun i wr => ∃ k : Nat, k ≤ xs.length ∧ i = .int .i64 k ∧ Below w.heap.size w wr ∧ Hid ((xs.take k).map N.abs = (ys.take k).map N.abs)) (fun i _ => xs.length - (intOf i).toNat)
    case atStart => exact ⟨0, by omega, rfl, Below.refl _ _, Lib.hid (by simp)⟩
    case round =>
      obtain ⟨k, hk, rfl, hbw, hr⟩ := hrel
      by_cases hlt : k < xs.length
      · have hlt2 : k < ys.length := by omega
        obtain ⟨b, off, rfl, hb, hc⟩ := ha (by omega)
        obtain ⟨b2, off2, rfl, hb2, hc2⟩ := ha2 (by omega)
        obtain ⟨p0, p1, p2, p3⟩ := cells_ (fun j u hu => (cells_of hbw b _ hb).trans (hc j u hu)) hlt
        obtain ⟨q0, q1, q2, q3⟩ := cells_ (fun j u hu => (cells_of hbw b2 _ hb2).trans (hc2 j u hu)) hlt2
        have hx1 := (hr1.out _ (List.getElem_mem hlt)).below hbw
        have hx2 := (hr2.out _ (List.getElem_mem hlt2)).below hbw
        have hcl := Lib.hid (fun (W : World) (hW : Below wr.heap.size wr W) => clo_any (x := xs[k]) (y := ys[k]) (hx1.below hW) (hx2.below hW))
        obtain ⟨A1, l1, hvv⟩ := lit hx1
        obtain ⟨A3, l3, hvv2⟩ := lit hx2
        unfold N.val at hcl
        rw [hvv] at p2 hcl
        rw [hvv2] at q2 hcl
        clear hc hc2 ha ha2 hvv hvv2 hx1 hx2
        have z1 := Nat.lt_of_lt_of_le hb hbw.size
        have z2 := Nat.lt_of_lt_of_le hb2 hbw.size
        have hsz := hbw.size
        have z3 : b ≠ wr.heap.size := by omega
        have z4 : b2 ≠ wr.heap.size := by omega
        have hBw := Lib.hid (fun o o2 => below2 wr o o2)
        cases h : one xs[k] ys[k]
        · have hne := Lib.hid (same_no hlt hlt2 (fun e => by rw [one_iff.2 e] at h; cases h))
          rw [h] at hcl
          clear h
          go_wp2_with (go_at_call 40; refine (hcl.out _ (hBw.out _ _)).mono ?_; rintro e w2 ⟨rfl, hb2⟩)
          go_ret
          exact ⟨by rw [hne.out]; rfl, hbw.trans (((hBw.out _ _).trans (hb2.mono (hBw.out _ _).size)).mono hsz)⟩
        · have hon := Lib.hid (abs_on hlt hlt2 hr.out (one_iff.1 h))
          rw [h] at hcl
          clear h
          go_wp2_with (go_at_call 40; refine (hcl.out _ (hBw.out _ _)).mono ?_; rintro e w2 ⟨rfl, hb2⟩)
          go_roundw
          case rel => exact ⟨k + 1, by omega, by go_num, hbw.trans (((hBw.out _ _).trans (hb2.mono (hBw.out _ _).size)).mono hsz), hon⟩
          case measure => simp [intOf]; omega
      · have hyes := Lib.hid (same_yes hr.out (by omega) (by omega))
        go_wp2
        go_ret
        exact ⟨by rw [hyes.out]; rfl, hbw⟩
  · have d1 : (xs.length == ys.length) = false := by simpa using hl
    have d2 : (xs.length != ys.length) = true := by simpa using hl
    have d3 : ((xs.length : Int) != (ys.length : Int)) = true := by simp; omega
    have hne := Lib.hid (same_len hl)
    replace hl := Lib.hid hl
    go_enter Try.func39, Try.ntmps39
    go_wp2
    go_ret
    exact ⟨by rw [hne.out]; rfl, Below.refl _ _⟩
set_option maxRecDepth 100000 in
set_option maxHeartbeats 400000 in
theorem impl_tree {v1 v2 : Value} {xs ys : List N} {w : World} (h1 : NRow w v1 xs) (h2 : NRow w v2 ys) :
    Calls Try.prog 19 #[v1, v2] w fun e w' => e = .returned (.bool (same xs ys)) ∧ Below w.heap.size w w' := by
  have hc := Lib.hid (equal_any h1 h2)
  obtain ⟨⟨A, c, rfl, -⟩, -⟩ := h1
  obtain ⟨⟨A2, c2, rfl, -⟩, -⟩ := h2
  go_enter Try.func19, Try.ntmps19
  go_wp2_with (go_at_call 39; refine hc.out.mono ?_; rintro e w1 ⟨rfl, hb⟩)
  go_ret
  exact ⟨rfl, hb⟩
end Go.Proofs.Ytfhigagbipkipaa.Nodes
