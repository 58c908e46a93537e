/-
  FnLines: lines are joined as they were cut; a place is in the line that has it: the tied card.
  Conditions: none beyond the statement's own.
-/
import Derived.Test.YtklhfjeonhjobaaDoorRows
import Derived.Test.YtklhfjeonhjobaaDoorCards
import Derived.Test.YtklhfjeonhjobaaDoorTie
import Derived.Test.YtklhfjeonhjobaaDoorLinesBack
import Derived.Test.YtklhfjeonhjobaaDoorPick
import Derived.Test.YtklhfjeonhjobaaDoorDoor
import Derived.Test.YtklhfjeonhjobaaDoorArgs
import Derived.Test.YtklhfjeonhjobaaDoorOwnSet
import Derived.Test.YtklhfjeonhjobaaDoorPost
import Derived.WalkKit
import Derived.ProofKit
import Derived.OpenShut
import Derived.LaidMore
import Derived.Lay
import Derived.Stop.Joined
import Derived.SevenTiedAt
namespace Go.Proofs.YtklhfjeonhjobaaDoor.lawLines
open Go.ChangeShapes Go.WideShapes Go.ChangeAt Go.RowKit Go.Proofs.YtklhfjeonhjobaaDoor.Mix Go.Proofs.YtklhfjeonhjobaaDoor.Row Go.Proofs.YtklhfjeonhjobaaDoor.Mem Go.Proofs.YtklhfjeonhjobaaDoor.Owns Go.Proofs.YtklhfjeonhjobaaDoor.Blocks Go.Proofs.YtklhfjeonhjobaaDoor.Draw Go.Proofs.YtklhfjeonhjobaaDoor.Lines Go.Proofs.YtklhfjeonhjobaaDoor.Strs Go.Proofs.YtklhfjeonhjobaaDoor.LinesBack
set_option linter.unusedVariables false
theorem cellsB : Tryd.prog.cellsOf 5 = 1 := by kernel_rfl
set_option maxHeartbeats 1600000 in
theorem same_any {v1 v2 : Value} {xs ys : List ByteArray} {w : World} (h1 : Row w v1 1 xs.length (strs xs)) (h2 : Row w v2 1 ys.length (strs ys)) :
    Calls Tryd.prog 36 #[v1, v2] w fun e w' => e = .returned (.bool (decide (xs = ys))) ∧ Below w.heap.size w w' := by
  obtain ⟨A, c, rfl, -, hn, hnc, hcm, ha⟩ := h1
  obtain ⟨A2, c2, rfl, -, hn2, hnc2, hcm2, ha2⟩ := h2
  by_cases hl : xs.length = ys.length
  · have d1 : (xs.length == ys.length) = true := by simpa using hl
    have d2 : (xs.length != ys.length) = false := by simpa using hl
    have d3 : ((xs.length : Int) != (ys.length : Int)) = false := by simp; omega
    have hle : xs.length ≤ ys.length := by omega
    have hge : ys.length ≤ xs.length := by omega
    replace hl := Lib.hid hl
    go_enter Tryd.func36, Tryd.ntmps36
    go_wp2
    go_loopw [5] (fun i wr => ∃ k : Nat, k ≤ xs.length ∧ i = .int .i64 k ∧ (∃ n, wr = w.drewN n) ∧ Hid (xs.take k = ys.take k)) (fun i _ => xs.length - (intOf i).toNat)
    case atStart => exact ⟨0, by omega, rfl, ⟨0, rfl⟩, Lib.hid (by simp)⟩
    case round =>
      obtain ⟨k, hk, rfl, ⟨nd, rfl⟩, hr⟩ := hrel
      by_cases hlt : k < xs.length
      · have hlt2 : k < ys.length := by omega
        obtain ⟨b, off, rfl, hb, hc⟩ := ha (by omega)
        obtain ⟨b2, off2, rfl, hb2, hc2⟩ := ha2 (by omega)
        have c1 := hc k _ (at_str hlt)
        have c2 := hc2 k _ (at_str hlt2)
        clear hc hc2
        have i0 : (0 : Int) ≤ (k : Int) := by omega
        have i1 : (k : Int) < (xs.length : Int) := by omega
        have i2 : (k : Int) < (ys.length : Int) := by omega
        by_cases h : xs[k].toList = ys[k].toList
        · have e1 : (xs[k].toList == ys[k].toList) = true := by simpa using h
          have hon := Lib.hid (show xs.take (k + 1) = ys.take (k + 1) by rw [List.take_succ_eq_append_getElem hlt, List.take_succ_eq_append_getElem hlt2, hr.out, toList_inj h])
          replace h := Lib.hid h
          go_wp2
          go_quiet (fail)
          go_wp2
          go_roundw
          case rel => exact ⟨k + 1, by omega, by go_num, ⟨_, rfl⟩, hon⟩
          case measure => simp [intOf]; omega
        · have e1 : (xs[k].toList == ys[k].toList) = false := by simpa using h
          have hne := Lib.hid (show decide (xs = ys) = false by apply decide_eq_false; intro he; subst he; exact h rfl)
          go_wp2
          go_quiet (fail)
          go_wp2
          go_ret
          exact ⟨by rw [hne.out]; rfl, by first | exact to_drewN _ _ _ | (simp only [World.drewN_drewN]; exact to_drewN _ _ _)⟩
      · have hyes := Lib.hid (show decide (xs = ys) = true by
          apply decide_eq_true
          have := hr.out
          rw [List.take_of_length_le (by omega), List.take_of_length_le (by omega)] at this
          exact this)
        go_wp2
        go_ret
        exact ⟨by rw [hyes.out]; rfl, to_drewN _ _ _⟩
  · have d1 : (xs.length == ys.length) = false := by simpa using hl
    have d2 : (xs.length != ys.length) = true := by simpa using hl
    have d3 : ((xs.length : Int) != (ys.length : Int)) = true := by simp; omega
    have hne := Lib.hid (show decide (xs = ys) = false by apply decide_eq_false; intro he; subst he; exact hl rfl)
    replace hl := Lib.hid hl
    go_enter Tryd.func36, Tryd.ntmps36
    go_wp2
    go_ret
    exact ⟨by rw [hne.out]; rfl, Below.refl _ _⟩
/-- both say the same of every place -/
theorem place_any (x : ByteArray) (n : Int) (hx : x.size ≤ 1000) : ∃ a b : Int, (∀ W, Calls Tryd.prog 32 #[.string x, .int .i64 n] W fun e w' => e = .returned (.tuple #[.int .i64 a, .int .i64 b]) ∧ W = w') ∧
    (∀ W, Calls Tryd.prog 34 #[.string x, .int .i64 n] W fun e w' => e = .returned (.tuple #[.int .i64 a, .int .i64 b]) ∧ W = w') := by
  by_cases ho : Place.outside x n = true
  · exact ⟨0, 0, Place.impl_out x n ho, Place.spec_out x n ho⟩
  · have h : 0 ≤ n ∧ n ≤ x.size := by
      simp [Place.outside] at ho
      omega
    obtain ⟨m, rfl⟩ := Int.eq_ofNat_of_zero_le h.1
    exact ⟨_, _, Place.impl_in x m (by omega) (by omega), Place.spec_in x m (by omega) (by omega)⟩
set_option maxRecDepth 100000 in
set_option maxHeartbeats 3200000 in
theorem walkN {v : Value} {bs : List Int} {w : World} (h : Drawn w v bs) (hsh : w.ShapedOpen Tryd.prog) :
    Calls Tryd.prog 7 #[v] w fun e w' => e = .returned (.bool true) ∧ Below w.heap.size w w' := by
  have hm := cell_of_shapedOpen_int (P := Tryd.prog) (g := 0) (t := 3) (zero := #[.int .i64 0]) hsh (of_decide_eq_true (by kernel_rfl)) (by kernel_rfl) rfl (by kernel_rfl) (by kernel_rfl) Tryd.underlying3
  clear hsh
  replace hm := Lib.hid hm
  obtain ⟨A0, c0, rfl, -⟩ := id h.1
  by_cases hb : bs.length ≤ 1048576
  · have d0 : decide ((1048576 : Int) < (bs.length : Int)) = false := by simp; omega
    replace h := Lib.hid h
    go_enter Tryd.func7, Tryd.ntmps7
    go_wp2_with fail
    refine (big_any h.out).mono ?_
    rintro e w0 ⟨rfl, rfl⟩
    go_wp2_with fail
    refine (drawText_any h.out hb).mono ?_
    rintro e w1 ⟨t, ht, rfl, b1⟩
    replace h := Lib.hid (h.out.below b1)
    have hB := Lib.hid b1
    have c1 := impl_Lines t (by omega) (Door.int_below hm.out b1)
    have hback := back t
    have hplace := Lib.hid (fun a => place_in t a)
    have htot := tot_lines t
    have hlz := lines_size t
    have hwd := Lib.hid (fun W hW => impl_Widest t (by omega) (w := W) hW)
    have hjz := tot_joined (lines t)
    have hl2 := Lib.hid (fun W hW => impl_Lines (Join.joined (lines t)) (by omega) (w := W) hW)
    have hj := Lib.hid (fun W v hv => Join.impl_Join (w := W) (v := v) (xs := lines t) hv (by omega))
    rw [hback.2] at hl2
    replace hback := Lib.hid hback.1
    generalize Join.joined (lines t) = s at hback hl2 hjz hj
    generalize lines t = xs at c1 hplace htot hlz hwd hjz hl2 hj
    replace c1 := Lib.hid c1
    replace hlz := Lib.hid hlz
    have htl : xs.length ≤ 200 := by omega
    have hsz : s.size ≤ 200 := by omega
    have htt : tot xs + xs.length ≤ 200 := by omega
    clear htot hjz b1
    replace htt := Lib.hid htt
    go_wp2_with fail
    refine c1.out.mono ?_
    rintro e w2 ⟨vl, rfl, ol, b2⟩
    clear c1
    replace h := Lib.hid (h.out.below b2)
    replace hB := Lib.hid (hB.out.trans (b2.mono hB.out.size))
    clear b2
    obtain ⟨Al, cl, rfl, -, ln, lnc, lcm, -⟩ := row_of_owns ol
    go_wp2_with fail
    refine (hj.out _ _ (row_of_owns ol)).mono ?_
    rintro e w3 ⟨rfl, b3⟩
    replace ol := Lib.hid (own_below ol b3)
    replace h := Lib.hid (h.out.below b3)
    replace hB := Lib.hid (hB.out.trans (b3.mono hB.out.size))
    clear b3 hj
    go_wp2_with fail
    refine (places_any h.out hb).mono ?_
    rintro e w4 ⟨vp, ps, hl, hx, rfl, op, b4⟩
    replace ol := Lib.hid (own_below ol.out b4)
    replace h := Lib.hid (h.out.below b4)
    replace hB := Lib.hid (hB.out.trans (b4.mono hB.out.size))
    clear b4
    obtain ⟨Ap, cp, rfl, -, pn, pnc, pcm, -⟩ := row_of_owns op
    obtain ⟨gp, hgpe, hgp, hgl, hgc, hgf⟩ := owns_open op (by omega)
    cases hgpe
    have hx0 := hx _ (List.getElem_mem (show 0 < ps.length by omega))
    have q0 := hgc 0 _ (show (ps.map (Value.int .i64))[0]? = some (.int .i64 ps[0]) by simp [show 0 < ps.length by omega])
    generalize ps[0] = p0 at q0 hx0
    clear hx hl op hgc hgf hgl hgp
    have hp := Int.emod_nonneg p0 (show (t.size : Int) + 1 ≠ 0 by omega)
    have hp2 := Int.emod_lt_of_pos p0 (show (0 : Int) < (t.size : Int) + 1 by omega)
    have hm0 : p0.tmod ((t.size : Int) + 1) = p0 % ((t.size : Int) + 1) := Int.tmod_eq_emod_of_nonneg hx0.1
    have hz0 : ((t.size : Int) + 1 == 0) = false := beq_eq_false_iff_ne.2 (by omega)
    obtain ⟨a, ha⟩ := Int.eq_ofNat_of_zero_le hp
    rw [ha] at hp2
    have hat : a ≤ t.size := by omega
    rw [ha] at hm0
    clear ha hp hp2
    obtain ⟨c, hc1, hc2, hc3⟩ := hplace.out a hat
    have cp := Place.impl_in t a hat (by omega)
    rw [hc1] at cp
    have hcol : (0 : Int) ≤ Place.col t a ∧ Place.col t a ≤ 1000 := by
      have h1 := Place.last_bounds t a
      unfold Place.col
      omega
    generalize Place.col t a = col at cp hc3 hcol
    replace cp := Lib.hid cp
    replace hc3 := Lib.hid hc3
    clear hc1 hplace
    replace hx0 := Lib.hid hx0
    go_wp2_with fail
    refine (cp.out _).mono ?_
    rintro e w5 ⟨rfl, rfl⟩
    clear cp q0 hm0 hz0 hx0
    obtain ⟨Al', cl', hae, -, -, -, -, hal⟩ := row_of_owns ol.out
    cases hae
    replace hal := Lib.hid hal
    go_wp2
    go_loopw [9, 10] (fun bg i wr => ∃ k m : Nat, k ≤ c ∧ Hid (m = tot (xs.take k) + k) ∧ m ≤ 200 ∧ i = .int .i64 k ∧ bg = .int .i64 m ∧ wr = w4) (fun _ i _ => c - (intOf i).toNat)
    case atStart => exact ⟨0, 0, by omega, Lib.hid rfl, by omega, rfl, rfl, rfl⟩
    case round =>
      obtain ⟨k, m, hk, hmk, hm2, rfl, rfl, rfl⟩ := hrel
      by_cases hlt : k < c
      · have hkl : k < xs.length := by omega
        obtain ⟨b, off, rfl, hbb, hcell⟩ := hal.out (by omega)
        have x1 := hcell k _ (at_str hkl)
        have hon := tot_on hkl
        have htk := tot_take xs (k + 1)
        have hms := hmk.out
        have h200 := htt.out
        have hm3 : m + xs[k].size + 1 ≤ 200 := by omega
        have hmn : m + xs[k].size + 1 = tot (xs.take (k + 1)) + (k + 1) := by omega
        replace hmn := Lib.hid hmn
        generalize xs[k] = x at *
        clear hcell hon htk hms h200 hmk
        have d1 : decide ((k : Int) + 1 < (c : Int) + 1) = true := by simp; omega
        go_wp2
        go_roundw
        case rel => exact ⟨k + 1, m + x.size + 1, by omega, hmn, by omega, by go_num, by go_num, trivial⟩
        case measure => simp [intOf]; omega
      · obtain rfl : k = c := by omega
        have d1 : decide ((k : Int) + 1 < (k : Int) + 1) = false := by simp
        replace hmk := Lib.hid (show (m : Int) + col - 1 = a by have h1 := hc3.out; have h2 := hmk.out; omega)
        clear hc3
        go_wp2_with fail
        refine (drawPlaceOf_any h.out hb).mono ?_
        rintro e w5 ⟨x, n, hxs, hn1, hn2, rfl, b5⟩
        replace ol := Lib.hid (own_below ol.out b5)
        replace h := Lib.hid (h.out.below b5)
        replace hB := Lib.hid (hB.out.trans (b5.mono hB.out.size))
        clear b5 hal
        obtain ⟨pa, pb, cpi, cps⟩ := place_any x n (by omega)
        replace cps := Lib.hid cps
        go_wp2_with fail
        refine (cpi _).mono ?_
        rintro e w6 ⟨rfl, rfl⟩
        clear cpi
        go_wp2_with fail
        refine (cps.out _).mono ?_
        rintro e w6 ⟨rfl, rfl⟩
        clear cps
        go_wp2_with fail
        refine (drawTrimmed_any h.out hb).mono ?_
        rintro e w7 ⟨y, hys, rfl, b7⟩
        replace ol := Lib.hid (own_below ol.out b7)
        replace hB := Lib.hid (hB.out.trans (b7.mono hB.out.size))
        replace hm := Lib.hid (Door.int_below hm.out hB.out)
        clear b7 h
        obtain ⟨Al', cl', hae, -, -, -, -, hal⟩ := row_of_owns ol.out
        cases hae
        replace hal := Lib.hid hal
        clear d1 hc2 hlt hk hcol
        replace hmk := Lib.hid hmk.out
        go_wp2
        go_loopw [18, 19] (fun o i wr => ∃ j u : Nat, j ≤ xs.length ∧ i = .int .i64 j ∧ o = .int .i64 (u : Int) ∧ u ≤ 200 ∧ Hid (u = widest (xs.take j)) ∧ wr = w7) (fun _ i _ => xs.length - (intOf i).toNat)
        case atStart => exact ⟨0, 0, by omega, rfl, rfl, by omega, Lib.hid rfl, rfl⟩
        case round =>
          obtain ⟨j, u, hj, rfl, rfl, hu, hju, rfl⟩ := hrel
          by_cases hjl : j < xs.length
          · obtain ⟨b, off, rfl, hbb, hcell⟩ := hal.out (by omega)
            have x1 := hcell j _ (at_str hjl)
            have hon := widest_on hjl
            rw [← hju.out] at hon
            replace hon := Lib.hid hon
            have hxz := hlz.out _ (List.getElem_mem hjl)
            clear hcell hju
            generalize xs[j] = z at *
            rcases Nat.lt_or_ge u z.size with hlt2 | hge2
            · have hmx := Lib.hid (show max u z.size = z.size by omega)
              have f1 : decide (u < z.size) = true := by simpa using hlt2
              have f2 : decide ((u : Int) < (z.size : Int)) = true := by simp; omega
              go_wp2
              go_roundw
              case rel => exact ⟨j + 1, z.size, by omega, by go_num, rfl, by omega, Lib.hid (by rw [hon.out, hmx.out]), trivial⟩
              case measure => simp [intOf]; omega
            · have hmx := Lib.hid (show max u z.size = u by omega)
              have f1 : decide (u < z.size) = false := by simpa using hge2
              have f2 : decide ((u : Int) < (z.size : Int)) = false := by simp; omega
              go_wp2
              go_roundw
              case rel => exact ⟨j + 1, u, by omega, by go_num, rfl, by omega, Lib.hid (by rw [hon.out, hmx.out]), trivial⟩
              case measure => simp [intOf]; omega
          · obtain rfl : j = xs.length := by omega
            have hwu := hju.out
            rw [List.take_length] at hwu
            rw [← hwu] at hwd
            replace hwu := Lib.hid hwu
            have f3 : decide ((xs.length : Int) < (xs.length : Int)) = false := by simp
            have ct := Lib.hid (Trim.impl_Trimmed y (by omega))
            have cu := Lib.hid (Trim.spec_Trimmed y (by omega))
            have cv := Trim.impl_Trimmed (y ++ (⟨#[32, 32]⟩ : ByteArray)) (by rw [ByteArray.size_append]; show y.size + 2 ≤ _; omega)
            rw [trimmed_more] at cv
            replace cv := Lib.hid cv
            generalize Trim.trimmed y = z at ct cu cv
            have ez : (z.toList == z.toList) = true := by simp
            have ep : (pa == pa) = true := by simp
            have eq' : (pb == pb) = true := by simp
            have eu : ((u : Int) == (u : Int)) = true := by simp
            have hmk1 : (m : Int) + col - 1 = a := hmk.out
            have ea : ((m : Int) + col - 1 == (a : Int)) = true := by simpa using hmk1
            clear hju hlz hal hwu hjl hj
            rcases hback.out with rfl | rfl
            · have es : (s.toList == s.toList) = true := by simp
              go_wp2_with fail
              refine (hl2.out _ hm.out).mono ?_
              rintro e w8 ⟨vq, rfl, oq, b8⟩
              obtain ⟨Aq, cq, rfl, -, qn, qnc, qcm, -⟩ := row_of_owns oq
              replace ol := Lib.hid (own_below ol.out b8)
              replace hB := Lib.hid (hB.out.trans (b8.mono hB.out.size))
              replace hm := Lib.hid (Door.int_below hm.out b8)
              clear b8 hl2
              go_wp2_with fail
              refine (same_any (row_of_owns oq) (row_of_owns ol.out)).mono ?_
              rintro e w9 ⟨rfl, b9⟩
              rw [decide_eq_true rfl]
              replace hB := Lib.hid (hB.out.trans (b9.mono hB.out.size))
              replace hm := Lib.hid (Door.int_below hm.out b9)
              clear b9 ol oq
              go_wp2_with fail
              refine (ct.out _).mono ?_
              rintro e w10 ⟨rfl, rfl⟩
              go_wp2_with fail
              refine (cu.out _).mono ?_
              rintro e w10 ⟨rfl, rfl⟩
              clear cu
              go_wp2_with fail
              refine (cv.out _).mono ?_
              rintro e w10 ⟨rfl, rfl⟩
              clear cv
              go_wp2_with fail
              refine (ct.out _).mono ?_
              rintro e w10 ⟨rfl, rfl⟩
              clear ct
              go_wp2_with fail
              refine (hwd.out _ hm.out).mono ?_
              rintro e w11 ⟨rfl, b11⟩
              replace hB := Lib.hid (hB.out.trans (b11.mono hB.out.size))
              clear b11
              go_wp2
              go_ret
              exact ⟨by simp, hB.out⟩
            · have es : ((t ++ nl).toList == t.toList) = false := by
                rw [beq_eq_false_iff_ne]
                intro e
                have := congrArg ByteArray.size (toList_inj e)
                rw [ByteArray.size_append] at this
                have hn : nl.size = 1 := rfl
                omega
              go_wp2_with fail
              refine (hl2.out _ hm.out).mono ?_
              rintro e w8 ⟨vq, rfl, oq, b8⟩
              obtain ⟨Aq, cq, rfl, -, qn, qnc, qcm, -⟩ := row_of_owns oq
              replace ol := Lib.hid (own_below ol.out b8)
              replace hB := Lib.hid (hB.out.trans (b8.mono hB.out.size))
              replace hm := Lib.hid (Door.int_below hm.out b8)
              clear b8 hl2
              go_wp2_with fail
              refine (same_any (row_of_owns oq) (row_of_owns ol.out)).mono ?_
              rintro e w9 ⟨rfl, b9⟩
              rw [decide_eq_true rfl]
              replace hB := Lib.hid (hB.out.trans (b9.mono hB.out.size))
              replace hm := Lib.hid (Door.int_below hm.out b9)
              clear b9 ol oq
              go_wp2_with fail
              refine (ct.out _).mono ?_
              rintro e w10 ⟨rfl, rfl⟩
              go_wp2_with fail
              refine (cu.out _).mono ?_
              rintro e w10 ⟨rfl, rfl⟩
              clear cu
              go_wp2_with fail
              refine (cv.out _).mono ?_
              rintro e w10 ⟨rfl, rfl⟩
              clear cv
              go_wp2_with fail
              refine (ct.out _).mono ?_
              rintro e w10 ⟨rfl, rfl⟩
              clear ct
              go_wp2_with fail
              refine (hwd.out _ hm.out).mono ?_
              rintro e w11 ⟨rfl, b11⟩
              replace hB := Lib.hid (hB.out.trans (b11.mono hB.out.size))
              clear b11
              go_wp2
              go_ret
              exact ⟨by simp, hB.out⟩
  · have d0 : decide ((1048576 : Int) < (bs.length : Int)) = true := by simp; omega
    replace hm := Lib.hid hm
    go_enter Tryd.func7, Tryd.ntmps7
    go_wp2_with fail
    refine (big_any h).mono ?_
    rintro e w0 ⟨rfl, rfl⟩
    go_wp2
    go_ret
    exact ⟨rfl, Below.refl _ _⟩
set_option maxRecDepth 100000 in
theorem walk (v0 : Value) {base : Nat} {w : World} (o0 : Value.okWide Tryd.prog w .any base 32 v0) {H : Type} {enc : TypeId × Value → H} {d0 : DataW H} {p0 : List MemPlace} (h0 : DataW.Trod enc Tryd.prog w 0 (fun _ => true) true 32 v0 d0 p0) (hsh : w.ShapedOpen Tryd.prog) :
    Calls Tryd.prog 7 #[v0] w fun e w' => e = .returned (.bool true) ∧ Below w.heap.size w w' := by
  obtain ⟨xs, hx, hw⟩ := Args.row_ints Tryd.underlying32 Tryd.underlying5 cellsB o0 h0
  exact walkN ⟨hx, fun x hx => by have := hw x hx; simp [Lit.wf, IntKind.min, IntKind.max, IntKind.signed, IntKind.bits] at this; omega⟩ hsh
theorem own : ownKnob Tryd.prog.godebug = none := by kernel_rfl
theorem laidOut : laidOutB Tryd.prog = true := by kernel_rfl
set_option maxRecDepth 100000 in
theorem lifted (os : Os) (started : os.Started) (H : Type) (enc : TypeId × Value → H) :
    ReturnsInHanded {} Tryd.checked os 7 .any (fun w args => (Rows.fnLinesSpec.pre enc Tryd.prog Tryd.f7 [] false w args ∧ laidMetH Tryd.prog Rows.fnLinesRow.laid w) ∧ sizedMet enc Tryd.prog Tryd.f7 (OpenSpec.ofChange Rows.fnLinesSpec) false w args)
      (Rows.fnLinesSpec.post enc Tryd.prog Tryd.f7 false true false false) := by
  refine Door.ret_and_shaped (C := Tryd.checked) (X := fun w _ => laidMetH Tryd.prog Rows.fnLinesRow.laid w) (fun _ _ _ hh h => h.of_heap hh) own started (by kernel_rfl) Tryd.func7
    (ChangeSpec.witness_shaped (enc := enc) (C := Tryd.checked) (os := os) (X := fun w _ => laidMetH Tryd.prog Rows.fnLinesRow.laid w) false (World.laidAll Tryd.prog os Rows.fnLinesRow.laid) #[.slice none 0 0] 8 (World.laidAll_os _ _ _)
      (World.shaped_of_ZipB (by kernel_rfl) (by kernel_rfl)) (by kernel_rfl) (by kernel_rfl) (by kernel_rfl)
      (by rw [MakeChecks.laidMetH_plain _ _ _ (by kernel_rfl)]; exact laidMet_laidAll _ (by kernel_rfl) (by kernel_rfl))) ?_
  intro W base args ds gs before hval0 hW _ _ _ hsh _
  have hval : ∀ (j : Nat) t v, Tryd.f7.params[j]? = some t → args[j]? = some v → Value.okWide Tryd.prog W .any base t v := hval0
  have hW' := hW
  obtain ⟨p, q, hA0, hV, rfl, hfz, hnd⟩ := hW
  have hA : DataW.TrodAll enc Tryd.prog W 0 (fun _ => true) true Tryd.f7.params.toList args.toList ds p := hA0
  rw [Tryd.params7] at hA hval
  obtain ⟨v0, vs0, d0, ds0, p0, q0, hargs, rfl, rfl, h0, r0⟩ := trodAll_cons hA
  obtain ⟨rfl, rfl, rfl⟩ := trodAll_nil r0
  obtain rfl : args = #[v0] := by cases args; simp_all
  obtain ⟨rfl, rfl⟩ := trodVars_none hV
  have k0 := h0
  have o0 := hval 0 32 v0 rfl rfl
  clear hA0 hval0
  simp only [List.append_nil] at hW'
  have hlt := fun x hx => DataW.Whole.lt hW' x hx
  refine (walk v0 o0 h0 hsh).mono fun e W' ⟨he, hg⟩ => ?_
  subst he
  exact ⟨_, rfl, Post.post_of_below (pa := p0 ++ ([])) (pv := []) hW' (fun _ _ _ => (trodAll_cons_mk (shut_bool Tryd.underlying4 _) trodAll_mk0)) (fun sp hsp => (trodAll_cons_mk (Post.stays laidOut (by kernel_rfl) (of_decide_eq_true (by kernel_rfl)) k0 hg (fun x hx => by first | (cases hx; done) | simp [hx]) hlt hsp) trodAll_mk0)) (fun _ _ => rfl) (by simp)
    hg (ok_one (by kernel_rfl) rfl (okWide_bool_mk Tryd.underlying4 _))⟩

theorem over : Rows.fnLinesRow.holds Tryd.pinned (OpenSpec.ofChange Rows.fnLinesSpec) :=
  OpenClaim.holds_of_wide 7 Tryd.f7 rfl rfl rfl rfl rfl rfl rfl ⟨rfl, rfl, rfl, rfl, rfl⟩ rfl rfl rfl rfl rfl (by kernel_rfl) Tryd.func7 (by kernel_rfl)
    (of_decide_eq_true (by kernel_rfl)) (by unfold Func.isWrapper; first | (rw [if_pos (by decide +kernel)]; kernel_rfl) | (rw [if_neg (by decide +kernel)]; exact ⟨rfl, rfl⟩))
    (fun os started H enc _ => lifted os started H enc)

/-- THE STATEMENT: the tied card -/
theorem proved : Rows.FnLinesCardSaid :=
  Claim7.holds_tied_plain_at .later [] Rows.fnLinesCard.laidKinds true Rows.fnLinesCard.stood.harness Rows.fnLinesCard.stood.looks
    over (fun _ h => by cases h) (by kernel_rfl) (fun _ h => by cases h) fnLines_row_tie rfl ⟨rfl, rfl⟩ (by kernel_rfl) rfl
    (fun f fn hf hfn => by
      obtain rfl : f = 7 := Option.some.inj ((show Tryd.prog.funcNamed "loop.example/g00459/laws.FnLines" = some 7 by kernel_rfl).symm.trans hf) |>.symm
      obtain rfl : fn = Tryd.f7 := (Option.some.inj (Tryd.func7.symm.trans hfn)).symm
      exact ⟨by kernel_rfl, fun j t ht => by
        rw [Tryd.params7] at ht
        have hm : t ∈ [32] := by simpa using Array.mem_of_getElem? ht
        have hall : ([32].all fun u => !Tryd.prog.wantsStandIn u) = true := by kernel_rfl
        exact (show Tryd.prog.wantsStandIn t = false by simpa using List.all_eq_true.1 hall t hm)⟩)
    (by kernel_rfl)
end Go.Proofs.YtklhfjeonhjobaaDoor.lawLines
