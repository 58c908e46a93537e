/-
  The contracts of impl.PartsOf and spec.PartsOf: the text cut at each blank, empty pieces left out.
  Conditions: a text of 2^20 bytes at most; the library's variable holds some number.
-/
import Derived.Test.YtklhfjeonhjobaaDoorLines
namespace Go.Proofs.YtklhfjeonhjobaaDoor.Parts
open Go.RowKit Go.Proofs.YtklhfjeonhjobaaDoor.Row Go.Proofs.YtklhfjeonhjobaaDoor.Mem Go.Proofs.YtklhfjeonhjobaaDoor.Mix Go.Proofs.YtklhfjeonhjobaaDoor.Strs Go.Proofs.YtklhfjeonhjobaaDoor.Owns Go.Proofs.YtklhfjeonhjobaaDoor.Cut Go.Proofs.YtklhfjeonhjobaaDoor.Lines
def okB (b : UInt8) : Bool := decide (32 ≤ b.toNat) && decide (b.toNat ≤ 126)
def full (x : ByteArray) : Bool := decide (x.size ≠ 0)
def partsIn (s : ByteArray) : List ByteArray := (pieces 32 s).filter full
def partsOf (s : ByteArray) : List ByteArray × Bool := if s.size ≤ 600 ∧ s.data.toList.all okB = true ∧ (partsIn s).length ≤ 10 then (partsIn s, true) else ([], false)
theorem partsOf_len (s : ByteArray) : (partsOf s).1.length ≤ 10 := by
  unfold partsOf
  split
  · rename_i h; exact h.2.2
  · simp
theorem not_ok {s : ByteArray} {k : Nat} (h : k < s.size) (hb : okB s[k] = false) : partsOf s = ([], false) := by
  unfold partsOf
  rw [if_neg]
  rintro ⟨-, h2, -⟩
  rw [List.all_eq_true] at h2
  have := h2 s[k] (List.getElem_mem (l := s.data.toList) (by simpa using h))
  rw [hb] at this
  cases this
theorem take_snoc (s : ByteArray) (k : Nat) (h : k < s.size) : s.data.toList.take (k + 1) = s.data.toList.take k ++ [s[k]] := by
  rw [List.take_succ_eq_append_getElem (by simpa using h)]
  rfl
theorem all_take {s : ByteArray} {k : Nat} (h : k < s.size) (ha : (s.data.toList.take k).all okB = true) (hb : okB s[k] = true) : (s.data.toList.take (k + 1)).all okB = true := by
  rw [take_snoc s k h, List.all_append, ha]
  simpa using hb
theorem filt_yes {xs : List ByteArray} {x : ByteArray} (h : x.size ≠ 0) : (xs ++ [x]).filter full = xs.filter full ++ [x] := by
  rw [List.filter_append, List.filter_cons_of_pos (by simpa [full] using h)]
  rfl
theorem filt_no {xs : List ByteArray} {x : ByteArray} (h : x.size = 0) : (xs ++ [x]).filter full = xs.filter full := by
  rw [List.filter_append, List.filter_cons_of_neg (by simp [full, h])]
  simp
theorem own_none (w : World) (base e size : Nat) : w.ownsRow base e size (.slice none 0 0) ([] : List ByteArray).length (strs []) := ⟨by simp, .inl ⟨rfl, rfl⟩⟩
theorem filt_len (xs : List ByteArray) : (xs.filter full).length ≤ xs.length := List.length_filter_le _ _
set_option maxRecDepth 100000 in
set_option maxHeartbeats 3200000 in
theorem spec_Parts (s : ByteArray) (hs : s.size ≤ 1048576) (w : World) :
    Calls Tryd.prog 14 #[.string s] w fun e w' => ∃ v', e = .returned (.tuple #[v', .bool (partsOf s).2]) ∧ w'.ownsRow w.heap.size 9 1 v' (partsOf s).1.length (strs (partsOf s).1) ∧ Below w.heap.size w w' := by
  by_cases h6 : 600 < s.size
  · have hv := Lib.hid (show partsOf s = ([], false) by unfold partsOf; rw [if_neg (by omega)])
    have d1 : decide ((600 : Int) < (s.size : Int)) = true := by simp; omega
    go_enter Tryd.func14, Tryd.ntmps14
    go_wp2
    go_ret2
    rw [hv.out]
    exact ⟨_, rfl, own_empty _ _ _, (Below.refl _ _).alloc (Nat.le_refl _) _⟩
  · have d1 : decide ((600 : Int) < (s.size : Int)) = false := by simp; omega
    have hll : s.data.toList.length = s.size := by simp
    go_enter Tryd.func14, Tryd.ntmps14
    go_wp2
    go_loopw [4, 5, 6] (fun o bg i wr => (∃ (k b : Nat) (xs : List ByteArray), k ≤ s.size ∧ i = .int .i64 k ∧ bg = .int .i64 b ∧ b ≤ k ∧ xs.length ≤ k ∧ Hid (At 32 s xs b k) ∧ Hid ((s.data.toList.take k).all okB = true) ∧ wr.ownsRow w.heap.size 9 1 o (xs.filter full).length (strs (xs.filter full)) ∧ Below w.heap.size w wr) ∨
      (i = .int .i64 ((s.size : Int) + 1) ∧ Hid (s.data.toList.all okB = true) ∧ wr.ownsRow w.heap.size 9 1 o (partsIn s).length (strs (partsIn s)) ∧ Below w.heap.size w wr)) (fun _ _ i _ => s.size + 1 - (intOf i).toNat)
    case atStart => exact .inl ⟨0, 0, [], by omega, rfl, rfl, by omega, by simp, Lib.hid (at_start 32 s), Lib.hid rfl, own_empty _ _ _, (Below.refl _ _).alloc (Nat.le_refl _) _⟩
    case round =>
      rcases hrel with ⟨k, b, xs, hk, rfl, rfl, hbk, hxl, hat, hall, hown, hbw⟩ | ⟨rfl, hall, hown, hbw⟩
      · have hfl := filt_len xs
        by_cases hlt : k < s.size
        · have i0 : (0 : Int) ≤ (k : Int) := by omega
          have i1 : (k : Int) < (s.size : Int) := by omega
          by_cases hlo : s[k].toNat < 32
          · have e1 : decide ((s[k].toNat : Int) < 32) = true := by simp; omega
            have hv := Lib.hid (not_ok hlt (show okB s[k] = false by unfold okB; rw [decide_eq_false (by omega)]; rfl))
            replace hown := Lib.hid hown
            go_wp2
            go_ret2
            rw [hv.out]
            exact ⟨_, rfl, own_mono (own_empty _ _ _) hbw.size, hbw.alloc hbw.size _⟩
          · have e1 : decide ((s[k].toNat : Int) < 32) = false := by simp; omega
            by_cases hhi : 126 < s[k].toNat
            · have e2 : decide ((126 : Int) < (s[k].toNat : Int)) = true := by simp; omega
              have hv := Lib.hid (not_ok hlt (show okB s[k] = false by unfold okB; rw [decide_eq_false (show ¬ s[k].toNat ≤ 126 by omega)]; simp))
              replace hown := Lib.hid hown
              go_wp2
              go_ret2
              rw [hv.out]
              exact ⟨_, rfl, own_mono (own_empty _ _ _) hbw.size, hbw.alloc hbw.size _⟩
            · have e2 : decide ((126 : Int) < (s[k].toNat : Int)) = false := by simp; omega
              have ha := Lib.hid (all_take hlt hall.out (show okB s[k] = true by unfold okB; rw [decide_eq_true (by omega), decide_eq_true (by omega)]; rfl))
              by_cases h32 : s[k].toNat = 32
              · have e3 : ((s[k].toNat : Int) != 32) = false := by simp; omega
                have hn := Lib.hid (at_hit hat.out hlt (UInt8.toNat_inj.1 (by rw [h32]; rfl)))
                have hz : (s.extract b k).size = k - b := by rw [ByteArray.size_extract]; omega
                replace h32 := Lib.hid h32
                by_cases hbl : b < k
                · obtain ⟨v', w', hrun, hown', hb', -, -⟩ := append_at ES hown hbw wr.heap.size rfl [.string (s.extract b k)] 1 rfl (by simp [Value.oneCell']) (by simp only [maxLen]; omega) (by omega)
                  rw [strs_snoc, ← List.length_singleton (a := s.extract b k), ← List.length_append, ← filt_yes (xs := xs) (by omega)] at hown'
                  replace hown' := Lib.hid hown'
                  replace hb' := Lib.hid hb'
                  clear hown hbw hz
                  go_wp2_with (at_builtin; refine wpList_append_run rfl rfl hrun ?_)
                  go_roundw
                  case rel => exact .inl ⟨k + 1, k + 1, _, by omega, by go_num, by go_num, by omega, by simp; omega, hn, ha, hown'.out, hb'.out⟩
                  case measure => first | (simp [intOf]; done) | (simp [intOf]; omega)
                · have d5 : decide ((b : Int) < (k : Int)) = false := by simp; omega
                  have hf := Lib.hid (filt_no (xs := xs) (x := s.extract b k) (by omega))
                  replace hown := Lib.hid hown
                  clear hz
                  go_wp2
                  go_roundw
                  case rel => exact .inl ⟨k + 1, k + 1, _, by omega, by go_num, by go_num, by omega, by simp; omega, hn, ha, by rw [hf.out]; exact hown.out, hbw⟩
                  case measure => first | (simp [intOf]; done) | (simp [intOf]; omega)
              · have e3 : ((s[k].toNat : Int) != 32) = true := by simp; omega
                have hn := Lib.hid (at_miss hat.out hlt (fun e => h32 (by rw [e]; rfl)))
                replace h32 := Lib.hid h32
                replace hown := Lib.hid hown
                go_wp2
                go_roundw
                case rel => exact .inl ⟨k + 1, b, xs, by omega, by go_num, rfl, by omega, by omega, hn, ha, hown.out, hbw⟩
                case measure => first | (simp [intOf]; done) | (simp [intOf]; omega)
        · have hks : k = s.size := by omega
          subst hks
          have he := at_end hat.out
          have hz : (s.extract b s.size).size = s.size - b := by rw [ByteArray.size_extract]; omega
          rw [List.take_of_length_le (by omega)] at hall
          by_cases hbl : b < s.size
          · have hp : (xs.filter full) ++ [s.extract b s.size] = partsIn s := by unfold partsIn; rw [he, filt_yes (by omega)]
            obtain ⟨v', w', hrun, hown', hb', -, -⟩ := append_at ES hown hbw wr.heap.size rfl [.string (s.extract b s.size)] 1 rfl (by simp [Value.oneCell']) (by simp only [maxLen]; omega) (by omega)
            rw [strs_snoc, ← List.length_singleton (a := s.extract b s.size), ← List.length_append, hp] at hown'
            replace hown' := Lib.hid hown'
            replace hb' := Lib.hid hb'
            clear hown hbw hz he hp
            go_wp2_with (at_builtin; refine wpList_append_run rfl rfl hrun ?_)
            go_roundw
            case rel => exact .inr ⟨rfl, hall, hown'.out, hb'.out⟩
            case measure => first | (simp [intOf]; done) | (simp [intOf]; omega)
          · have d5 : decide ((b : Int) < (s.size : Int)) = false := by simp; omega
            have hp : xs.filter full = partsIn s := by unfold partsIn; rw [he, filt_no (by omega)]
            rw [hp] at hown
            replace hown := Lib.hid hown
            clear hz he hp
            go_wp2
            go_roundw
            case rel => exact .inr ⟨rfl, hall, hown.out, hbw⟩
            case measure => first | (simp [intOf]; done) | (simp [intOf]; omega)
      · have d6 : decide ((s.size : Int) + 1 ≤ (s.size : Int)) = false := by simp; omega
        obtain ⟨Ao, co, rfl, -, on, onc, ocm, -⟩ := row_of_owns hown
        replace hown := Lib.hid hown
        by_cases h10 : 10 < (partsIn s).length
        · have d7 : decide ((10 : Int) < ((partsIn s).length : Int)) = true := by simp; omega
          have hv := Lib.hid (show partsOf s = ([], false) by unfold partsOf; rw [if_neg (by omega)])
          go_wp2
          go_ret2
          rw [hv.out]
          exact ⟨_, rfl, own_mono (own_empty _ _ _) hbw.size, hbw.alloc hbw.size _⟩
        · have d7 : decide ((10 : Int) < ((partsIn s).length : Int)) = false := by simp; omega
          have hv := Lib.hid (show partsOf s = (partsIn s, true) by unfold partsOf; rw [if_pos ⟨by omega, hall.out, by omega⟩])
          go_wp2
          go_ret2
          rw [hv.out]
          exact ⟨_, rfl, hown.out, hbw⟩
set_option maxRecDepth 100000 in
set_option maxHeartbeats 3200000 in
theorem impl_Parts (s : ByteArray) (hs : s.size ≤ 1048576) {w : World} (hm : ∃ m, w.cell? ⟨0, 0, none⟩ = some (.int .i64 m)) :
    Calls Tryd.prog 15 #[.string s] w fun e w' => ∃ v', e = .returned (.tuple #[v', .bool (partsOf s).2]) ∧ w'.ownsRow w.heap.size 9 1 v' (partsOf s).1.length (strs (partsOf s).1) ∧ Below w.heap.size w w' := by
  by_cases h6 : 600 < s.size
  · have hv := Lib.hid (show partsOf s = ([], false) by unfold partsOf; rw [if_neg (by omega)])
    have d1 : decide ((600 : Int) < (s.size : Int)) = true := by simp; omega
    go_enter Tryd.func15, Tryd.ntmps15
    go_wp2
    go_ret2
    rw [hv.out]
    exact ⟨_, rfl, own_none _ _ _ _, Below.refl _ _⟩
  · have d1 : decide ((600 : Int) < (s.size : Int)) = false := by simp; omega
    have hll : s.data.toList.length = s.size := by simp
    obtain ⟨m, hm⟩ := hm
    have hcl := pieces_len 32 s
    have hcb := Lib.countB_le ⟨#[32]⟩ (by show 1 ≤ 1; omega) _ s (Nat.le_refl _)
    have hc := Lib.hid (Tryd.strings_Split s ⟨#[32]⟩ m w (by omega) hm (by show 1 ≤ 1; omega))
    rw [show Lib.splitB ⟨#[32]⟩ 0 (Lib.countB s ⟨#[32]⟩) s = pieces 32 s from rfl, ← hcl] at hc
    have hpn : (pieces 32 s).length ≤ 601 := by omega
    clear hcb hcl
    have hpi : partsIn s = (pieces 32 s).filter full := rfl
    generalize hxs : pieces 32 s = xs at *
    replace hxs := Lib.hid hxs
    have hb := (Below.refl w.heap.size w).alloc (Nat.le_refl _) (.cells (xs.map Value.string).toArray 9)
    have hk0 := heap_alloc_new w (.cells (xs.map Value.string).toArray 9)
    obtain ⟨W, hW⟩ : ∃ W, w.alloc (.cells (xs.map Value.string).toArray 9) = W := ⟨_, rfl⟩
    rw [hW] at hc hb hk0
    replace hW := Lib.hid hW
    go_enter Tryd.func15, Tryd.ntmps15
    go_wp2
    go_loop [4] (fun i => ∃ k : Nat, k ≤ s.size ∧ i = .int .i64 k ∧ Hid ((s.data.toList.take k).all okB = true)) (fun i => s.size - (intOf i).toNat)
    case atStart => exact ⟨0, by omega, rfl, Lib.hid rfl⟩
    case round =>
      obtain ⟨k, hk, rfl, hall⟩ := hrel
      by_cases hlt : k < s.size
      · have i0 : (0 : Int) ≤ (k : Int) := by omega
        have i1 : (k : Int) < (s.size : Int) := by omega
        by_cases hlo : s[k].toNat < 32
        · have e1 : decide ((s[k].toNat : Int) < 32) = true := by simp; omega
          have hv := Lib.hid (not_ok hlt (show okB s[k] = false by unfold okB; rw [decide_eq_false (by omega)]; rfl))
          go_wp2
          go_ret2
          rw [hv.out]
          exact ⟨_, rfl, own_none _ _ _ _, Below.refl _ _⟩
        · have e1 : decide ((s[k].toNat : Int) < 32) = false := by simp; omega
          by_cases hhi : 126 < s[k].toNat
          · have e2 : decide ((126 : Int) < (s[k].toNat : Int)) = true := by simp; omega
            have hv := Lib.hid (not_ok hlt (show okB s[k] = false by unfold okB; rw [decide_eq_false (show ¬ s[k].toNat ≤ 126 by omega)]; simp))
            go_wp2
            go_ret2
            rw [hv.out]
            exact ⟨_, rfl, own_none _ _ _ _, Below.refl _ _⟩
          · have e2 : decide ((126 : Int) < (s[k].toNat : Int)) = false := by simp; omega
            have ha := Lib.hid (all_take hlt hall.out (show okB s[k] = true by unfold okB; rw [decide_eq_true (by omega), decide_eq_true (by omega)]; rfl))
            go_wp2
            go_round
            case rel => exact ⟨k + 1, by omega, by go_num, ha⟩
            case measure => first | (simp [intOf]; done) | (simp [intOf]; omega)
      · have hks : k = s.size := by omega
        subst hks
        rw [List.take_of_length_le (by omega)] at hall
        go_wp2_with fail
        refine hc.out.mono ?_
        rintro e w1 ⟨rfl, rfl⟩
        replace hk0 := Lib.hid hk0
        replace hb := Lib.hid hb
        have hbs := hb.out.size
        go_wp2
        go_loopw [5, 7, 30] (fun o _ i wr => ∃ k : Nat, k ≤ xs.length ∧ i = .int .i64 k ∧ wr.ownsRow w1.heap.size 9 1 o ((xs.take k).filter full).length (strs ((xs.take k).filter full)) ∧ Below w1.heap.size w1 wr) (fun _ _ i _ => xs.length - (intOf i).toNat)
        case atStart => exact ⟨0, by omega, rfl, own_none _ _ _ _, Below.refl _ _⟩
        case round =>
          obtain ⟨k, hk, rfl, hown, hbw⟩ := hrel
          by_cases hlt : k < xs.length
          · have hkb := (hbw.block w.heap.size (Array.getElem?_eq_some_iff.1 hk0.out).1).trans hk0.out
            have c0 : wr.cell? ⟨w.heap.size, k, none⟩ = some (.string xs[k]) := by
              rw [cell_of_row _ _ _ _ _ (0, 0) hkb]; simp [hlt]
            clear hkb
            have hfl := filt_len (xs.take k)
            rw [List.length_take] at hfl
            have htk := List.take_succ_eq_append_getElem hlt
            have i0 : (0 : Int) ≤ (k : Int) := by omega
            have i1 : (k : Int) < (xs.length : Int) := by omega
            by_cases hx : xs[k].size = 0
            · have hx0 : xs[k].toList = [] := toList_nil.2 hx
              have hon := Lib.hid (show (xs.take (k + 1)).filter full = (xs.take k).filter full by rw [htk, filt_no hx])
              replace hown := Lib.hid hown
              replace hx := Lib.hid hx
              clear htk
              go_wp2
              go_roundw
              case rel => exact ⟨k + 1, by omega, by go_num, by rw [hon.out]; exact hown.out, hbw⟩
              case measure => first | (simp [intOf]; done) | (simp [intOf]; omega)
            · have hx0 : ¬ xs[k].toList = [] := fun e => hx (toList_nil.1 e)
              have hx1 : xs[k].toList.isEmpty = false := by simpa using hx0
              have hon := show (xs.take (k + 1)).filter full = (xs.take k).filter full ++ [xs[k]] by rw [htk, filt_yes hx]
              obtain ⟨v', w', hrun, hown', hb', -, -⟩ := append_at ES hown hbw wr.heap.size rfl [.string xs[k]] 1 rfl (by simp [Value.oneCell']) (by simp only [maxLen]; omega) (by omega)
              rw [strs_snoc, ← List.length_singleton (a := xs[k]), ← List.length_append, ← hon] at hown'
              replace hown' := Lib.hid hown'
              replace hb' := Lib.hid hb'
              replace hx := Lib.hid hx
              clear hown hbw htk hon
              go_wp2_with (at_builtin; refine wpList_append_run rfl rfl hrun ?_)
              go_roundw
              case rel => exact ⟨k + 1, by omega, by go_num, hown'.out, hb'.out⟩
              case measure => first | (simp [intOf]; done) | (simp [intOf]; omega)
          · have hkx : k = xs.length := by omega
            subst hkx
            rw [List.take_of_length_le (Nat.le_refl _), ← hpi] at hown
            replace hpi := Lib.hid hpi
            obtain ⟨Ao, co, rfl, -, on, onc, ocm, -⟩ := row_of_owns hown
            have hBB := Lib.hid (hb.out.trans (hbw.mono hbs))
            replace hown := Lib.hid (own_mono hown hbs)
            by_cases h10 : 10 < (partsIn s).length
            · have d7 : decide ((10 : Int) < ((partsIn s).length : Int)) = true := by simp; omega
              have hv := Lib.hid (show partsOf s = ([], false) by unfold partsOf; rw [if_neg (by omega)])
              go_wp2
              go_ret2
              rw [hv.out]
              exact ⟨_, rfl, own_none _ _ _ _, hBB.out⟩
            · have d7 : decide ((10 : Int) < ((partsIn s).length : Int)) = false := by simp; omega
              have hv := Lib.hid (show partsOf s = (partsIn s, true) by unfold partsOf; rw [if_pos ⟨by omega, hall.out, by omega⟩])
              go_wp2
              go_ret2
              rw [hv.out]
              exact ⟨_, rfl, hown.out, hBB.out⟩
end Go.Proofs.YtklhfjeonhjobaaDoor.Parts
