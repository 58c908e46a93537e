/-
  The contracts of impl.SignsOf and spec.SignsOf.
  Conditions: a text of 2^20 bytes at most.
-/
import Derived.Test.YtklhfjeonhjobaaDoorLex5
import Derived.Test.YtklhfjeonhjobaaDoorOwns
namespace Go.Proofs.YtklhfjeonhjobaaDoor.Scan
open Go.RowKit Go.Proofs.YtklhfjeonhjobaaDoor.Row Go.Proofs.YtklhfjeonhjobaaDoor.Mem Go.Proofs.YtklhfjeonhjobaaDoor.Mix Go.Proofs.YtklhfjeonhjobaaDoor.Blocks Go.Proofs.YtklhfjeonhjobaaDoor.Recs Go.Proofs.YtklhfjeonhjobaaDoor.Owns
open Go.Proofs.YtklhfjeonhjobaaDoor.Sign (Sign signs sign)
theorem rest_list (t : ByteArray) (a : Nat) : (t.extract a t.size).data.toList = t.data.toList.drop a := by
  rw [extL, List.take_of_length_le (by rw [List.length_drop, len_list]; omega)]
theorem rest_run (f : UInt8 → Bool) (t : ByteArray) (a n : Nat) : run f (t.extract a t.size) n = run f t (a + n) := by
  unfold run
  rw [rest_list, List.drop_drop]
theorem rest_ext (t : ByteArray) (a n : Nat) : (t.extract a t.size).extract 0 n = t.extract a (a + n) := by
  apply toL
  rw [extL, rest_list, extL, List.drop_zero]
  congr 1
  omega
theorem rest_size (t : ByteArray) (a : Nat) : (t.extract a t.size).size = t.size - a := by rw [ByteArray.size_extract]; omega
theorem rest_sign (t : ByteArray) (a : Nat) (c : UInt8) : signN (t.extract a t.size) 0 c = signN t a c := by
  have hz := rest_size t a
  have hq : quoN (t.extract a t.size) 0 = quoN t a := by
    unfold quoN
    simp only
    rw [rest_run, rest_ext, hz, show a + (0 + 1) = a + 1 by omega, show a + (0 + run (fun b => b != 39) t (a + 1) + 2) = a + run (fun b => b != 39) t (a + 1) + 2 by omega]
    have e : (0 + 1 + run (fun b => b != 39) t (a + 1) < t.size - a) ↔ (a + 1 + run (fun b => b != 39) t (a + 1) < t.size) := by omega
    simp only [e]
  have hn : noteN (t.extract a t.size) 0 = noteN t a := by
    unfold noteN
    simp only
    rw [rest_run, rest_ext, Nat.add_zero, Nat.zero_add]
  have hm : markN (t.extract a t.size) 0 = markN t a := by
    unfold markN
    rw [rest_ext, rest_ext, hz, Nat.zero_add, Nat.zero_add]
    have e : (2 ≤ t.size - a) ↔ (a + 2 ≤ t.size) := by omega
    simp only [e]
  unfold signN
  rw [hq, hn, hm, rest_run, rest_run, rest_ext, rest_ext, rest_ext, rest_ext, rest_ext, rest_ext, hz, Nat.add_zero]
  simp only [Nat.zero_add]
  have e : (2 ≤ t.size - a) ↔ (a + 2 ≤ t.size) := by omega
  simp only [e]
theorem sign_le {t : ByteArray} {a : Nat} (ha : a < t.size) (c : UInt8) : a + (signN t a c).2.2 ≤ t.size := by
  have h1 := run_le isInn t a (Nat.le_of_lt ha)
  have h2 := run_le isFig t a (Nat.le_of_lt ha)
  have h3 := quo_le (t := t) (Nat.le_of_lt ha)
  have h4 := mark_le ha
  have h5 := run_le (fun b => b != 10) t a (Nat.le_of_lt ha)
  unfold signN
  split
  · split
    · exact h1
    · simp only; omega
  · split
    · split
      · exact h2
      · simp only; omega
    · split
      · exact h3
      · split
        · unfold noteN
          simp only
          split <;> omega
        · exact h4
theorem scan_len (t : ByteArray) (a br : Nat) (xs : List Sign) (h : xs.length ≤ a) (ha : a ≤ t.size) : (scan t a br xs).1.length ≤ t.size := by
  induction a, br, xs using scan.induct t with
  | case1 a br xs hlt hc ih => rw [scan_blank hlt hc]; exact ih (by omega) (by omega)
  | case2 a br xs hlt hc hc2 ih => rw [scan_line hlt hc2]; exact ih (by omega) (by omega)
  | case3 a br xs hlt hc hc2 h0 => rw [scan_none hlt hc hc2 h0]; simp
  | case4 a br xs hlt hc hc2 h0 ih =>
    rw [scan_sign hlt hc hc2 h0]
    have := sign_le hlt t[a]
    exact ih (by simp; omega) (by omega)
  | case5 a br xs hlt => rw [scan_end hlt]; exact Nat.le_trans h ha
theorem signsOf_len (t : ByteArray) : (signsOf t).1.length ≤ 3000 := by
  unfold signsOf
  split
  · exact Nat.le_trans (scan_len t 0 0 [] (Nat.le_refl _) (Nat.zero_le _)) (by assumption)
  · simp
theorem EZ : Elem Tryd.prog 53 61 (.agg #[.int .i64 0, .string ByteArray.empty, .int .i64 0, .bool false]) 4 40 := ⟨Tryd.underlying53, by kernel_rfl, rfl, by omega⟩
theorem own_nilG (w : World) (base e size : Nat) : w.ownsRow base e size (.slice none 0 0) ([] : List Sign).length (signs []) := ⟨by simp, .inl ⟨rfl, rfl⟩⟩
theorem own_emptyG (w : World) (e : TypeId) (size : Nat) : (w.alloc (.cells #[] e)).ownsRow w.heap.size e size (.slice (some ⟨w.heap.size, 0, none⟩) 0 0) ([] : List Sign).length (signs []) :=
  ⟨by simp, .inr ⟨w.heap.size, 0, #[], rfl, Nat.le_refl _, heap_alloc_new w _, by simp, by simp [maxLen], by simp, by simp⟩⟩
theorem sgn_snoc (xs : List Sign) (x : Sign) : signs xs ++ [.int .i64 x.k, .string x.t, .int .i64 x.a, .bool x.b] = signs (xs ++ [x]) := by simp [signs, Sign.cells]
set_option maxRecDepth 100000 in
set_option maxHeartbeats 3200000 in
theorem impl_Signs (t : ByteArray) (hs : t.size ≤ 1048576) (w : World) : Calls Tryd.prog 41 #[.string t] w fun e w' =>
    ∃ v', e = .returned (.tuple #[v', .int .i64 ((signsOf t).2.1 : Nat), .bool (signsOf t).2.2]) ∧ w'.ownsRow w.heap.size 61 4 v' (signsOf t).1.length (signs (signsOf t).1) ∧ Below w.heap.size w w' := by
  by_cases h3 : 3000 < t.size
  · have hv := Lib.hid (show signsOf t = ([], 3000, false) by unfold signsOf; rw [if_neg (by omega)])
    have d1 : decide ((3000 : Int) < (t.size : Int)) = true := by simp; omega
    go_enter Tryd.func41, Tryd.ntmps41
    go_wp2
    go_ret3
    rw [hv.out]
    exact ⟨_, rfl, own_nilG _ _ _ _, Below.refl _ _⟩
  · have d1 : decide ((3000 : Int) < (t.size : Int)) = false := by simp; omega
    have hv := Lib.hid (show signsOf t = scan t 0 0 [] by unfold signsOf; rw [if_pos (by omega)])
    go_enter Tryd.func41, Tryd.ntmps41
    go_wp2
    go_loopw [5, 6, 7] (fun o b i wr => ∃ (a br : Nat) (xs : List Sign), a ≤ t.size ∧ i = .int .i64 a ∧ b = .int .i64 br ∧ br ≤ a ∧ xs.length ≤ a ∧ Hid (scan t a br xs = signsOf t) ∧ wr.ownsRow w.heap.size 61 4 o xs.length (signs xs) ∧ Below w.heap.size w wr) (fun _ _ i _ => t.size - (intOf i).toNat)
    case atStart => exact ⟨0, 0, [], by omega, rfl, rfl, by omega, by simp, Lib.hid hv.out.symm, own_nilG _ _ _ _, Below.refl _ _⟩
    case round =>
      obtain ⟨a, br, xs, ha, rfl, rfl, hbr, hxl, hsc, hown, hbw⟩ := hrel
      have hsB := hbw.size
      by_cases hlt : a < t.size
      · have i0 : (0 : Int) ≤ (a : Int) := by omega
        have i1 : (a : Int) < (t.size : Int) := by omega
        by_cases h32 : t[a] = 32
        · have e1 : ((t[a].toNat : Int) == 32) = true := by rw [h32]; rfl
          have hon := Lib.hid ((scan_blank hlt h32).symm.trans hsc.out)
          replace hown := Lib.hid hown
          replace h32 := Lib.hid h32
          go_wp2
          go_roundw
          case rel => exact ⟨a + 1, br, xs, by omega, by go_num, rfl, by omega, by omega, hon, hown.out, hbw⟩
          case measure => simp [intOf]; omega
        · have e1 : ((t[a].toNat : Int) == 32) = false := beq_eq_false_iff_ne.2 (fun e => h32 (UInt8.toNat_inj.1 (show t[a].toNat = 32 by omega)))
          by_cases h10 : t[a] = 10
          · have e2 : ((t[a].toNat : Int) == 10) = true := by rw [h10]; rfl
            have hon := Lib.hid ((scan_line hlt h10).symm.trans hsc.out)
            replace hown := Lib.hid hown
            replace h32 := Lib.hid h32
            replace h10 := Lib.hid h10
            go_wp2
            go_roundw
            case rel => exact ⟨a + 1, br + 1, xs, by omega, by go_num, by go_num, by omega, by omega, hon, hown.out, hbw⟩
            case measure => simp [intOf]; omega
          · have e2 : ((t[a].toNat : Int) == 10) = false := beq_eq_false_iff_ne.2 (fun e => h10 (UInt8.toNat_inj.1 (show t[a].toNat = 10 by omega)))
            have hz := rest_size t a
            have hU0 : 0 < (t.extract a t.size).size := by omega
            have hc0 : (t.extract a t.size)[0] = t[a] := by
              have h1 : (t.extract a t.size).data.toList[0]? = t.data.toList[a]? := by rw [rest_list, List.getElem?_drop, Nat.add_zero]
              rw [List.getElem?_eq_getElem (by rw [len_list]; exact hU0), List.getElem?_eq_getElem (by rw [len_list]; exact hlt)] at h1
              injection h1
            have hcall := signAt_i (t.extract a t.size) hU0 (by omega) wr
            have hsu : signU (t.extract a t.size) hU0 = signN t a t[a] := by unfold signU; rw [hc0, rest_sign]
            rw [hsu] at hcall
            have hle := sign_le hlt t[a]
            have hnone := fun h => scan_none (br := br) (xs := xs) hlt h32 h10 h
            have hsome := fun h => scan_sign (br := br) (xs := xs) hlt h32 h10 h
            rw [hsc.out] at hnone hsome
            replace hcall := Lib.hid hcall
            replace hnone := Lib.hid hnone
            replace hsome := Lib.hid hsome
            clear hsu hc0 hz hU0
            generalize signN t a t[a] = S at *
            obtain ⟨Sk, St, Sn⟩ := S
            dsimp only at hle
            replace h32 := Lib.hid h32
            replace h10 := Lib.hid h10
            replace hown := Lib.hid hown
            go_wp2_with fail
            refine hcall.out.mono ?_
            rintro e w1 ⟨k, z, x, rfl, hval, b1⟩
            dsimp only at hval ⊢
            have hB1 := hbw.trans (b1.mono hsB)
            have hown1 := own_below hown.out b1
            clear hcall hown hbw b1
            by_cases hn0 : Sn = 0
            · have dn : decide (Sn ≠ 0) = false := decide_eq_false (fun h => h hn0)
              rw [dn]
              have hfin := Lib.hid (hnone.out hn0)
              replace hval := Lib.hid hval
              replace hown1 := Lib.hid hown1
              replace hn0 := Lib.hid hn0
              go_wp2
              go_ret3
              rw [hfin.out]
              exact ⟨_, rfl, own_nilG _ _ _ _, hB1⟩
            · have dn : decide (Sn ≠ 0) = true := decide_eq_true hn0
              rw [dn]
              obtain ⟨rfl, rfl, rfl⟩ := hval hn0
              have hon := Lib.hid (hsome.out hn0).symm
              (try dsimp only at hon)
              have db : decide ((1 : Int) < (br : Int)) = decide (1 < br) := by rw [decide_eq_decide]; omega
              obtain ⟨bb, hbb⟩ : ∃ b, decide (1 < br) = b := ⟨_, rfl⟩
              rw [hbb] at db hon
              replace hbb := Lib.hid hbb
              obtain ⟨v', w', hrun, hown', hb', -, -⟩ := append_at EZ hown1 hB1 w1.heap.size rfl [.int .i64 k, .string x, .int .i64 a, .bool bb] 1 rfl (by simp [Value.oneCell']) (by simp only [maxLen]; omega) (by omega)
              have hsn := sgn_snoc xs ⟨k, x, a, bb⟩
              (try dsimp only at hsn)
              rw [hsn, ← List.length_singleton (a := (⟨k, x, a, bb⟩ : Sign)), ← List.length_append] at hown'
              replace hown' := Lib.hid hown'
              replace hb' := Lib.hid hb'
              have hnb : (Sn : Int) ≤ 1048576 := by omega
              have hn0h := Lib.hid hn0
              clear hown1 hB1 hsn hval hnone hsome
              go_wp2_with (at_builtin; refine wpList_append_run rfl rfl hrun ?_)
              go_roundw
              case rel => exact ⟨a + Sn, 0, _, by omega, by go_num, rfl, by omega, by simp; omega, hon, hown'.out, hb'.out⟩
              case measure => simp [intOf]; omega
      · have hfin := Lib.hid ((scan_end (br := br) (xs := xs) hlt).symm.trans hsc.out)
        obtain ⟨Ao, co, rfl, -, on, onc, ocm, -⟩ := row_of_owns hown
        replace hown := Lib.hid hown
        go_wp2
        go_ret3
        rw [← hfin.out]
        exact ⟨_, rfl, hown.out, hbw⟩
end Go.Proofs.YtklhfjeonhjobaaDoor.Scan
