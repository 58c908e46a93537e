/-
  The contracts of impl.NotesIn and spec.NotesIn: the texts of the notes, in order, in a slice of the call's own.
  Conditions: the slice reads as a list of signs; 2^20 of them at most.
-/
import Derived.Test.YtfhigagbipkipaaSign
import Derived.Test.YtfhigagbipkipaaOwns
namespace Go.Proofs.Ytfhigagbipkipaa.Notes
open Go.RowKit Go.Proofs.Ytfhigagbipkipaa.Row Go.Proofs.Ytfhigagbipkipaa.Mem Go.Proofs.Ytfhigagbipkipaa.Mix Go.Proofs.Ytfhigagbipkipaa.Recs Go.Proofs.Ytfhigagbipkipaa.Sign Go.Proofs.Ytfhigagbipkipaa.Owns
def notes (xs : List Sign) : List ByteArray := (xs.filter fun x => x.k == 5).map Sign.t
theorem notes_on {xs : List Sign} {k : Nat} (h : k < xs.length) (h5 : (xs[k].k == 5) = true) : notes (xs.take (k + 1)) = notes (xs.take k) ++ [xs[k].t] := by
  unfold notes; rw [List.take_succ_eq_append_getElem h, List.filter_append, List.map_append]; simp [List.filter_cons, h5]
theorem notes_off {xs : List Sign} {k : Nat} (h : k < xs.length) (h5 : (xs[k].k == 5) = false) : notes (xs.take (k + 1)) = notes (xs.take k) := by
  unfold notes; rw [List.take_succ_eq_append_getElem h, List.filter_append, List.map_append]; simp [List.filter_cons, h5]
theorem notes_len (xs : List Sign) (k : Nat) : (notes (xs.take k)).length ≤ k := by
  unfold notes
  rw [List.length_map]
  exact Nat.le_trans (List.length_filter_le _ _) (by simp; omega)
theorem strs_snoc (l : List ByteArray) (s : ByteArray) : Strs.strs l ++ [.string s] = Strs.strs (l ++ [s]) := by simp [Strs.strs]
theorem own_empty (w : World) (e : TypeId) (size : Nat) : (w.alloc (.cells #[] e)).ownsRow w.heap.size e size (.slice (some ⟨w.heap.size, 0, none⟩) 0 0) 0 [] := by
  refine ⟨by simp, .inr ⟨w.heap.size, 0, #[], rfl, Nat.le_refl _, heap_alloc_new w _, by omega, by simp [maxLen], by simp, by simp⟩⟩
set_option maxRecDepth 100000 in
set_option maxHeartbeats 1600000 in
theorem impl_Notes {v : Value} {xs : List Sign} {w : World} (h1 : Row w v 4 xs.length (signs xs)) (hmx : xs.length ≤ 1048576) :
    Calls Try.prog 10 #[v] w fun e w' => ∃ v', e = .returned v' ∧ w'.ownsRow w.heap.size 9 1 v' (notes xs).length (Strs.strs (notes xs)) ∧ Below w.heap.size w w' := by
  obtain ⟨A, c, rfl, -, hn, hnc, hcm, ha⟩ := h1
  go_enter Try.func10, Try.ntmps10
  go_wp2
  go_loopw [3, 8] (fun o i wr => ∃ k : Nat, k ≤ xs.length ∧ i = .int .i64 k ∧ wr.ownsRow w.heap.size 9 1 o (notes (xs.take k)).length (Strs.strs (notes (xs.take k))) ∧ Below w.heap.size w wr) (fun _ i _ => xs.length - (intOf i).toNat)
  case atStart => exact ⟨0, by omega, rfl, ⟨by simp [notes], .inl ⟨rfl, rfl⟩⟩, Below.refl _ _⟩
  case round =>
    obtain ⟨k, hk, rfl, hown, hbw⟩ := hrel
    have hs := hbw.size
    by_cases hlt : k < xs.length
    · obtain ⟨b, off, rfl, hb, hc⟩ := ha (by omega)
      obtain ⟨p0, p1, p2, p3⟩ := cells4 (fun j u hu => (cells_of hbw b _ hb).trans (hc j u hu)) hlt
      clear hc ha
      have z3 : b ≠ wr.heap.size := by omega
      have hkl := notes_len xs k
      have ho1 := own_below hown ((Below.refl wr.heap.size wr).alloc (Nat.le_refl _) (.cells #[.int .i64 xs[k].k, .string xs[k].t, .int .i64 xs[k].a, .bool xs[k].b] 59))
      have hb1 := hbw.alloc hs (.cells #[.int .i64 xs[k].k, .string xs[k].t, .int .i64 xs[k].a, .bool xs[k].b] 59)
      cases h5 : (xs[k].k == 5)
      · have hon := Lib.hid (notes_off hlt h5)
        replace ho1 := Lib.hid ho1
        replace hb1 := Lib.hid hb1
        clear hown hbw
        go_wp2
        go_roundw
        case rel => exact ⟨k + 1, by omega, by go_num, by rw [hon.out]; exact ho1.out, hb1.out⟩
        case measure => simp [intOf]; omega
      · have hon := Lib.hid (notes_on hlt h5)
        obtain ⟨v', w', hrun, hown', hb', -, -⟩ := append_at Strs.ES ho1 hb1 (wr.heap.size + 1) (by simp) [.string xs[k].t] 1 rfl (by simp [Value.oneCell']) (by simp only [maxLen]; omega) (by omega)
        rw [strs_snoc, ← List.length_singleton (a := xs[k].t), ← List.length_append, ← hon.out] at hown'
        replace hown' := Lib.hid hown'
        replace hb' := Lib.hid hb'
        clear ho1 hb1 hown hbw
        go_wp2_with (at_builtin; refine wpList_append_run rfl rfl hrun ?_)
        go_roundw
        case rel => exact ⟨k + 1, by omega, by go_num, hown'.out, hb'.out⟩
        case measure => simp [intOf]; omega
    · obtain rfl : k = xs.length := by omega
      rw [List.take_length] at hown
      replace hown := Lib.hid hown
      go_wp2
      go_ret
      exact ⟨_, rfl, hown.out, hbw⟩
set_option maxRecDepth 100000 in
set_option maxHeartbeats 1600000 in
theorem spec_Notes {v : Value} {xs : List Sign} {w : World} (h1 : Row w v 4 xs.length (signs xs)) (hmx : xs.length ≤ 1048576) :
    Calls Try.prog 8 #[v] w fun e w' => ∃ v', e = .returned v' ∧ w'.ownsRow w.heap.size 9 1 v' (notes xs).length (Strs.strs (notes xs)) ∧ Below w.heap.size w w' := by
  obtain ⟨A, c, rfl, -, hn, hnc, hcm, ha⟩ := h1
  go_enter Try.func8, Try.ntmps8
  go_wp2
  go_loopw [3, 4] (fun o i wr => ∃ k : Nat, k ≤ xs.length ∧ i = .int .i64 k ∧ wr.ownsRow w.heap.size 9 1 o (notes (xs.take k)).length (Strs.strs (notes (xs.take k))) ∧ Below w.heap.size w wr) (fun _ i _ => xs.length - (intOf i).toNat)
  case atStart => exact ⟨0, by omega, rfl, own_empty _ _ _, (Below.refl _ _).alloc (Nat.le_refl _) _⟩
  case round =>
    obtain ⟨k, hk, rfl, hown, hbw⟩ := hrel
    have hs := hbw.size
    by_cases hlt : k < xs.length
    · obtain ⟨b, off, rfl, hb, hc⟩ := ha (by omega)
      obtain ⟨p0, p1, p2, p3⟩ := cells4 (fun j u hu => (cells_of hbw b _ hb).trans (hc j u hu)) hlt
      clear hc ha
      have hkl := notes_len xs k
      cases h5 : (xs[k].k == 5)
      · have hon := Lib.hid (notes_off hlt h5)
        replace hown := Lib.hid hown
        replace hbw := Lib.hid hbw
        go_wp2
        go_roundw
        case rel => exact ⟨k + 1, by omega, by go_num, by rw [hon.out]; exact hown.out, hbw.out⟩
        case measure => simp [intOf]; omega
      · have hon := Lib.hid (notes_on hlt h5)
        obtain ⟨v', w', hrun, hown', hb', -, -⟩ := append_new Strs.ES hown hbw [.string xs[k].t] 1 rfl (by simp [Value.oneCell']) (by simp only [maxLen]; omega) (by omega)
        rw [strs_snoc, ← List.length_singleton (a := xs[k].t), ← List.length_append, ← hon.out] at hown'
        replace hown' := Lib.hid hown'
        replace hb' := Lib.hid hb'
        clear hown hbw
        go_wp2_with (at_builtin; refine wpList_append_run rfl rfl hrun ?_)
        go_roundw
        case rel => exact ⟨k + 1, by omega, by go_num, hown'.out, hb'.out⟩
        case measure => simp [intOf]; omega
    · obtain rfl : k = xs.length := by omega
      rw [List.take_length] at hown
      replace hown := Lib.hid hown
      go_wp2
      go_ret
      exact ⟨_, rfl, hown.out, hbw⟩
end Go.Proofs.Ytfhigagbipkipaa.Notes
