/-
  The contracts of impl.MarkOk and spec.MarkOk: each answers whether the text is one of the 21 marks.
  Conditions: none.
-/
import Derived.Test.YtklhfjeonhjobaaDoorStrs
import Derived.Test.YtklhfjeonhjobaaDoorShelf
import Derived.Lib.IndexAny
namespace Go.Proofs.YtklhfjeonhjobaaDoor.Mark
open Go.RowKit Go.Proofs.YtklhfjeonhjobaaDoor.Row Go.Proofs.YtklhfjeonhjobaaDoor.Mem Go.Proofs.YtklhfjeonhjobaaDoor.Mix Go.Proofs.YtklhfjeonhjobaaDoor.Strs
def two : List ByteArray := [⟨#[38, 38]⟩, ⟨#[124, 124]⟩, ⟨#[61, 61]⟩, ⟨#[61, 62]⟩, ⟨#[46, 46]⟩]
def ones : List UInt8 := [40, 41, 123, 125, 91, 93, 59, 44, 46, 61, 43, 45, 42, 60, 63, 58]
def marks : List ByteArray := two ++ ones.map fun c => ⟨#[c]⟩
def mk (s : ByteArray) : Bool := marks.any fun m => decide (m = s)
theorem mk_one (c : UInt8) : mk ⟨#[c]⟩ = ones.contains c := by
  have e : ∀ a : UInt8, decide ((⟨#[a]⟩ : ByteArray) = ⟨#[c]⟩) = (c == a) := fun a => by
    by_cases h : a = c
    · subst h; simp
    · rw [decide_eq_false (by simpa using h)]
      exact (beq_eq_false_iff_ne.2 (fun q => h q.symm)).symm
  have t : two.any (fun m => decide (m = ⟨#[c]⟩)) = false := by simp [two]
  unfold mk marks
  rw [List.any_append, t, Bool.false_or, List.any_map, List.contains_eq_any_beq]
  congr 1
  funext a
  exact e a
theorem mk_two (s : ByteArray) (h : s ∈ two) : mk s = true := by
  unfold mk marks
  rw [List.any_append, Bool.or_eq_true]
  exact .inl (List.any_eq_true.2 ⟨s, h, by simp⟩)
theorem mk_other (s : ByteArray) (h2 : ¬ s ∈ two) (h1 : s.size ≠ 1) : mk s = false := by
  unfold mk marks
  rw [List.any_eq_false]
  intro m hm
  rw [List.mem_append] at hm
  simp only [decide_eq_true_eq]
  rintro rfl
  rcases hm with h | h
  · exact h2 h
  · simp only [List.mem_map] at h
    obtain ⟨c, _, rfl⟩ := h
    exact h1 rfl
set_option maxHeartbeats 800000 in
theorem impl_any (s : ByteArray) (w : World) : Calls Tryd.prog 56 #[.string s] w fun e w' => e = .returned (.bool (mk s)) ∧ w = w' := by
  by_cases h2 : s ∈ two
  · rw [mk_two s h2]
    simp only [two, List.mem_cons, List.not_mem_nil, or_false] at h2
    rcases h2 with rfl | rfl | rfl | rfl | rfl
    all_goals
      skip
      go_enter Tryd.func56, Tryd.ntmps56
      go_wp2
      go_ret
      exact ⟨rfl, rfl⟩
  · have ne : ∀ m ∈ two, (s.toList == m.toList) = false := fun m hm => by
      rw [eq_bytes]
      exact decide_eq_false (fun e => h2 (by rw [e]; exact hm))
    have n1 : (s.toList == [38, 38]) = false := by simpa [ByteArray.toList_eq] using ne ⟨#[38, 38]⟩ (by simp [two])
    have n2 : (s.toList == [124, 124]) = false := by simpa [ByteArray.toList_eq] using ne ⟨#[124, 124]⟩ (by simp [two])
    have n3 : (s.toList == [61, 61]) = false := by simpa [ByteArray.toList_eq] using ne ⟨#[61, 61]⟩ (by simp [two])
    have n4 : (s.toList == [61, 62]) = false := by simpa [ByteArray.toList_eq] using ne ⟨#[61, 62]⟩ (by simp [two])
    have n5 : (s.toList == [46, 46]) = false := by simpa [ByteArray.toList_eq] using ne ⟨#[46, 46]⟩ (by simp [two])
    by_cases h1 : s.size = 1
    · obtain ⟨c, rfl⟩ : ∃ c, s = ⟨#[c]⟩ := by
        obtain ⟨⟨l⟩⟩ := s
        match l, h1 with
        | [c], _ => exact ⟨c, rfl⟩
      rw [mk_one, Lib.contains_iff_indexByte]
      clear ne h1 h2
      go_enter Tryd.func56, Tryd.ntmps56
      go_wp2_with fail
      refine (Tryd.strings_Contains_one _ c _).mono ?_
      rintro e w' ⟨rfl, rfl⟩
      go_wp2
      go_ret
      exact ⟨rfl, rfl⟩
    · rw [mk_other s h2 h1]
      have d1 : ((s.size : Int) == 1) = false := by simp; omega
      clear ne h1 h2
      go_enter Tryd.func56, Tryd.ntmps56
      go_wp2
      go_ret
      exact ⟨rfl, rfl⟩
set_option maxHeartbeats 800000 in
theorem marks_any (w : World) : Calls Tryd.prog 87 #[] w fun e w' => ∃ A, e = .returned (.slice A 21 21) ∧ Row w' (.slice A 21 21) 1 21 (strs marks) ∧ Below w.heap.size w w' := by
  go_enter Tryd.func87, Tryd.ntmps87
  go_wp2
  go_ret
  have ho : Own _ (.slice (some ⟨w.heap.size, 0, none⟩) 21 21) 9 1 w.heap.size 21 (strs marks) := ⟨rfl, rfl, by omega, heap_alloc_new w (.cells (strs marks).toArray 9)⟩
  exact ⟨_, rfl, ho.row, (Below.refl _ _).alloc (Nat.le_refl _) _⟩
set_option maxHeartbeats 800000 in
theorem spec_any (s : ByteArray) (w : World) : Calls Tryd.prog 57 #[.string s] w fun e w' => e = .returned (.bool (mk s)) ∧ Below w.heap.size w w' := by
  go_enter Tryd.func57, Tryd.ntmps57
  go_wp2_with fail
  refine (marks_any _).mono ?_
  rintro e w1 ⟨A, rfl, hr, hb⟩
  go_wp2
  go_loop [4] (fun i => ∃ k : Nat, k ≤ 21 ∧ i = .int .i64 k ∧ Hid ((marks.take k).any (fun m => decide (m = s)) = false)) (fun i => 21 - (intOf i).toNat)
  case atStart => exact ⟨0, by omega, rfl, Lib.hid (by simp)⟩
  case round =>
    obtain ⟨k, hk, rfl, hq⟩ := hrel
    by_cases hlt : k < 21
    · obtain ⟨A', c, hv, -, hn, hnc, hcm, ha⟩ := hr
      injection hv with hA _ hc0
      subst hA
      obtain ⟨b, off, rfl, hbl, hc⟩ := ha (by omega)
      have hlm : k < marks.length := hlt
      have c1 := hc k _ (at_str hlm)
      clear hc
      have i0 : (0 : Int) ≤ (k : Int) := by omega
      have i1 : (k : Int) < 21 := by omega
      by_cases h : marks[k] = s
      · have e1 : (marks[k].toList == s.toList) = true := by rw [eq_bytes, decide_eq_true h]
        have hyes := Lib.hid (show mk s = true by
          unfold mk
          exact List.any_eq_true.2 ⟨marks[k], List.getElem_mem hlm, by simpa using h⟩)
        clear h
        go_wp2
        go_ret
        exact ⟨by rw [hyes.out]; rfl, hb⟩
      · have e1 : (marks[k].toList == s.toList) = false := by rw [eq_bytes, decide_eq_false h]
        have hon := Lib.hid (show (marks.take (k + 1)).any (fun m => decide (m = s)) = false by
          rw [List.take_succ_eq_append_getElem hlm, List.any_append, hq.out]
          simpa using h)
        clear h
        go_wp2
        go_round
        case rel => exact ⟨k + 1, by omega, by go_num, hon⟩
        case measure => simp [intOf]; omega
    · obtain rfl : k = 21 := by omega
      have hno := Lib.hid (show mk s = false by
        have := hq.out
        rwa [List.take_of_length_le (by decide)] at this)
      go_wp2
      go_ret
      exact ⟨by rw [hno.out]; rfl, hb⟩
end Go.Proofs.YtklhfjeonhjobaaDoor.Mark
