/-
  Lines joined again, and the place in a line: the plain law of FnLines.
  Conditions: none.
-/
import Derived.Test.YtklhfjeonhjobaaDoorWidest
import Derived.Test.YtklhfjeonhjobaaDoorJoin
import Derived.Test.YtklhfjeonhjobaaDoorPlace
import Derived.Test.YtklhfjeonhjobaaDoorTrim
namespace Go.Proofs.YtklhfjeonhjobaaDoor.LinesBack
open Go.Proofs.YtklhfjeonhjobaaDoor.Lines Go.Proofs.YtklhfjeonhjobaaDoor.Cut Go.Proofs.YtklhfjeonhjobaaDoor.Join Go.Proofs.YtklhfjeonhjobaaDoor.Strs Go.Proofs.YtklhfjeonhjobaaDoor.Place Go.Proofs.YtklhfjeonhjobaaDoor.Trim
def joinL (xs : List (List UInt8)) : List UInt8 := xs.flatMap fun s => s ++ [10]
theorem join_map (xs : List ByteArray) : join xs = joinL (xs.map (·.data.toList)) := by
  unfold join joinL
  rw [List.flatMap_map]
theorem join_cut : ∀ l : List UInt8, joinL (cut 10 l) = l ++ [10]
  | [] => rfl
  | b :: l => by
    have ih := join_cut l
    unfold cut
    by_cases hb : b = 10
    · rw [if_pos hb]
      show ([] ++ [10]) ++ joinL (cut 10 l) = _
      rw [ih, hb]; rfl
    · rw [if_neg hb]
      have hne := cut_ne 10 l
      cases hc : cut 10 l with
      | nil => exact absurd hc hne
      | cons h t =>
        rw [hc] at ih
        show (b :: h ++ [10]) ++ joinL t = _
        have : (h ++ [10]) ++ joinL t = l ++ [10] := ih
        rw [List.cons_append, List.cons_append, this]; rfl
theorem cut_snoc : ∀ l : List UInt8, cut 10 (l ++ [10]) = cut 10 l ++ [[]]
  | [] => rfl
  | b :: l => by
    have ih := cut_snoc l
    rw [List.cons_append]
    by_cases hb : b = 10
    · have e1 : cut 10 (b :: (l ++ [10])) = [] :: cut 10 (l ++ [10]) := by conv => lhs; unfold cut; rw [if_pos hb]
      have e2 : cut 10 (b :: l) = [] :: cut 10 l := by conv => lhs; unfold cut; rw [if_pos hb]
      rw [e1, e2, ih]; rfl
    · cases hc : cut 10 l with
      | nil => exact absurd hc (cut_ne 10 l)
      | cons h t =>
        have e1 : cut 10 (b :: (l ++ [10])) = (b :: h) :: (t ++ [[]]) := by
          conv => lhs; unfold cut
          rw [if_neg hb, ih, hc]; rfl
        have e2 : cut 10 (b :: l) = (b :: h) :: t := by
          conv => lhs; unfold cut
          rw [if_neg hb, hc]
        rw [e1, e2]; rfl
theorem byte_eq {a b : ByteArray} (h : a.data.toList = b.data.toList) : a = b := ByteArray.ext (Array.toList_inj.1 h)
theorem joined_list (xs : List ByteArray) : (joined xs).data.toList = joinL (xs.map (·.data.toList)) := by
  rw [← join_map]; unfold joined; simp
def nl : ByteArray := ⟨#[10]⟩
/-- the lines joined are the text, or the text and one byte 10 more; they are cut alike -/
theorem back (t : ByteArray) : (joined (lines t) = t ∨ joined (lines t) = t ++ nl) ∧ lines (joined (lines t)) = lines t := by
  obtain ⟨xs, x, hp, hl⟩ := pieces_split t
  have hm := pieces_map 10 t
  rw [hp] at hm
  by_cases hx : x.size = 0
  · have e := lines_drop hp hx
    have hx0 : x.data.toList = [] := by
      apply List.eq_nil_of_length_eq_zero
      simpa using hx
    have hj : joinL (xs.map (·.data.toList)) = t.data.toList := by
      have h2 := join_cut t.data.toList
      rw [← hm] at h2
      simp only [List.map_append, List.map_cons, List.map_nil, hx0] at h2
      unfold joinL at h2 ⊢
      rw [List.flatMap_append] at h2
      simpa using h2
    have hs : joined (lines t) = t := by rw [e]; exact byte_eq (by rw [joined_list]; exact hj)
    exact ⟨.inl hs, by rw [hs]⟩
  · have e := lines_keep hp hx
    have hs : joined (lines t) = t ++ nl := by
      rw [e]
      apply byte_eq
      rw [joined_list, hm, join_cut]
      simp [nl]
    refine ⟨.inr hs, ?_⟩
    rw [hs, e]
    have hp2 : pieces 10 (t ++ nl) = (xs ++ [x]) ++ [⟨#[]⟩] := by
      apply pieces_eq
      have hd : (t ++ nl).data.toList = t.data.toList ++ [10] := by simp [nl]
      rw [hd, cut_snoc, ← hm]
      simp
    exact lines_drop hp2 rfl
/-- where the line of a place begins -/
theorem begins (t : ByteArray) : ∀ k, k ≤ t.size → ∃ xs b, At 10 t xs b k ∧ xs.length = (t.data.toList.take k).count 10 ∧ tot xs + xs.length = b ∧ (b : Int) = Lib.lastIdx t 10 k + 1
  | 0, _ => ⟨[], 0, at_start 10 t, by simp, rfl, by simp [Lib.lastIdx]⟩
  | k + 1, hk => by
    obtain ⟨xs, b, h1, h2, h3, h4⟩ := begins t k (by omega)
    have hbk := h1.2.1
    have hlt : k < t.size := by omega
    by_cases hc : t[k] = 10
    · refine ⟨xs ++ [t.extract b k], k + 1, at_hit h1 hlt hc, ?_, ?_, ?_⟩
      · rw [take_snoc hlt, List.count_append, hc, List.length_append, h2]; simp
      · have hz : (t.extract b k).size = k - b := by simp; omega
        rw [tot_snoc, List.length_append, hz]; simp; omega
      · rw [Lib.lastIdx_hit t 10 k (by rw [at_data hlt, hc]; rfl)]; omega
    · refine ⟨xs, b, at_miss h1 hlt hc, ?_, h3, ?_⟩
      · rw [take_snoc hlt, List.count_append, h2]; simp [List.count_singleton, hc]
      · rw [Lib.lastIdx_miss t 10 k (by rw [at_data hlt]; intro e; exact hc (UInt8.toNat_inj.1 (by show t[k].toNat = 10; omega)))]; exact h4
theorem take_map {xs ys : List ByteArray} {n : Nat} (h : (xs.map (·.data.toList)).take n = ys.map (·.data.toList)) : xs.take n = ys := map_inj (by rw [List.map_take]; exact h)
theorem place_in (t : ByteArray) (a : Nat) (ha : a ≤ t.size) : ∃ c : Nat, line t a = (c : Int) + 1 ∧ c ≤ (lines t).length ∧ ((tot ((lines t).take c) + c : Nat) : Int) + col t a - 1 = a := by
  obtain ⟨xs, b, h1, h2, h3, h4⟩ := begins t a ha
  refine ⟨xs.length, by unfold line; rw [h2]; omega, ?_⟩
  have hm := pieces_map 10 t
  rw [← h1.1] at hm
  have hne := cut_ne 10 (t.data.toList.drop b)
  have hlen := congrArg List.length hm
  simp only [List.length_map, List.length_append] at hlen
  have hc1 : 1 ≤ (cut 10 (t.data.toList.drop b)).length := by
    cases hh : cut 10 (t.data.toList.drop b) with
    | nil => exact absurd hh hne
    | cons _ _ => simp
  have htk : (pieces 10 t).take xs.length = xs := take_map (by rw [hm]; simp)
  have hll : xs.length ≤ (lines t).length ∧ (lines t).take xs.length = xs := by
    unfold lines
    split
    · rw [List.length_dropLast, List.dropLast_eq_take, List.take_take, Nat.min_eq_left (by omega)]
      exact ⟨by omega, htk⟩
    · exact ⟨by omega, htk⟩
  refine ⟨hll.1, ?_⟩
  rw [hll.2, h3]
  unfold col
  omega
theorem trimmed_more (y : ByteArray) : Trim.trimmed (y ++ (⟨#[32, 32]⟩ : ByteArray)) = Trim.trimmed y := by
  unfold Trim.trimmed
  congr 2
  have : (y ++ (⟨#[32, 32]⟩ : ByteArray)).data.toList = y.data.toList ++ [32, 32] := by simp
  rw [this]
  unfold Lib.trimRightB
  simp
theorem tot_joined (xs : List ByteArray) : (joined xs).size = tot xs + xs.length := by
  show (join xs).toArray.size = _
  rw [List.size_toArray, join_len]
theorem tot_on {xs : List ByteArray} {k : Nat} (h : k < xs.length) : tot (xs.take (k + 1)) = tot (xs.take k) + xs[k].size := by
  rw [List.take_succ_eq_append_getElem h, tot_snoc]
/-- the lines' sizes together -/
theorem tot_lines (t : ByteArray) : tot (lines t) + (lines t).length ≤ t.size + 1 := by
  have h := (back t).1
  rw [← tot_joined]
  rcases h with h | h <;> rw [h]
  · omega
  · rw [ByteArray.size_append]; exact Nat.le_refl _
end Go.Proofs.YtklhfjeonhjobaaDoor.LinesBack
