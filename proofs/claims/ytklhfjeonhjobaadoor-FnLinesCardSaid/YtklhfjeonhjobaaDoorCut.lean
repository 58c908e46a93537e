/-
  A text cut at each byte of one kind, in plain Lean; strings.Split's own words tied to it.
  Conditions: none.
-/
import Derived.Lib.SplitLaws
import Derived.Lib.IndexMore
namespace Go.Proofs.YtklhfjeonhjobaaDoor.Cut
open Go.Lib
def cut (c : UInt8) : List UInt8 → List (List UInt8)
  | [] => [[]]
  | b :: l => if b = c then [] :: cut c l else match cut c l with
    | [] => [[b]]
    | h :: t => (b :: h) :: t
theorem cut_ne (c : UInt8) (l : List UInt8) : cut c l ≠ [] := by
  cases l with
  | nil => simp [cut]
  | cons b l =>
    unfold cut
    split
    · simp
    · split <;> simp
theorem cut_none (c : UInt8) : ∀ (l : List UInt8), (∀ x ∈ l, x ≠ c) → cut c l = [l]
  | [], _ => rfl
  | b :: l, h => by
    have hb : b ≠ c := h b (by simp)
    unfold cut
    rw [if_neg hb, cut_none c l (fun x hx => h x (by simp [hx]))]
theorem cut_at (c : UInt8) (q : List UInt8) : ∀ (p : List UInt8), (∀ x ∈ p, x ≠ c) → cut c (p ++ c :: q) = p :: cut c q
  | [], _ => by simp [cut]
  | b :: p, h => by
    have hb : b ≠ c := h b (by simp)
    rw [List.cons_append]
    conv => lhs; unfold cut
    rw [if_neg hb, cut_at c q p (fun x hx => h x (by simp [hx]))]
theorem pre_one (c b : UInt8) (l : List UInt8) : [c].isPrefixOf (b :: l) = (c == b) := by simp [List.isPrefixOf]
/-- the index of one byte -/
theorem index_cases (c : UInt8) : ∀ (l : List UInt8), (index l [c] = -1 ∧ ∀ x ∈ l, x ≠ c) ∨ ∃ n : Nat, index l [c] = n ∧ n < l.length ∧ l = l.take n ++ c :: l.drop (n + 1) ∧ ∀ x ∈ l.take n, x ≠ c
  | [] => .inl ⟨rfl, by simp⟩
  | b :: l => by
    by_cases hb : b = c
    · subst hb
      refine .inr ⟨0, ?_, by simp, by simp, by simp⟩
      unfold index
      rw [pre_one]; simp
    · have hcb : (c == b) = false := by simpa using fun e => hb e.symm
      rcases index_cases c l with ⟨h1, h2⟩ | ⟨n, h1, h2, h3, h4⟩
      · refine .inl ⟨?_, fun x hx => ?_⟩
        · unfold index
          rw [pre_one, hcb, h1]; rfl
        · rcases List.mem_cons.1 hx with rfl | hx
          · exact hb
          · exact h2 x hx
      · refine .inr ⟨n + 1, ?_, by simpa using h2, ?_, ?_⟩
        · unfold index
          rw [pre_one, hcb, h1]
          have : ((n : Int) == -1) = false := by rw [beq_eq_false_iff_ne]; omega
          simp [this]
        · rw [List.take_succ_cons, List.drop_succ_cons, List.cons_append, ← h3]
        · intro x hx
          rw [List.take_succ_cons] at hx
          rcases List.mem_cons.1 hx with rfl | hx
          · exact hb
          · exact h4 x hx
theorem splitK_cut (c : UInt8) : ∀ (f : Nat) (l : List UInt8), l.length ≤ f → splitK [c] 0 (count l [c]) l = cut c l
  | f, l, hf => by
    rcases index_cases c l with ⟨h1, h2⟩ | ⟨n, h1, h2, h3, h4⟩
    · rw [count_miss h1, cut_none c l h2]; rfl
    · have hc := count_hit (sub := [c]) (by simp) h1
      rw [hc, Nat.add_comm, splitK, if_neg (by rw [h1]; simp <;> omega), h1]
      simp only [Int.toNat_natCast, Nat.add_zero, List.length_singleton]
      match f, hf with
      | 0, hf => exact absurd h2 (by omega)
      | f + 1, hf =>
        rw [splitK_cut c f (l.drop (n + 1)) (by rw [List.length_drop]; omega)]
        conv => rhs; rw [h3]
        rw [cut_at c _ _ h4]
theorem toList_inj {a b : ByteArray} (h : a.data.toList = b.data.toList) : a = b := ByteArray.ext (Array.toList_inj.1 h)
theorem map_inj : ∀ {xs ys : List ByteArray}, xs.map (·.data.toList) = ys.map (·.data.toList) → xs = ys
  | [], [], _ => rfl
  | [], _ :: _, h => by simp at h
  | _ :: _, [], h => by simp at h
  | x :: xs, y :: ys, h => by
    simp only [List.map_cons, List.cons.injEq] at h
    rw [toList_inj h.1, map_inj h.2]
/-- the pieces -/
def pieces (c : UInt8) (s : ByteArray) : List ByteArray := splitB ⟨#[c]⟩ 0 (countB s ⟨#[c]⟩) s
theorem pieces_map (c : UInt8) (s : ByteArray) : (pieces c s).map (·.data.toList) = cut c s.data.toList := by
  unfold pieces
  rw [splitB_data]
  exact splitK_cut c _ _ (Nat.le_refl _)
theorem pieces_len (c : UInt8) (s : ByteArray) : (pieces c s).length = countB s ⟨#[c]⟩ + 1 := splitB_all _ (by show 1 ≤ 1; omega) 0 _ s rfl
theorem pieces_eq {c : UInt8} {s : ByteArray} {xs : List ByteArray} (h : xs.map (·.data.toList) = cut c s.data.toList) : pieces c s = xs := map_inj ((pieces_map c s).trans h.symm)
/-- one step of a loop that looks for the byte: what is cut so far, from b on none up to k -/
def At (c : UInt8) (s : ByteArray) (xs : List ByteArray) (b k : Nat) : Prop := xs.map (·.data.toList) ++ cut c (s.data.toList.drop b) = cut c s.data.toList ∧ b ≤ k ∧ ∀ x ∈ (s.data.toList.drop b).take (k - b), x ≠ c
theorem at_start (c : UInt8) (s : ByteArray) : At c s [] 0 0 := ⟨by simp, Nat.le_refl _, by simp⟩
theorem ext_list (s : ByteArray) (a b : Nat) : (s.extract a b).data.toList = (s.data.toList.drop a).take (b - a) := by
  rw [ByteArray.data_extract, Array.toList_extract, List.extract_eq_take_drop]
theorem at_hit {c : UInt8} {s : ByteArray} {xs : List ByteArray} {b k : Nat} (h : At c s xs b k) (hk : k < s.size) (hc : s[k] = c) : At c s (xs ++ [s.extract b k]) (k + 1) (k + 1) := by
  obtain ⟨h1, h2, h3⟩ := h
  refine ⟨?_, Nat.le_refl _, by simp⟩
  have hl : k < s.data.toList.length := by simpa using hk
  have hd : s.data.toList.drop b = (s.data.toList.drop b).take (k - b) ++ c :: s.data.toList.drop (k + 1) := by
    have e1 : (s.data.toList.drop b).drop (k - b) = s.data.toList.drop k := by rw [List.drop_drop]; congr 1; omega
    have e2 : s.data.toList.drop k = c :: s.data.toList.drop (k + 1) := by
      rw [List.drop_eq_getElem_cons hl]
      congr 1
    conv => lhs; rw [← List.take_append_drop (k - b) (s.data.toList.drop b), e1, e2]
  rw [hd, cut_at c _ _ h3] at h1
  rw [List.map_append, List.map_singleton, ext_list, List.append_assoc]
  exact h1
theorem at_miss {c : UInt8} {s : ByteArray} {xs : List ByteArray} {b k : Nat} (h : At c s xs b k) (hk : k < s.size) (hc : s[k] ≠ c) : At c s xs b (k + 1) := by
  obtain ⟨h1, h2, h3⟩ := h
  refine ⟨h1, by omega, ?_⟩
  have hl : k < s.data.toList.length := by simpa using hk
  have hlb : k - b < (s.data.toList.drop b).length := by rw [List.length_drop]; omega
  rw [show k + 1 - b = k - b + 1 by omega, List.take_succ_eq_append_getElem hlb]
  intro x hx
  rcases List.mem_append.1 hx with hx | hx
  · exact h3 x hx
  · have : x = s[k] := by
      rw [List.mem_singleton] at hx
      rw [hx, List.getElem_drop]
      show s.data.toList[b + (k - b)] = s.data.toList[k]
      congr 1; omega
    rw [this]; exact hc
theorem at_end {c : UInt8} {s : ByteArray} {xs : List ByteArray} {b : Nat} (h : At c s xs b s.size) : pieces c s = xs ++ [s.extract b s.size] := by
  obtain ⟨h1, h2, h3⟩ := h
  apply pieces_eq
  have hl : s.data.toList.length = s.size := by simp
  rw [List.take_of_length_le (by rw [List.length_drop]; omega)] at h3
  rw [cut_none c _ h3] at h1
  rw [List.map_append, List.map_singleton, ext_list, List.take_of_length_le (by rw [List.length_drop]; omega)]
  exact h1
end Go.Proofs.YtklhfjeonhjobaaDoor.Cut
