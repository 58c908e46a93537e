/-
  Signs laid flat are read again: the plain law of FnSigns.
  Conditions: each sign's text is a good one of its kind.
-/
import Derived.Test.YtklhfjeonhjobaaDoorScan
import Derived.Test.YtklhfjeonhjobaaDoorFlat
namespace Go.Proofs.YtklhfjeonhjobaaDoor.Scan
open Go.RowKit
open Go.Proofs.YtklhfjeonhjobaaDoor.Sign (Sign flat tail flatText flat_step flatText_size)
open Go.Proofs.YtklhfjeonhjobaaDoor.Mark (mk two ones mk_one mk_two mk_other)

inductive Good : Int → ByteArray → Prop
  | name (s : ByteArray) (c : UInt8) (r : List UInt8) : s.data.toList = c :: r → isFst c = true → (∀ x ∈ c :: r, isInn x = true) → s.size ≤ 30 → Good 1 s
  | num (s : ByteArray) (c : UInt8) (r : List UInt8) : s.data.toList = c :: r → isFst c = false → (∀ x ∈ c :: r, isFig x = true) → s.size ≤ 12 → Good 2 s
  | quo (s : ByteArray) (m : List UInt8) : s.data.toList = 39 :: (m ++ [39]) → (∀ x ∈ m, (x != 39) = true ∧ isPl x = true) → Good 3 s
  | note (s : ByteArray) (r : List UInt8) : s.data.toList = 47 :: 47 :: r → (∀ x ∈ r, isPl x = true) → Trim.trimmed s = s → Good 5 s
  | mark2 (s : ByteArray) : s ∈ two → Good 4 s
  | mark1 (c : UInt8) : c ∈ ones → Good 4 ⟨#[c]⟩
theorem toList_inj {a b : ByteArray} (h : a.data.toList = b.data.toList) : a = b := ByteArray.ext (Array.toList_inj.1 h)
theorem ext_list (s : ByteArray) (a b : Nat) : (s.extract a b).data.toList = (s.data.toList.drop a).take (b - a) := by
  rw [ByteArray.data_extract, Array.toList_extract, List.extract_eq_take_drop]
/-- 's' stands at a, 'rest' behind it -/
def Here (t : ByteArray) (a : Nat) (s : ByteArray) (rest : List UInt8) : Prop := t.data.toList.drop a = s.data.toList ++ rest
theorem Here.ext {t : ByteArray} {a : Nat} {s : ByteArray} {rest : List UInt8} (h : Here t a s rest) : t.extract a (a + s.size) = s := by
  apply toList_inj
  rw [ext_list, h, Nat.add_sub_cancel_left, List.take_append_of_le_length (by rw [len_list]; exact Nat.le_refl _), List.take_of_length_le (by rw [len_list]; exact Nat.le_refl _)]
theorem Here.size {t : ByteArray} {a : Nat} {s : ByteArray} {rest : List UInt8} (h : Here t a s rest) (ha : a ≤ t.size) : t.size = a + s.size + rest.length := by
  have := congrArg List.length h
  rw [List.length_drop, List.length_append, len_list, len_list] at this
  omega
theorem Here.run {t : ByteArray} {a : Nat} {s : ByteArray} {rest : List UInt8} (h : Here t a s rest) {f : UInt8 → Bool} (hf : ∀ x ∈ s.data.toList, f x = true) (hr : rest = [] ∨ ∃ c r, rest = c :: r ∧ f c = false) : run f t a = s.size := by
  unfold Scan.run
  rw [h, takeWhile_split _ _ hf hr, len_list]
theorem Here.at_ {t : ByteArray} {a : Nat} {s : ByteArray} {rest : List UInt8} (h : Here t a s rest) {c : UInt8} {r : List UInt8} (hs : s.data.toList = c :: r) (ha : a < t.size) : t[a] = c := by
  have h1 : t.data.toList.drop a = c :: (r ++ rest) := by rw [h, hs]; rfl
  rw [List.drop_eq_getElem_cons (show a < t.data.toList.length by rw [len_list]; exact ha)] at h1
  injection h1
theorem blank_or {f : UInt8 → Bool} (h1 : f 32 = false) (h2 : f 10 = false) {rest : List UInt8} (h : rest = [] ∨ ∃ c r, rest = c :: r ∧ (c = 32 ∨ c = 10)) : rest = [] ∨ ∃ c r, rest = c :: r ∧ f c = false := by
  rcases h with h | ⟨c, r, h, rfl | rfl⟩
  · exact .inl h
  · exact .inr ⟨_, _, h, h1⟩
  · exact .inr ⟨_, _, h, h2⟩
theorem size_cons {s : ByteArray} {l : List UInt8} (h : s.data.toList = l) : s.size = l.length := by rw [← h, len_list]
theorem sign_here {t : ByteArray} {a : Nat} {k : Int} {s : ByteArray} {rest : List UInt8} (hg : Good k s) (h : Here t a s rest) (hr : rest = [] ∨ ∃ c r, rest = c :: r ∧ (c = 32 ∨ c = 10)) (h5 : k = 5 → rest = [] ∨ ∃ r, rest = 10 :: r) (ha : a < t.size) :
    signN t a t[a] = (k, s, s.size) ∧ 0 < s.size ∧ t[a] ≠ 32 ∧ t[a] ≠ 10 := by
  have hz := h.size (Nat.le_of_lt ha)
  have he := h.ext
  cases hg with
  | name _ c r hs hc hall hn =>
    have e := h.at_ hs ha
    have hrun := h.run (f := isInn) (by rw [hs]; exact hall) (blank_or (by decide) (by decide) hr)
    have hs0 := size_cons hs
    rw [e]
    refine ⟨?_, by rw [hs0]; simp, ?_, ?_⟩
    · unfold signN
      rw [if_pos hc, hrun, if_pos hn, he]
    · rintro rfl; exact absurd hc (by decide)
    · rintro rfl; exact absurd hc (by decide)
  | num _ c r hs hc hall hn =>
    have e := h.at_ hs ha
    have hfc : isFig c = true := hall c (by simp)
    have hrun := h.run (f := isFig) (by rw [hs]; exact hall) (blank_or (by decide) (by decide) hr)
    have hs0 := size_cons hs
    rw [e]
    refine ⟨?_, by rw [hs0]; simp, ?_, ?_⟩
    · unfold signN
      rw [if_neg (by rw [hc]; decide), if_pos hfc, hrun, if_pos hn, he]
    · rintro rfl; exact absurd hfc (by decide)
    · rintro rfl; exact absurd hfc (by decide)
  | quo _ m hs hall =>
    have e := h.at_ hs ha
    have hs0 := size_cons hs
    simp only [List.length_cons, List.length_append, List.length_nil] at hs0
    have hl := len_list t
    have hd : t.data.toList.drop (a + 1) = m ++ 39 :: rest := by
      have h1 : t.data.toList.drop a = 39 :: (m ++ [39]) ++ rest := by rw [h, hs]
      rw [← List.drop_drop, h1]
      simp
    have hrun : run (fun b => b != 39) t (a + 1) = m.length := by
      unfold Scan.run
      rw [hd, takeWhile_split _ _ (fun x hx => (hall x hx).1) (.inr ⟨_, _, rfl, by decide⟩)]
    have hq : quoN t a = s.size := by
      unfold quoN
      simp only [hrun]
      rw [if_pos]
      · omega
      · refine ⟨by omega, ?_⟩
        rw [show a + m.length + 2 = a + s.size by omega, he]
        unfold plain
        rw [List.all_eq_true, hs]
        intro x hx
        rcases List.mem_cons.1 hx with rfl | hx
        · decide
        · rcases List.mem_append.1 hx with hx | hx
          · exact (hall x hx).2
          · obtain rfl := List.mem_singleton.1 hx; decide
    rw [e]
    refine ⟨?_, by omega, by decide, by decide⟩
    unfold signN
    rw [if_neg (by decide), if_neg (by decide), if_pos rfl, hq, he]
  | note _ r hs hall ht =>
    have e := h.at_ hs ha
    have hs0 := size_cons hs
    simp only [List.length_cons] at hs0
    have hpl : ∀ x ∈ s.data.toList, isPl x = true := by
      rw [hs]
      intro x hx
      simp only [List.mem_cons] at hx
      rcases hx with rfl | rfl | hx
      · decide
      · decide
      · exact hall x hx
    have hrun := h.run (f := fun b => b != 10) (fun x hx => by
      have := hpl x hx
      rw [bne_iff_ne]
      rintro rfl
      exact absurd this (by decide)) (by
      rcases h5 rfl with h | ⟨q, h⟩
      · exact .inl h
      · exact .inr ⟨_, _, h, by decide⟩)
    have hn : noteN t a = s.size := by
      unfold noteN
      simp only [hrun]
      rw [if_pos]
      rw [he]
      unfold plain
      rw [List.all_eq_true]
      exact hpl
    have he2 : t.extract a (a + 2) = ⟨#[47, 47]⟩ := by
      apply toList_inj
      rw [ext_list, h, hs, Nat.add_sub_cancel_left]
      rfl
    rw [e]
    refine ⟨?_, by omega, by decide, by decide⟩
    unfold signN
    rw [if_neg (by decide), if_neg (by decide), if_neg (by decide), if_pos ⟨by omega, he2⟩, hn, he, ht]
  | mark2 _ hs =>
    have h2 : s.size = 2 := by
      simp only [two, List.mem_cons, List.not_mem_nil, or_false] at hs
      rcases hs with rfl | rfl | rfl | rfl | rfl <;> rfl
    have hm : markN t a = 2 := by
      unfold markN
      rw [if_pos]
      rw [h2] at he hz
      rw [he]
      exact ⟨by omega, mk_two s hs⟩
    obtain ⟨c, r, hc, q1, q2, q3, q4, q5, q6⟩ : ∃ c r, s.data.toList = c :: r ∧ isFst c = false ∧ isFig c = false ∧ c ≠ 39 ∧ c ≠ 32 ∧ c ≠ 10 ∧ c ≠ 47 := by
      simp only [two, List.mem_cons, List.not_mem_nil, or_false] at hs
      rcases hs with rfl | rfl | rfl | rfl | rfl <;> exact ⟨_, _, rfl, by decide, by decide, by decide, by decide, by decide, by decide⟩
    have e := h.at_ hc ha
    have hno : ¬ (a + 2 ≤ t.size ∧ t.extract a (a + 2) = ⟨#[47, 47]⟩) := by
      rintro ⟨-, h3⟩
      rw [h2] at he
      rw [he] at h3
      subst h3
      injection hc with hc
      exact q6 hc.symm
    rw [e]
    refine ⟨?_, by omega, q4, q5⟩
    unfold signN
    rw [if_neg (by rw [q1]; decide), if_neg (by rw [q2]; decide), if_neg q3, if_neg hno, hm]
    rw [h2] at he ⊢
    rw [he]
  | mark1 c hc =>
    have h1 : (⟨#[c]⟩ : ByteArray).size = 1 := rfl
    have e := h.at_ (c := c) (r := []) rfl ha
    rw [h1] at he hz
    have hnot : ∀ d, (d = 32 ∨ d = 10) → ¬ mk ⟨#[c, d]⟩ = true := by
      intro d hd hm
      have : (⟨#[c, d]⟩ : ByteArray) ∉ two := by
        intro h
        simp only [two, List.mem_cons, List.not_mem_nil, or_false, ByteArray.mk.injEq] at h
        rcases hd with rfl | rfl <;> simp at h
      rw [mk_other _ this (show (2 : Nat) ≠ 1 by decide)] at hm
      cases hm
    have hm : markN t a = 1 := by
      unfold markN
      rw [if_neg, if_pos]
      · rw [he, mk_one]
        exact List.elem_eq_true_of_mem hc
      · rintro ⟨h2, h3⟩
        rcases hr with rfl | ⟨d, r, rfl, hd⟩
        · simp at hz; omega
        · refine hnot d hd ?_
          rw [show (⟨#[c, d]⟩ : ByteArray) = t.extract a (a + 2) from ?_]
          · exact h3
          · apply toList_inj
            rw [ext_list, h, Nat.add_sub_cancel_left]
            rfl
    obtain ⟨q1, q2, q3, q4, q5, q6⟩ : isFst c = false ∧ isFig c = false ∧ c ≠ 39 ∧ c ≠ 32 ∧ c ≠ 10 ∧ c ≠ 47 := by
      simp only [ones, List.mem_cons, List.not_mem_nil, or_false] at hc
      rcases hc with rfl | rfl | rfl | rfl | rfl | rfl | rfl | rfl | rfl | rfl | rfl | rfl | rfl | rfl | rfl | rfl <;> decide
    have hno : ¬ (a + 2 ≤ t.size ∧ t.extract a (a + 2) = ⟨#[47, 47]⟩) := by
      rintro ⟨-, h3⟩
      have h4 := congrArg (fun s : ByteArray => s.data.toList) h3
      simp only at h4
      rw [ext_list, h, Nat.add_sub_cancel_left] at h4
      cases rest with
      | nil => simp at h4
      | cons d r =>
        simp at h4
        exact q6 h4.1
    rw [e]
    refine ⟨?_, by omega, q4, q5⟩
    unfold signN
    rw [if_neg (by rw [q1]; decide), if_neg (by rw [q2]; decide), if_neg q3, if_neg hno, hm, he, h1]
theorem flat_pre (xs : List Sign) {k : Nat} : ∀ d, ∃ r, flat xs (k + d) = flat xs k ++ r
  | 0 => ⟨[], by simp⟩
  | d + 1 => by
    obtain ⟨r, h⟩ := flat_pre xs (k := k) d
    rw [← Nat.add_assoc, flat, h]
    exact ⟨_, List.append_assoc _ _ _⟩
/-- the signs behind place k, as they are read -/
def Read (ys : List Sign) (xs : List Sign) (k : Nat) : Prop := ys.map (fun x => (x.k, x.t)) = (xs.take k).map (fun x => (x.k, x.t))
theorem scan_flat {xs : List Sign} (hg : ∀ x ∈ xs, Good x.k x.t) : ∀ (d k br : Nat) (ys : List Sign), k + d = xs.length → Read ys xs k →
    ∃ zs, scan (flatText xs xs.length) (flat xs k).length br ys = (zs, 0, true) ∧ Read zs xs xs.length
  | 0, k, br, ys, hk, hy => by
    obtain rfl : k = xs.length := by omega
    exact ⟨ys, scan_end (by rw [flatText_size]; omega), hy⟩
  | d + 1, k, br, ys, hk, hy => by
    have hlt : k < xs.length := by omega
    have hl : (flatText xs xs.length).data.toList = flat xs xs.length := by unfold flatText; simp
    obtain ⟨r, hr⟩ := flat_pre xs (k := k + 1) d
    rw [show k + 1 + d = xs.length by omega, flat_step hlt] at hr
    have hgk := hg _ (List.getElem_mem hlt)
    have hh : Here (flatText xs xs.length) (flat xs k).length xs[k].t (tail xs k xs[k] ++ r) := by
      unfold Here
      rw [hl, hr, List.append_assoc, List.drop_left, List.append_assoc]
    have hsz := flatText_size xs xs.length
    have hpos : 0 < xs[k].t.size := by
      have : ∀ {kk s}, Good kk s → 0 < s.size := by
        intro kk s h
        cases h with
        | name _ c r hs => rw [size_cons hs]; simp
        | num _ c r hs => rw [size_cons hs]; simp
        | quo _ m hs => rw [size_cons hs]; simp
        | note _ r hs => rw [size_cons hs]; simp
        | mark2 _ hs =>
          simp only [two, List.mem_cons, List.not_mem_nil, or_false] at hs
          rcases hs with rfl | rfl | rfl | rfl | rfl <;> decide
        | mark1 c => exact Nat.one_pos
      exact this hgk
    have hlen : (flat xs xs.length).length = (flat xs k).length + xs[k].t.size + (tail xs k xs[k]).length + r.length := by
      rw [hr]; simp; omega
    have ha : (flat xs k).length < (flatText xs xs.length).size := by omega
    -- what stands behind the sign
    have hlast : ¬ k + 1 < xs.length → r = [] := by
      intro h
      have e : xs.length = k + 1 := by omega
      rw [e, flat_step hlt] at hr
      exact List.append_right_eq_self.1 hr.symm
    have hrest : tail xs k xs[k] ++ r = [] ∨ ∃ c q, tail xs k xs[k] ++ r = c :: q ∧ (c = 32 ∨ c = 10) := by
      unfold tail
      by_cases h5 : xs[k].k = 5
      · rw [if_pos h5]; exact .inr ⟨_, _, rfl, .inr rfl⟩
      · rw [if_neg h5]
        by_cases h1 : k + 1 < xs.length
        · rw [if_pos h1]; exact .inr ⟨_, _, rfl, .inl rfl⟩
        · rw [if_neg h1, hlast h1]; exact .inl rfl
    have hrest5 : xs[k].k = 5 → tail xs k xs[k] ++ r = [] ∨ ∃ q, tail xs k xs[k] ++ r = 10 :: q := by
      intro h5
      unfold tail
      rw [if_pos h5]; exact .inr ⟨_, rfl⟩
    obtain ⟨g1, g2, g3, g4⟩ := sign_here hgk hh hrest hrest5 ha
    rw [scan_sign ha g3 g4 (by rw [g1]; exact Nat.ne_of_gt hpos), g1]
    have hy2 : Read (ys ++ [(⟨xs[k].k, xs[k].t, (flat xs k).length, decide (1 < br)⟩ : Sign)]) xs (k + 1) := by
      unfold Read at hy ⊢
      rw [List.map_append, hy, List.take_succ_eq_append_getElem hlt, List.map_append]
      rfl
    have hstep : (flat xs (k + 1)).length = (flat xs k).length + xs[k].t.size + (tail xs k xs[k]).length := by
      rw [flat_step hlt]; simp; omega
    -- the byte behind it
    by_cases h0 : tail xs k xs[k] = []
    · replace hstep : (flat xs (k + 1)).length = (flat xs k).length + xs[k].t.size := by rw [hstep, h0]; rfl
      dsimp only
      rw [← hstep]
      exact scan_flat hg d (k + 1) 0 _ (by omega) hy2
    · obtain ⟨c, hc, hcc⟩ : ∃ c, tail xs k xs[k] = [c] ∧ (c = 32 ∨ c = 10) := by
        unfold tail at h0 ⊢
        split
        · exact ⟨10, rfl, .inr rfl⟩
        · split
          · exact ⟨32, rfl, .inl rfl⟩
          · rename_i h1 h2; rw [if_neg h1, if_neg h2] at h0; exact absurd rfl h0
      rw [hc, List.length_singleton] at hstep
      have hb : (flat xs k).length + xs[k].t.size < (flatText xs xs.length).size := by rw [hc] at hlen; simp at hlen; omega
      have hcat : (flatText xs xs.length)[(flat xs k).length + xs[k].t.size] = c := by
        have h1 : (flatText xs xs.length).data.toList.drop ((flat xs k).length + xs[k].t.size) = c :: r := by
          rw [← List.drop_drop, hh, hc, ← len_list xs[k].t, List.drop_left]
          rfl
        rw [List.drop_eq_getElem_cons (by rw [len_list]; exact hb)] at h1
        injection h1
      dsimp only
      rcases hcc with rfl | rfl
      · rw [scan_blank hb hcat, ← hstep]
        exact scan_flat hg d (k + 1) 0 _ (by omega) hy2
      · rw [scan_line hb hcat, ← hstep]
        exact scan_flat hg d (k + 1) 1 _ (by omega) hy2
/-- each sign that is read stands where it says -/
def Stands (t : ByteArray) (x : Sign) : Prop := ∃ a : Nat, x.a = (a : Int) ∧ a + x.t.size ≤ t.size ∧ t.extract a (a + x.t.size) = x.t
theorem trimmed_pre (s : ByteArray) : ∃ n, n ≤ s.size ∧ Trim.trimmed s = s.extract 0 n := by
  have h : ∀ l : List UInt8, ∃ n, n ≤ l.length ∧ Lib.trimRightB l 32 = l.take n := by
    intro l
    unfold Lib.trimRightB
    obtain ⟨p, hp⟩ := List.dropWhile_suffix (fun b => b == 32) (l := l.reverse)
    generalize List.dropWhile (fun b => b == 32) l.reverse = d at hp ⊢
    have h1 := congrArg List.length hp
    have h2 := congrArg List.reverse hp
    rw [List.reverse_append, List.reverse_reverse] at h2
    refine ⟨d.length, by simp at h1; omega, ?_⟩
    rw [← h2, List.take_append_of_le_length (by simp), List.take_of_length_le (by simp)]
  obtain ⟨n, hn, h⟩ := h s.data.toList
  refine ⟨n, by rw [← len_list]; exact hn, ?_⟩
  apply toList_inj
  unfold Trim.trimmed
  rw [ext_list, List.drop_zero, Nat.sub_zero]
  simpa using h
theorem extract_in (t : ByteArray) {a n : Nat} (h : a + n ≤ t.size) : (t.extract a (a + n)).size = n := by
  rw [ByteArray.size_extract]; omega
theorem sign_stands {t : ByteArray} {a : Nat} (ha : a < t.size) : a + (signN t a t[a]).2.1.size ≤ t.size ∧ t.extract a (a + (signN t a t[a]).2.1.size) = (signN t a t[a]).2.1 := by
  have key : ∀ n, a + n ≤ t.size → a + (t.extract a (a + n)).size ≤ t.size ∧ t.extract a (a + (t.extract a (a + n)).size) = t.extract a (a + n) := by
    intro n hn
    rw [extract_in t hn]
    exact ⟨hn, rfl⟩
  have hempty : a + ByteArray.empty.size ≤ t.size ∧ t.extract a (a + ByteArray.empty.size) = ByteArray.empty := by
    refine ⟨by show a + 0 ≤ _; omega, ?_⟩
    apply toList_inj
    rw [ext_list]
    show List.take (a + 0 - a) _ = []
    simp
  have r1 := run_le isInn t a (by omega)
  have r2 := run_le isFig t a (by omega)
  have r3 := run_le (fun b => b != 10) t a (by omega)
  unfold signN
  split
  · split
    · exact key _ r1
    · exact hempty
  · split
    · split
      · exact key _ r2
      · exact hempty
    · split
      · refine key _ ?_
        unfold quoN
        simp only
        split
        · rename_i h; omega
        · omega
      · split
        · have hn : a + noteN t a ≤ t.size := by
            unfold noteN
            simp only
            split <;> omega
          obtain ⟨n, h1, h2⟩ := trimmed_pre (t.extract a (a + noteN t a))
          rw [extract_in t hn] at h1
          have h3 : (t.extract a (a + noteN t a)).extract 0 n = t.extract a (a + n) := by
            apply toList_inj
            rw [ext_list, ext_list, ext_list, List.drop_zero, List.take_take]
            congr 1
            omega
          simp only
          rw [h2, h3]
          exact key n (by omega)
        · refine key _ ?_
          unfold markN
          split
          · rename_i h; omega
          · split <;> omega
theorem scan_stands (t : ByteArray) (a br : Nat) (xs : List Sign) (h : ∀ x ∈ xs, Stands t x) : ∀ x ∈ (scan t a br xs).1, Stands t x := by
  induction a, br, xs using scan.induct t with
  | case1 a br xs ha hc ih => rw [scan_blank ha hc]; exact ih h
  | case2 a br xs ha hc hc2 ih => rw [scan_line ha hc2]; exact ih h
  | case3 a br xs ha hc hc2 h0 => rw [scan_none ha hc hc2 h0]; simp
  | case4 a br xs ha hc hc2 h0 ih =>
    rw [scan_sign ha hc hc2 h0]
    refine ih (fun x hx => ?_)
    rcases List.mem_append.1 hx with hx | hx
    · exact h x hx
    · obtain rfl := List.mem_singleton.1 hx
      obtain ⟨s1, s2⟩ := sign_stands ha
      exact ⟨a, rfl, s1, s2⟩
  | case5 a br xs ha => rw [scan_end ha]; exact h
end Go.Proofs.YtklhfjeonhjobaaDoor.Scan
