/-
  The contracts of spec.l04Note, l04Quoted and l04Mark.
  Conditions: a place in a text of 2^20 bytes at most.
-/
import Derived.Test.YtklhfjeonhjobaaDoorLex3
namespace Go.Proofs.YtklhfjeonhjobaaDoor.Scan
open Go.RowKit Go.Proofs.YtklhfjeonhjobaaDoor.Row Go.Proofs.YtklhfjeonhjobaaDoor.Mem Go.Proofs.YtklhfjeonhjobaaDoor.Mix
open Go.Proofs.YtklhfjeonhjobaaDoor.Mark (mk marks two ones)
theorem plain_ext {t : ByteArray} {a b : Nat} (hb : b ≤ t.size) : plain (t.extract a b) = true ↔ ∀ i, a ≤ i → i < b → ∀ h : i < t.size, isPl t[i] = true := by
  have hl := len_list t
  unfold plain
  rw [List.all_eq_true, extL]
  constructor
  · intro h i h1 h2 h3
    refine h t[i] ?_
    rw [List.mem_iff_getElem]
    refine ⟨i - a, by rw [List.length_take, List.length_drop]; omega, ?_⟩
    rw [List.getElem_take, List.getElem_drop]
    show t.data.toList[a + (i - a)]'(by omega) = t.data.toList[i]'(by omega)
    congr 1
    omega
  · intro h x hx
    obtain ⟨i, hi, rfl⟩ := List.mem_iff_getElem.1 hx
    rw [List.length_take, List.length_drop] at hi
    rw [List.getElem_take, List.getElem_drop]
    exact h (a + i) (by omega) (by omega) (by omega)
theorem run_ge {f : UInt8 → Bool} {t : ByteArray} {a k : Nat} (hk : k < t.size) (h : ∀ i, a ≤ i → i ≤ k → ∀ h : i < t.size, f t[i] = true) : k + 1 - a ≤ run f t a := by
  have hl := len_list t
  by_cases hak : a ≤ k
  · unfold run
    have hs : t.data.toList.drop a = (t.data.toList.drop a).take (k + 1 - a) ++ (t.data.toList.drop a).drop (k + 1 - a) := (List.take_append_drop _ _).symm
    rw [hs, List.takeWhile_append_of_pos, List.length_append, List.length_take, List.length_drop]
    · omega
    · intro x hx
      obtain ⟨i, hi, rfl⟩ := List.mem_iff_getElem.1 hx
      rw [List.length_take, List.length_drop] at hi
      rw [List.getElem_take, List.getElem_drop]
      exact h (a + i) (by omega) (by omega) (by omega)
  · omega
theorem note_bad {t : ByteArray} {a k : Nat} (ha : a ≤ k) (hk : k < t.size) (h : ∀ i, a ≤ i → i ≤ k → ∀ h : i < t.size, notEnd t[i] = true) (hp : isPl t[k] = false) : noteN t a = 0 := by
  unfold noteN
  simp only
  rw [if_neg]
  intro h1
  have h2 := run_ge hk h
  have h3 := run_le notEnd t a (by omega)
  have h4 := (plain_ext h3).1 h1 k ha (by omega) hk
  rw [hp] at h4
  cases h4
theorem note_good {t : ByteArray} {a k : Nat} (ha : a ≤ k) (hk : k ≤ t.size) (h : ∀ i, a ≤ i → i < k → ∀ h : i < t.size, notEnd t[i] = true ∧ isPl t[i] = true) (he : ∀ h : k < t.size, notEnd t[k] = false) : noteN t a = k - a := by
  have hr := run_end (f := notEnd) ha hk (fun i h1 h2 h3 => (h i h1 h2 h3).1) he
  unfold noteN
  simp only
  rw [show (fun b : UInt8 => b != 10) = notEnd from rfl, hr, if_pos]
  rw [show a + (k - a) = k by omega]
  exact (plain_ext hk).2 fun i h1 h2 h3 => (h i h1 h2 h3).2
def slashes (t : ByteArray) (a : Nat) : Prop := a + 2 ≤ t.size ∧ t.extract a (a + 2) = ⟨#[47, 47]⟩
instance (t : ByteArray) (a : Nat) : Decidable (slashes t a) := by unfold slashes; infer_instance
def noteAt (t : ByteArray) (a : Nat) : Nat := if slashes t a then noteN t a else 0
set_option maxHeartbeats 1600000 in
theorem note_s (t : ByteArray) (a : Nat) (ha : a < t.size) (hs : t.size ≤ 1048576) (w : World) : Calls Tryd.prog 101 #[.string t, .int .i64 a] w fun e w' => e = .returned (.int .i64 (noteAt t a)) ∧ w = w' := by
  have a0 : (0 : Int) ≤ (a : Int) := by omega
  by_cases h2 : a + 2 ≤ t.size
  · have d2 : decide ((t.size : Int) < (a : Int) + 2) = false := by simp; omega
    by_cases he : t.extract a (a + 2) = ⟨#[47, 47]⟩
    · have e1 : ((t.extract a (a + 2)).toList == [47, 47]) = true := by rw [he]; simp [ByteArray.toList_eq]
      have hv := Lib.hid (show noteAt t a = noteN t a by unfold noteAt; rw [if_pos ⟨h2, he⟩])
      replace he := Lib.hid he
      go_enter Tryd.func101, Tryd.ntmps101
      go_wp2
      go_loop [5] (fun n => ∃ k : Nat, a ≤ k ∧ k ≤ t.size ∧ n = .int .i64 k ∧ Hid (∀ i, a ≤ i → i < k → ∀ h : i < t.size, notEnd t[i] = true ∧ isPl t[i] = true)) (fun n => t.size - (intOf n).toNat)
      case atStart => exact ⟨a, Nat.le_refl _, by omega, rfl, Lib.hid (fun i h1 h2 => by omega)⟩
      case round =>
        obtain ⟨k, hak, hk, rfl, hr⟩ := hrel
        by_cases hlt : k < t.size
        · have i0 : (0 : Int) ≤ (k : Int) := by omega
          have i1 : (k : Int) < (t.size : Int) := by omega
          cases hE : notEnd t[k]
          · have e10 : ((t[k].toNat : Int) != 10) = false := by rw [← notEnd_eq]; exact hE
            have hfin := Lib.hid (note_good hak hk hr.out (fun _ => hE))
            replace hE := Lib.hid hE
            go_wp2
            go_ret
            exact ⟨by rw [hv.out, hfin.out]; show Ending.returned (Value.int .i64 _) = _; congr 2; omega, rfl⟩
          · have e10 : ((t[k].toNat : Int) != 10) = true := by rw [← notEnd_eq]; exact hE
            have hpl := pl_s t[k]
            cases hP : isPl t[k]
            · have hbad := Lib.hid (note_bad hak hlt (fun i h1 h2 h3 => by
                by_cases e : i = k
                · subst e; exact hE
                · exact (hr.out i h1 (by omega) h3).1) hP)
              rw [hP] at hpl
              replace hpl := Lib.hid hpl
              replace hP := Lib.hid hP
              replace hE := Lib.hid hE
              go_wp2_with (go_at_call 122; refine (hpl.out _).mono ?_; rintro e w1 ⟨rfl, rfl⟩)
              go_ret
              exact ⟨by rw [hv.out, hbad.out]; rfl, rfl⟩
            · have hon := Lib.hid (show ∀ i, a ≤ i → i < k + 1 → ∀ h : i < t.size, notEnd t[i] = true ∧ isPl t[i] = true from fun i h1 h2 h3 => by
                by_cases e : i = k
                · subst e; exact ⟨hE, hP⟩
                · exact hr.out i h1 (by omega) h3)
              rw [hP] at hpl
              replace hpl := Lib.hid hpl
              replace hP := Lib.hid hP
              replace hE := Lib.hid hE
              go_wp2_with (go_at_call 122; refine (hpl.out _).mono ?_; rintro e w1 ⟨rfl, rfl⟩)
              exact ⟨⟨k + 1, by omega, by omega, by go_num, hon⟩, by simp [intOf]; omega⟩
        · have hke : k = t.size := by omega
          subst hke
          have hfin := Lib.hid (note_good hak hk hr.out (fun h => absurd h hlt))
          go_wp2
          go_ret
          exact ⟨by rw [hv.out, hfin.out]; show Ending.returned (Value.int .i64 _) = _; congr 2; omega, rfl⟩
    · have e1 : ((t.extract a (a + 2)).toList == [47, 47]) = false := by
        rw [beq_eq_false_iff_ne]
        intro h
        apply he
        apply toL
        rw [← ByteArray.toList_eq, h]
      have hv := Lib.hid (show noteAt t a = 0 by unfold noteAt; rw [if_neg (fun h => he h.2)])
      replace he := Lib.hid he
      go_enter Tryd.func101, Tryd.ntmps101
      go_wp2
      go_ret
      exact ⟨by rw [hv.out]; rfl, rfl⟩
  · have d2 : decide ((t.size : Int) < (a : Int) + 2) = true := by simp; omega
    have hv := Lib.hid (show noteAt t a = 0 by unfold noteAt; rw [if_neg (fun h => h2 h.1)])
    go_enter Tryd.func101, Tryd.ntmps101
    go_wp2
    go_ret
    exact ⟨by rw [hv.out]; rfl, rfl⟩
theorem quo_hit {t : ByteArray} {a k : Nat} (hak : a + 1 ≤ k) (hk : k < t.size) (h : ∀ i, a + 1 ≤ i → i < k → ∀ h : i < t.size, (t[i] != 39) = true ∧ isPl t[i] = true) (he : t[k] = 39) (ha : t[a]'(by omega) = 39) : quoN t a = k + 1 - a := by
  have hr := run_end (f := fun b => b != 39) hak (Nat.le_of_lt hk) (fun i h1 h2 h3 => (h i h1 h2 h3).1) (fun _ => by rw [he]; rfl)
  unfold quoN
  simp only
  rw [hr, if_pos]
  · omega
  · refine ⟨by omega, ?_⟩
    rw [show a + (k - (a + 1)) + 2 = k + 1 by omega]
    refine (plain_ext (by omega)).2 fun i h1 h2 h3 => ?_
    by_cases e : i = a
    · subst e; rw [ha]; decide
    · by_cases e2 : i = k
      · subst e2; rw [he]; decide
      · exact (h i (by omega) (by omega) h3).2
theorem quo_bad {t : ByteArray} {a k : Nat} (hak : a + 1 ≤ k) (hk : k < t.size) (h : ∀ i, a + 1 ≤ i → i ≤ k → ∀ h : i < t.size, (t[i] != 39) = true) (hp : isPl t[k] = false) : quoN t a = 0 := by
  unfold quoN
  simp only
  rw [if_neg]
  rintro ⟨h0, h1⟩
  have h2 := run_ge (f := fun b => b != 39) (a := a + 1) hk h
  have h4 := (plain_ext (by omega)).1 h1 k (by omega) (by omega) hk
  rw [hp] at h4
  cases h4
theorem quo_end {t : ByteArray} {a : Nat} (ha : a + 1 ≤ t.size) (h : ∀ i, a + 1 ≤ i → i < t.size → ∀ h : i < t.size, (t[i] != 39) = true ∧ isPl t[i] = true) : quoN t a = 0 := by
  have hr := run_end (f := fun b => b != 39) ha (Nat.le_refl _) (fun i h1 h2 h3 => (h i h1 h2 h3).1) (fun h => absurd h (Nat.lt_irrefl _))
  unfold quoN
  simp only
  rw [hr, if_neg]
  rintro ⟨h0, -⟩
  omega
set_option maxHeartbeats 1600000 in
theorem quo_s (t : ByteArray) (a : Nat) (ha : a < t.size) (hs : t.size ≤ 1048576) (h39 : t[a] = 39) (w : World) : Calls Tryd.prog 104 #[.string t, .int .i64 a] w fun e w' => e = .returned (.int .i64 (quoN t a)) ∧ w = w' := by
  have a0 : (0 : Int) ≤ (a : Int) := by omega
  replace h39 := Lib.hid h39
  go_enter Tryd.func104, Tryd.ntmps104
  go_wp2
  go_loop [5] (fun n => ∃ k : Nat, a + 1 ≤ k ∧ k ≤ t.size ∧ n = .int .i64 k ∧ Hid (∀ i, a + 1 ≤ i → i < k → ∀ h : i < t.size, (t[i] != 39) = true ∧ isPl t[i] = true)) (fun n => t.size - (intOf n).toNat)
  case atStart => exact ⟨a + 1, Nat.le_refl _, by omega, by go_num, Lib.hid (fun i h1 h2 => by omega)⟩
  case round =>
    obtain ⟨k, hak, hk, rfl, hr⟩ := hrel
    by_cases hlt : k < t.size
    · have i0 : (0 : Int) ≤ (k : Int) := by omega
      have i1 : (k : Int) < (t.size : Int) := by omega
      by_cases hE : t[k] = 39
      · have e39 : ((t[k].toNat : Int) == 39) = true := by rw [hE]; rfl
        have hfin := Lib.hid (quo_hit hak hlt hr.out hE h39.out)
        replace hE := Lib.hid hE
        go_wp2
        go_ret
        exact ⟨by rw [hfin.out]; show Ending.returned (Value.int .i64 _) = _; congr 2; omega, rfl⟩
      · have e39 : ((t[k].toNat : Int) == 39) = false := beq_eq_false_iff_ne.2 (fun e => hE (UInt8.toNat_inj.1 (show t[k].toNat = 39 by omega)))
        have hE2 : (t[k] != 39) = true := by rw [bne_iff_ne]; exact hE
        have hpl := pl_s t[k]
        cases hP : isPl t[k]
        · have hbad := Lib.hid (quo_bad hak hlt (fun i h1 h2 h3 => by
            by_cases e : i = k
            · subst e; exact hE2
            · exact (hr.out i h1 (by omega) h3).1) hP)
          rw [hP] at hpl
          replace hpl := Lib.hid hpl
          replace hP := Lib.hid hP
          replace hE := Lib.hid hE
          replace hE2 := Lib.hid hE2
          go_wp2_with (go_at_call 122; refine (hpl.out _).mono ?_; rintro e w1 ⟨rfl, rfl⟩)
          go_ret
          exact ⟨by rw [hbad.out]; rfl, rfl⟩
        · have hon := Lib.hid (show ∀ i, a + 1 ≤ i → i < k + 1 → ∀ h : i < t.size, (t[i] != 39) = true ∧ isPl t[i] = true from fun i h1 h2 h3 => by
            by_cases e : i = k
            · subst e; exact ⟨hE2, hP⟩
            · exact hr.out i h1 (by omega) h3)
          rw [hP] at hpl
          replace hpl := Lib.hid hpl
          replace hP := Lib.hid hP
          replace hE := Lib.hid hE
          replace hE2 := Lib.hid hE2
          go_wp2_with (go_at_call 122; refine (hpl.out _).mono ?_; rintro e w1 ⟨rfl, rfl⟩)
          exact ⟨⟨k + 1, by omega, by omega, by go_num, hon⟩, by simp [intOf]; omega⟩
    · have hke : k = t.size := by omega
      subst hke
      have hfin := Lib.hid (quo_end (by omega) hr.out)
      go_wp2
      go_ret
      exact ⟨by rw [hfin.out]; rfl, rfl⟩
/-- mark j stands at a -/
def M (t : ByteArray) (a : Nat) (m : ByteArray) : Prop := a + m.size ≤ t.size ∧ t.extract a (a + m.size) = m
theorem marks_len : marks.length = 21 := rfl
theorem marks_size : ∀ j : Fin 21, (marks[j.val]'(by rw [marks_len]; exact j.2)).size = if j.val < 5 then 2 else 1 := by decide
theorem marks_first : ∀ j : Fin 21, (marks[j.val]'(by rw [marks_len]; exact j.2)).data.toList[0]? ≠ some 47 := by decide
theorem mk_iff (s : ByteArray) : mk s = true ↔ ∃ j : Nat, ∃ h : j < 21, marks[j]'(by rw [marks_len]; exact h) = s := by
  unfold mk
  rw [List.any_eq_true]
  constructor
  · rintro ⟨m, hm, e⟩
    obtain ⟨j, hj, rfl⟩ := List.mem_iff_getElem.1 hm
    exact ⟨j, by rw [marks_len] at hj; exact hj, by simpa using e⟩
  · rintro ⟨j, hj, rfl⟩
    exact ⟨marks[j]'(by rw [marks_len]; exact hj), List.getElem_mem _, by simp⟩
theorem mark_hit {t : ByteArray} {a k : Nat} (ha : a < t.size) (hk : k < 21) (hm : M t a (marks[k]'(by rw [marks_len]; exact hk))) (hno : ∀ j, (h : j < k) → ¬ M t a (marks[j]'(by rw [marks_len]; omega))) :
    t.extract a (a + markN t a) = marks[k]'(by rw [marks_len]; exact hk) := by
  have hz := marks_size ⟨k, hk⟩
  simp only at hz
  obtain ⟨h1, h2⟩ := hm
  by_cases h5 : k < 5
  · rw [if_pos h5] at hz
    rw [hz] at h1 h2
    have hN : markN t a = 2 := by
      unfold markN
      rw [if_pos ⟨h1, (mk_iff _).2 ⟨k, hk, h2.symm⟩⟩]
    rw [hN, h2]
  · rw [if_neg h5] at hz
    rw [hz] at h1 h2
    have hN : markN t a = 1 := by
      unfold markN
      rw [if_neg, if_pos ((mk_iff _).2 ⟨k, hk, h2.symm⟩)]
      rintro ⟨h3, h4⟩
      obtain ⟨j, hj, e⟩ := (mk_iff _).1 h4
      have hzj := marks_size ⟨j, hj⟩
      simp only at hzj
      have he : (t.extract a (a + 2)).size = 2 := by rw [ByteArray.size_extract]; omega
      by_cases hj5 : j < 5
      · rw [if_pos hj5] at hzj
        refine hno j (by omega) ⟨by rw [hzj]; exact h3, ?_⟩
        rw [hzj]
        exact e.symm
      · rw [if_neg hj5] at hzj
        rw [← e, hzj] at he
        omega
    rw [hN, h2]
theorem mark_none {t : ByteArray} {a : Nat} (ha : a < t.size) (hno : ∀ j, (h : j < 21) → ¬ M t a (marks[j]'(by rw [marks_len]; exact h))) : markN t a = 0 := by
  unfold markN
  rw [if_neg, if_neg]
  · intro h
    obtain ⟨j, hj, e⟩ := (mk_iff _).1 h
    have he : (t.extract a (a + 1)).size = 1 := by rw [ByteArray.size_extract]; omega
    refine hno j hj ⟨by rw [e, he]; omega, by rw [e, he]⟩
  · rintro ⟨h3, h⟩
    obtain ⟨j, hj, e⟩ := (mk_iff _).1 h
    have he : (t.extract a (a + 2)).size = 2 := by rw [ByteArray.size_extract]; omega
    refine hno j hj ⟨by rw [e, he]; exact h3, by rw [e, he]⟩
theorem mark_slash {t : ByteArray} {a : Nat} (ha : a < t.size) (h : t[a] = 47) : markN t a = 0 := by
  refine mark_none ha fun j hj hm => ?_
  have h1 := marks_first ⟨j, hj⟩
  apply h1
  have hz := marks_size ⟨j, hj⟩
  dsimp only at hz
  obtain ⟨h2, h3⟩ := hm
  have h4 := congrArg (fun s : ByteArray => s.data.toList[0]?) h3
  rw [← h4, extL, List.getElem?_take_of_lt (by split at hz <;> omega), List.getElem?_drop, Nat.add_zero, List.getElem?_eq_getElem (by rw [len_list]; exact ha)]
  congr 1
set_option maxRecDepth 100000 in
set_option maxHeartbeats 1600000 in
theorem mark_s (t : ByteArray) (a : Nat) (ha : a < t.size) (hs : t.size ≤ 1048576) (w : World) : Calls Tryd.prog 105 #[.string t, .int .i64 a] w fun e w' => e = .returned (.string (t.extract a (a + markN t a))) ∧ Below w.heap.size w w' := by
  have a0 : (0 : Int) ≤ (a : Int) := by omega
  go_enter Tryd.func105, Tryd.ntmps105
  go_wp2_with fail
  refine (Mark.marks_any _).mono ?_
  rintro e w1 ⟨A, rfl, hrow, hb⟩
  obtain ⟨A', c', e', -, hn, hnc, hcm, hA⟩ := hrow
  injection e' with hA1 _ hc1
  subst hA1 hc1
  obtain ⟨b, off, rfl, hbl, hcells⟩ := hA (by omega)
  go_wp2
  go_loopw [6, 7] (fun i _ wr => ∃ k : Nat, k ≤ 21 ∧ i = .int .i64 k ∧ (∃ n, wr = w1.drewN n) ∧ Hid (∀ j, (h : j < k) → (h2 : j < 21) → ¬ M t a (marks[j]'(by rw [marks_len]; exact h2)))) (fun i _ _ => 21 - (intOf i).toNat)
  case atStart => exact ⟨0, by omega, rfl, ⟨0, rfl⟩, Lib.hid (fun j h => by omega)⟩
  case round =>
    obtain ⟨k, hk, rfl, ⟨nd, rfl⟩, hr⟩ := hrel
    by_cases hlt : k < 21
    · have hlm : k < marks.length := by rw [marks_len]; exact hlt
      have c1 := hcells k _ (Strs.at_str hlm)
      have i0 : (0 : Int) ≤ (k : Int) := by omega
      have i1 : (k : Int) < 21 := by omega
      have hz := marks_size ⟨k, hlt⟩
      simp only at hz
      have hz2 : marks[k].size = 1 ∨ marks[k].size = 2 := by split at hz <;> omega
      have hM := Lib.hid (show M t a marks[k] ↔ (a + marks[k].size ≤ t.size ∧ t.extract a (a + marks[k].size) = marks[k]) from Iff.rfl)
      have hhit := Lib.hid (fun hm => mark_hit ha hlt hm (fun j h => hr.out j h (by omega)))
      have hon := Lib.hid (fun (hm : ¬ M t a marks[k]) => show ∀ j, (h : j < k + 1) → (h2 : j < 21) → ¬ M t a (marks[j]'(by rw [marks_len]; exact h2)) from fun j h h2 => by
        by_cases e : j = k
        · subst e; exact hm
        · exact hr.out j (by omega) h2)
      clear hz hcells
      generalize marks[k] = m at *
      by_cases hle : a + m.size ≤ t.size
      · have d1 : decide ((a : Int) + (m.size : Int) ≤ (t.size : Int)) = true := by simp; omega
        have i2 : (a : Int) + (m.size : Int) ≤ (t.size : Int) := by omega
        have i3 : (0 : Int) ≤ (a : Int) + (m.size : Int) := by omega
        have i4 : (a : Int) ≤ (a : Int) + (m.size : Int) := by omega
        have i5 : ((a : Int) + (m.size : Int)).toNat = a + m.size := by omega
        by_cases he : t.extract a (a + m.size) = m
        · have e1 : ((t.extract a (a + m.size)).toList == m.toList) = true := by rw [Strs.eq_bytes, decide_eq_true he]
          have hfin := Lib.hid (hhit.out (hM.out.2 ⟨hle, he⟩))
          replace he := Lib.hid he
          clear hhit hon hM
          go_wp2
          refine wp_region_below [(0, true), (1, true), (2, true), (3, true), (4, true), (5, true), (6, true), (7, true), (8, true), (9, true), (10, true), (11, true), (12, true), (13, true), (14, true), (15, true), (16, true), (17, true), (18, true)] (by kernel_rfl) (by kernel_rfl) (fun d _ _ _ _ h => by cases d <;> exact h) ?_
          repeat (first
            | (refine mix_still rfl (by rfl) ?_
               apply Exists.intro
               refine ⟨fun w' hS => ?_, ?_⟩
               · (have hS' := cells_of hS; clear hS; go_simp; (try go_bits); first | with_reducible rfl | (refine (if_pos ?_).trans ?_; omega; with_reducible rfl))
               (go_simp; (try go_bits)))
            | (refine mix_skip rfl (by rfl) ?_; go_simp))
          refine mix_nil ?_
          go_wp2
          go_ret
          refine ⟨by rw [hfin.out]; rfl, ?_⟩
          first | exact hb.trans (to_drewN _ _ _) | (simp only [World.drewN_drewN]; exact hb.trans (to_drewN _ _ _))
        · have e1 : ((t.extract a (a + m.size)).toList == m.toList) = false := by rw [Strs.eq_bytes, decide_eq_false he]
          have hn2 := Lib.hid (hon.out (fun h => he (hM.out.1 h).2))
          replace he := Lib.hid he
          clear hhit hon hM
          go_wp2
          refine wp_region_below [(0, true), (1, true), (2, true), (3, true), (4, true), (5, true), (6, true), (7, true), (8, true), (9, true), (10, true), (11, true), (12, true), (13, true), (14, true), (15, true), (16, true), (17, true), (18, true)] (by kernel_rfl) (by kernel_rfl) (fun d _ _ _ _ h => by cases d <;> exact h) ?_
          repeat (first
            | (refine mix_still rfl (by rfl) ?_
               apply Exists.intro
               refine ⟨fun w' hS => ?_, ?_⟩
               · (have hS' := cells_of hS; clear hS; go_simp; (try go_bits); first | with_reducible rfl | (refine (if_pos ?_).trans ?_; omega; with_reducible rfl))
               (go_simp; (try go_bits)))
            | (refine mix_skip rfl (by rfl) ?_; go_simp))
          refine mix_nil ?_
          go_wp2
          go_roundw
          case rel => exact ⟨k + 1, by omega, by go_num, ⟨_, by first | rfl | (simp only [World.drewN_drewN]; rfl)⟩, hn2⟩
          case measure => simp [intOf]; omega
      · have d1 : decide ((a : Int) + (m.size : Int) ≤ (t.size : Int)) = false := by simp; omega
        have hn2 := Lib.hid (hon.out (fun h => hle (hM.out.1 h).1))
        clear hhit hon hM
        go_wp2
        refine wp_region_below [(0, true), (1, true), (2, true), (3, true), (4, true), (5, true), (6, true), (7, true), (8, true), (9, true), (10, true), (11, true), (12, true), (13, true), (14, true), (15, true), (16, true), (17, true), (18, true)] (by kernel_rfl) (by kernel_rfl) (fun d _ _ _ _ h => by cases d <;> exact h) ?_
        repeat (first
          | (refine mix_still rfl (by rfl) ?_
             apply Exists.intro
             refine ⟨fun w' hS => ?_, ?_⟩
             · (have hS' := cells_of hS; clear hS; go_simp; (try go_bits); first | with_reducible rfl | (refine (if_pos ?_).trans ?_; omega; with_reducible rfl))
             (go_simp; (try go_bits)))
          | (refine mix_skip rfl (by rfl) ?_; go_simp))
        refine mix_nil ?_
        go_wp2
        go_roundw
        case rel => exact ⟨k + 1, by omega, by go_num, ⟨_, by first | rfl | (simp only [World.drewN_drewN]; rfl)⟩, hn2⟩
        case measure => simp [intOf]; omega
    · obtain rfl : k = 21 := by omega
      have hfin := Lib.hid (mark_none ha (fun j h => hr.out j h h))
      have hem := Lib.hid (show t.extract a (a + markN t a) = ByteArray.empty by rw [hfin.out]; apply toL; rw [extL, Nat.add_zero, Nat.sub_self]; rfl)
      go_wp2
      go_ret
      exact ⟨by rw [hem.out]; rfl, hb.trans (to_drewN _ _ _)⟩
end Go.Proofs.YtklhfjeonhjobaaDoor.Scan
