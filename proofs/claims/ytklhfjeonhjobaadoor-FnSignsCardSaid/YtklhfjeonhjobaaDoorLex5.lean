/-
  The contract of spec.l04Sign: the sign at a place.
  Conditions: a place in a text of 2^20 bytes at most.
-/
import Derived.Test.YtklhfjeonhjobaaDoorLex4
import Derived.Test.YtklhfjeonhjobaaDoorBlocks
namespace Go.Proofs.YtklhfjeonhjobaaDoor.Scan
open Go.RowKit Go.Proofs.YtklhfjeonhjobaaDoor.Row Go.Proofs.YtklhfjeonhjobaaDoor.Mem Go.Proofs.YtklhfjeonhjobaaDoor.Mix Go.Proofs.YtklhfjeonhjobaaDoor.Blocks
theorem slash_first {t : ByteArray} {a : Nat} (h : slashes t a) (ha : a < t.size) : t[a] = 47 := by
  obtain ⟨h1, h2⟩ := h
  have h3 := congrArg (fun s : ByteArray => s.data.toList[0]?) h2
  dsimp only at h3
  rw [extL, show a + 2 - a = 2 by omega, List.getElem?_take_of_lt (by omega), List.getElem?_drop, Nat.add_zero, List.getElem?_eq_getElem (by rw [len_list]; exact ha)] at h3
  injection h3
theorem sign_note {t : ByteArray} {a : Nat} (ha : a < t.size) (h : noteAt t a ≠ 0) : signN t a t[a] = (5, Trim.trimmed (t.extract a (a + noteAt t a)), noteAt t a) := by
  unfold noteAt at h ⊢
  by_cases hs : slashes t a
  · rw [if_pos hs] at h ⊢
    have h47 := slash_first hs ha
    unfold signN
    rw [h47, if_neg (by decide), if_neg (by decide), if_neg (by decide), if_pos (show a + 2 ≤ t.size ∧ t.extract a (a + 2) = ⟨#[47, 47]⟩ from hs)]
  · rw [if_neg hs] at h
    exact absurd rfl h
theorem sign_name {t : ByteArray} {a : Nat} {c : UInt8} (h : isFst c = true) : signN t a c = if run isInn t a ≤ 30 then (1, t.extract a (a + run isInn t a), run isInn t a) else (0, ByteArray.empty, 0) := by
  unfold signN
  rw [if_pos h]
theorem sign_num {t : ByteArray} {a : Nat} {c : UInt8} (hF : isFst c = false) (h : isFig c = true) : signN t a c = if run isFig t a ≤ 12 then (2, t.extract a (a + run isFig t a), run isFig t a) else (0, ByteArray.empty, 0) := by
  unfold signN
  rw [if_neg (by rw [hF]; decide), if_pos h]
theorem sign_quo {t : ByteArray} {a : Nat} {c : UInt8} (hF : isFst c = false) (hG : isFig c = false) (h : c = 39) : signN t a c = (3, t.extract a (a + quoN t a), quoN t a) := by
  unfold signN
  rw [if_neg (by rw [hF]; decide), if_neg (by rw [hG]; decide), if_pos h]
theorem sign_mark {t : ByteArray} {a : Nat} (ha : a < t.size) (hF : isFst t[a] = false) (hG : isFig t[a] = false) (h : t[a] ≠ 39) (hN : noteAt t a = 0) :
    (signN t a t[a]).2.2 = markN t a ∧ (markN t a ≠ 0 → signN t a t[a] = (4, t.extract a (a + markN t a), markN t a)) := by
  by_cases hs : slashes t a
  · have h47 := slash_first hs ha
    have hm := mark_slash ha h47
    unfold noteAt at hN
    rw [if_pos hs] at hN
    refine ⟨?_, fun h => absurd hm h⟩
    unfold signN
    rw [hm, if_neg (by rw [hF]; decide), if_neg (by rw [hG]; decide), if_neg h, if_pos (show a + 2 ≤ t.size ∧ t.extract a (a + 2) = ⟨#[47, 47]⟩ from hs)]
    exact hN
  · have e : signN t a t[a] = (4, t.extract a (a + markN t a), markN t a) := by
      unfold signN
      rw [if_neg (by rw [hF]; decide), if_neg (by rw [hG]; decide), if_neg h, if_neg (show ¬ (a + 2 ≤ t.size ∧ t.extract a (a + 2) = ⟨#[47, 47]⟩) from hs)]
    rw [e]
    exact ⟨rfl, fun _ => rfl⟩
theorem ext_sz {t : ByteArray} {a n : Nat} (h : a + n ≤ t.size) : (t.extract a (a + n)).size = n := by rw [ByteArray.size_extract]; omega
theorem note_le {t : ByteArray} {a : Nat} (ha : a ≤ t.size) : a + noteAt t a ≤ t.size := by
  unfold noteAt
  split
  · unfold noteN
    simp only
    have := run_le (fun b => b != 10) t a ha
    split <;> omega
  · omega
theorem quo_le {t : ByteArray} {a : Nat} (ha : a ≤ t.size) : a + quoN t a ≤ t.size := by
  unfold quoN
  simp only
  split
  · rename_i h; omega
  · omega
theorem mark_le {t : ByteArray} {a : Nat} (ha : a < t.size) : a + markN t a ≤ t.size := by
  unfold markN
  split
  · rename_i h; omega
  · split <;> omega
set_option maxRecDepth 100000 in
set_option maxHeartbeats 3200000 in
theorem sign_s (t : ByteArray) (a : Nat) (ha : a < t.size) (hs : t.size ≤ 1048576) (w : World) : Calls Tryd.prog 79 #[.string t, .int .i64 a] w fun e w' =>
    ∃ (k p : Int) (x : ByteArray), e = .returned (.tuple #[.agg #[.int .i64 k, .string x, .int .i64 p, .bool false], .int .i64 ((signN t a t[a]).2.2 : Nat)]) ∧
      ((signN t a t[a]).2.2 ≠ 0 → k = (signN t a t[a]).1 ∧ x = (signN t a t[a]).2.1 ∧ p = (a : Int)) ∧ Below w.heap.size w w' := by
  have a0 : (0 : Int) ≤ (a : Int) := by omega
  have a1 : (a : Int) < (t.size : Int) := by omega
  have hB0 := (Below.refl w.heap.size w).alloc (Nat.le_refl _) (.cells #[.int .i64 0, .string ⟨#[]⟩, .int .i64 0, .bool false] 61)
  have k0 := heap_alloc_new w (.cells #[.int .i64 0, .string ⟨#[]⟩, .int .i64 0, .bool false] 61)
  obtain ⟨W, hW⟩ : ∃ W, w.alloc (.cells #[.int .i64 0, .string ⟨#[]⟩, .int .i64 0, .bool false] 61) = W := ⟨_, rfl⟩
  rw [hW] at hB0 k0
  replace hW := Lib.hid hW
  have hB := Lib.hid hB0
  replace k0 := Lib.hid k0
  clear hB0
  obtain ⟨v0, v1, v2, v3⟩ := blk4 k0.out
  have g := frz k0.out
  have l0 := blk_lt k0.out
  obtain ⟨c, hc⟩ : ∃ c, t[a] = c := ⟨_, rfl⟩
  have hnote := note_s t a ha hs
  have hnl := note_le (t := t) (Nat.le_of_lt ha)
  by_cases hN : noteAt t a = 0
  · have cF := first_s c
    have cG := fig_s c
    rw [hN] at hnote
    replace hnote := Lib.hid hnote
    cases hF : isFst c
    · rw [hF] at cF
      cases hG : isFig c
      · rw [hG] at cG
        by_cases h39 : c = 39
        · have hv := Lib.hid (show signN t a t[a] = (3, t.extract a (a + quoN t a), quoN t a) by rw [hc]; exact sign_quo hF hG h39)
          have hq := quo_s t a ha hs (by rw [hc]; exact h39)
          have hql := quo_le (t := t) (Nat.le_of_lt ha)
          have e39 : ((t[a].toNat : Int) == 39) = true := by rw [hc, h39]; rfl
          replace cF := Lib.hid cF
          replace cG := Lib.hid cG
          replace hF := Lib.hid hF
          replace hG := Lib.hid hG
          replace h39 := Lib.hid h39
          replace hc := Lib.hid hc
          replace hN := Lib.hid hN
          replace hq := Lib.hid hq
          generalize quoN t a = n at *
          have i2 : (a : Int) + (n : Int) ≤ (t.size : Int) := by omega
          have i3 : (0 : Int) ≤ (a : Int) + (n : Int) := by omega
          have i4 : (a : Int) ≤ (a : Int) + (n : Int) := by omega
          have i5 : ((a : Int) + (n : Int)).toNat = a + n := by omega
          rw [← hc.out] at cF cG
          go_enter Tryd.func79, Tryd.ntmps79
          go_wp2_with fail
          rw [hW.out]
          refine (hnote.out _).mono ?_
          rintro e w1 ⟨rfl, rfl⟩
          go_wp2_with (first | fail | (go_at_call 102; refine (cF.out _).mono ?_; rintro e w1 ⟨rfl, rfl⟩) | (go_at_call 103; refine (cG.out _).mono ?_; rintro e w1 ⟨rfl, rfl⟩) | (go_at_call 104; refine (hq.out _).mono ?_; rintro e w1 ⟨rfl, rfl⟩))
          refine bodyPost_ret (v := .tuple #[.agg #[.int .i64 3, .string (t.extract a (a + n)), .int .i64 a, .bool false], .int .i64 n]) (by simp [results, Tryd.results79, go_sem, v0, v1, v2, v3]) rfl ⟨_, _, _, by rw [hv.out], by rw [hv.out]; intro _; exact ⟨rfl, rfl, rfl⟩, ?_⟩
          repeat (first | (with_reducible exact hB.out) | refine Below.setCell ?_ (by simp <;> omega) _)
        · obtain ⟨hv, hv2⟩ := sign_mark ha (by rw [hc]; exact hF) (by rw [hc]; exact hG) (by rw [hc]; exact h39) hN
          have hm := fun W => mark_s t a ha hs W
          have hml := mark_le ha
          have e39 : ((t[a].toNat : Int) == 39) = false := beq_eq_false_iff_ne.2 (fun e => h39 (by rw [← hc]; exact UInt8.toNat_inj.1 (show t[a].toNat = 39 by omega)))
          have hz := ext_sz hml
          replace cF := Lib.hid cF
          replace cG := Lib.hid cG
          replace hF := Lib.hid hF
          replace hG := Lib.hid hG
          replace h39 := Lib.hid h39
          replace hc := Lib.hid hc
          replace hN := Lib.hid hN
          replace hm := Lib.hid hm
          replace hv := Lib.hid hv
          replace hv2 := Lib.hid hv2
          generalize markN t a = n at *
          have hxz : (t.extract a (a + n)).size ≤ 1048576 := by rw [hz]; omega
          obtain ⟨x, hx⟩ : ∃ x, t.extract a (a + n) = x := ⟨_, rfl⟩
          rw [hx] at hm hv2 hz hxz
          replace hx := Lib.hid hx
          replace hz := Lib.hid hz
          rw [← hc.out] at cF cG
          go_enter Tryd.func79, Tryd.ntmps79
          go_wp2_with fail
          rw [hW.out]
          refine (hnote.out _).mono ?_
          rintro e w1 ⟨rfl, rfl⟩
          go_wp2_with (first | fail | (go_at_call 102; refine (cF.out _).mono ?_; rintro e w1 ⟨rfl, rfl⟩) | (go_at_call 103; refine (cG.out _).mono ?_; rintro e w1 ⟨rfl, rfl⟩) | fail)
          refine (hm.out _).mono ?_
          rintro e w2 ⟨rfl, b2⟩
          replace hB := Lib.hid (hB.out.trans (b2.mono hB.out.size))
          replace k0 := Lib.hid (blk_below k0.out b2)
          clear v0 v1 v2 v3 g l0 b2
          obtain ⟨v0, v1, v2, v3⟩ := blk4 k0.out
          have g := frz k0.out
          have l0 := blk_lt k0.out
          go_wp2
          refine bodyPost_ret (v := .tuple #[.agg #[.int .i64 4, .string x, .int .i64 a, .bool false], .int .i64 x.size]) (by simp [results, Tryd.results79, go_sem, v0, v1, v2, v3]) rfl ⟨_, _, _, by rw [hv.out, hz.out], fun h => by rw [hv.out] at h; rw [hv2.out h]; exact ⟨rfl, rfl, rfl⟩, ?_⟩
          repeat (first | (with_reducible exact hB.out) | refine Below.setCell ?_ (by simp <;> omega) _)
      · rw [hG] at cG
        have hrl := run_le isFig t a (Nat.le_of_lt ha)
        have hrp := run_pos (f := isFig) ha (by rw [hc]; exact hG)
        have hv := Lib.hid (show signN t a t[a] = if run isFig t a ≤ 12 then (2, t.extract a (a + run isFig t a), run isFig t a) else (0, ByteArray.empty, 0) by rw [hc]; exact sign_num hF hG)
        replace cF := Lib.hid cF
        replace cG := Lib.hid cG
        replace hF := Lib.hid hF
        replace hG := Lib.hid hG
        replace hc := Lib.hid hc
        replace hN := Lib.hid hN
        rw [← hc.out] at cF cG
        go_enter Tryd.func79, Tryd.ntmps79
        go_wp2_with fail
        rw [hW.out]
        refine (hnote.out _).mono ?_
        rintro e w1 ⟨rfl, rfl⟩
        go_wp2_with (first | fail | (go_at_call 102; refine (cF.out _).mono ?_; rintro e w1 ⟨rfl, rfl⟩) | (go_at_call 103; refine (cG.out _).mono ?_; rintro e w1 ⟨rfl, rfl⟩))
        go_loop [6] (fun n => ∃ k : Nat, a ≤ k ∧ k ≤ t.size ∧ n = .int .i64 k ∧ Hid (∀ i, a ≤ i → i < k → ∀ h : i < t.size, isFig t[i] = true)) (fun n => t.size - (intOf n).toNat)
        case atStart => exact ⟨a, Nat.le_refl _, by omega, rfl, Lib.hid (fun i h1 h2 => by omega)⟩
        case round =>
          obtain ⟨k, hak, hk, rfl, hr⟩ := hrel
          have hend : (∀ h : k < t.size, isFig t[k] = false) → Hid (signN t a t[a] = if k - a ≤ 12 then (2, t.extract a k, k - a) else (0, ByteArray.empty, 0)) := fun h => Lib.hid (by
            have h1 := run_end (f := isFig) hak hk hr.out h
            rw [hv.out, h1, show a + (k - a) = k by omega])
          by_cases hlt : k < t.size
          · have i0 : (0 : Int) ≤ (k : Int) := by omega
            have i1 : (k : Int) < (t.size : Int) := by omega
            have hcl := fig_s t[k]
            cases hf : isFig t[k]
            · rw [hf] at hcl
              replace hcl := Lib.hid hcl
              have he := hend (fun _ => hf)
              replace hf := Lib.hid hf
              clear hend
              have j1 : (a : Int) ≤ (k : Int) := by omega
              have j2 : (k : Int) ≤ (t.size : Int) := by omega
              have hkc : ((k - a : Nat) : Int) = (k : Int) - (a : Int) := by omega
              by_cases hmx : k - a ≤ 12
              · have dm : decide ((12 : Int) < (k : Int) - (a : Int)) = false := by simp; omega
                have hv3 := Lib.hid (show signN t a t[a] = (2, t.extract a k, k - a) by rw [he.out, if_pos hmx])
                replace hkc := Lib.hid hkc
                clear he
                go_wp2_with (go_at_call 103; refine (hcl.out _).mono ?_; rintro e w1 ⟨rfl, rfl⟩)
                refine bodyPost_ret (v := .tuple #[.agg #[.int .i64 2, .string (t.extract a k), .int .i64 a, .bool false], .int .i64 ((k : Int) - (a : Int))]) (by simp [results, Tryd.results79, go_sem, v0, v1, v2, v3]) rfl ⟨_, _, _, by rw [hv3.out, hkc.out], by rw [hv3.out]; intro _; exact ⟨rfl, rfl, rfl⟩, ?_⟩
                repeat (first | (with_reducible exact hB.out) | refine Below.setCell ?_ (by simp <;> omega) _)
              · have dm : decide ((12 : Int) < (k : Int) - (a : Int)) = true := by simp; omega
                have hv3 := Lib.hid (show signN t a t[a] = (0, ByteArray.empty, 0) by rw [he.out, if_neg hmx])
                replace hkc := Lib.hid hkc
                clear he
                go_wp2_with (go_at_call 103; refine (hcl.out _).mono ?_; rintro e w1 ⟨rfl, rfl⟩)
                refine bodyPost_ret (v := .tuple #[.agg #[.int .i64 0, .string ⟨#[]⟩, .int .i64 0, .bool false], .int .i64 0]) (by simp [results, Tryd.results79, go_sem, v0, v1, v2, v3]) rfl ⟨_, _, _, by rw [hv3.out]; rfl, by rw [hv3.out]; intro h; exact absurd rfl h, ?_⟩
                repeat (first | (with_reducible exact hB.out) | refine Below.setCell ?_ (by simp <;> omega) _)
            · rw [hf] at hcl
              replace hcl := Lib.hid hcl
              have hon := Lib.hid (show ∀ i, a ≤ i → i < k + 1 → ∀ h : i < t.size, isFig t[i] = true from fun i h1 h2 h3 => by
                by_cases e : i = k
                · subst e; exact hf
                · exact hr.out i h1 (by omega) h3)
              replace hf := Lib.hid hf
              go_wp2_with (go_at_call 103; refine (hcl.out _).mono ?_; rintro e w1 ⟨rfl, rfl⟩)
              exact ⟨⟨k + 1, by omega, by omega, by go_num, hon⟩, by simp [intOf]; omega⟩
          · have he := hend (fun h => absurd h hlt)
            have hke : k = t.size := by omega
            have d9 : decide ((k : Int) < (t.size : Int)) = false := by simp; omega
            replace hke := Lib.hid hke
            clear hend
            have j1 : (a : Int) ≤ (k : Int) := by omega
            have j2 : (k : Int) ≤ (t.size : Int) := by omega
            have hkc : ((k - a : Nat) : Int) = (k : Int) - (a : Int) := by omega
            by_cases hmx : k - a ≤ 12
            · have dm : decide ((12 : Int) < (k : Int) - (a : Int)) = false := by simp; omega
              have hv3 := Lib.hid (show signN t a t[a] = (2, t.extract a k, k - a) by rw [he.out, if_pos hmx])
              replace hkc := Lib.hid hkc
              clear he
              go_wp2
              refine bodyPost_ret (v := .tuple #[.agg #[.int .i64 2, .string (t.extract a k), .int .i64 a, .bool false], .int .i64 ((k : Int) - (a : Int))]) (by simp [results, Tryd.results79, go_sem, v0, v1, v2, v3]) rfl ⟨_, _, _, by rw [hv3.out, hkc.out], by rw [hv3.out]; intro _; exact ⟨rfl, rfl, rfl⟩, ?_⟩
              repeat (first | (with_reducible exact hB.out) | refine Below.setCell ?_ (by simp <;> omega) _)
            · have dm : decide ((12 : Int) < (k : Int) - (a : Int)) = true := by simp; omega
              have hv3 := Lib.hid (show signN t a t[a] = (0, ByteArray.empty, 0) by rw [he.out, if_neg hmx])
              replace hkc := Lib.hid hkc
              clear he
              go_wp2
              refine bodyPost_ret (v := .tuple #[.agg #[.int .i64 0, .string ⟨#[]⟩, .int .i64 0, .bool false], .int .i64 0]) (by simp [results, Tryd.results79, go_sem, v0, v1, v2, v3]) rfl ⟨_, _, _, by rw [hv3.out]; rfl, by rw [hv3.out]; intro h; exact absurd rfl h, ?_⟩
              repeat (first | (with_reducible exact hB.out) | refine Below.setCell ?_ (by simp <;> omega) _)
    · rw [hF] at cF
      clear cG
      have hrl := run_le isInn t a (Nat.le_of_lt ha)
      have hrp := run_pos (f := isInn) ha (by rw [hc]; unfold isInn; rw [hF]; rfl)
      have hv := Lib.hid (show signN t a t[a] = if run isInn t a ≤ 30 then (1, t.extract a (a + run isInn t a), run isInn t a) else (0, ByteArray.empty, 0) by rw [hc]; exact sign_name hF)
      replace cF := Lib.hid cF
      replace hF := Lib.hid hF
      replace hc := Lib.hid hc
      replace hN := Lib.hid hN
      rw [← hc.out] at cF
      have fI := Lib.hid first_s
      have gI := Lib.hid fig_s
      go_enter Tryd.func79, Tryd.ntmps79
      go_wp2_with fail
      rw [hW.out]
      refine (hnote.out _).mono ?_
      rintro e w1 ⟨rfl, rfl⟩
      go_wp2_with (first | fail | (go_at_call 102; refine (cF.out _).mono ?_; rintro e w1 ⟨rfl, rfl⟩))
      go_loop [6] (fun n => ∃ k : Nat, a ≤ k ∧ k ≤ t.size ∧ n = .int .i64 k ∧ Hid (∀ i, a ≤ i → i < k → ∀ h : i < t.size, isInn t[i] = true)) (fun n => t.size - (intOf n).toNat)
      case atStart => exact ⟨a, Nat.le_refl _, by omega, rfl, Lib.hid (fun i h1 h2 => by omega)⟩
      case round =>
        obtain ⟨k, hak, hk, rfl, hr⟩ := hrel
        have hend : (∀ h : k < t.size, isInn t[k] = false) → Hid (signN t a t[a] = if k - a ≤ 30 then (1, t.extract a k, k - a) else (0, ByteArray.empty, 0)) := fun h => Lib.hid (by
          have h1 := run_end (f := isInn) hak hk hr.out h
          rw [hv.out, h1, show a + (k - a) = k by omega])
        by_cases hlt : k < t.size
        · have i0 : (0 : Int) ≤ (k : Int) := by omega
          have i1 : (k : Int) < (t.size : Int) := by omega
          have hc1 := fI.out t[k]
          have hc2 := gI.out t[k]
          have hdef : isInn t[k] = (isFst t[k] || isFig t[k]) := rfl
          cases hf1 : isFst t[k]
          · rw [hf1] at hc1 hdef
            replace hc1 := Lib.hid hc1
            cases hf2 : isFig t[k]
            · rw [hf2] at hc2 hdef
              have hf : isInn t[k] = false := hdef
              replace hc2 := Lib.hid hc2
              have he := hend (fun _ => hf)
              replace hf := Lib.hid hf
              replace hf1 := Lib.hid hf1
              replace hf2 := Lib.hid hf2
              replace hdef := Lib.hid hdef
              clear hend
              have j1 : (a : Int) ≤ (k : Int) := by omega
              have j2 : (k : Int) ≤ (t.size : Int) := by omega
              have hkc : ((k - a : Nat) : Int) = (k : Int) - (a : Int) := by omega
              by_cases hmx : k - a ≤ 30
              · have dm : decide ((30 : Int) < (k : Int) - (a : Int)) = false := by simp; omega
                have hv3 := Lib.hid (show signN t a t[a] = (1, t.extract a k, k - a) by rw [he.out, if_pos hmx])
                replace hkc := Lib.hid hkc
                clear he
                go_wp2_with (first | (go_at_call 102; refine (hc1.out _).mono ?_; rintro e w1 ⟨rfl, rfl⟩) | (go_at_call 103; refine (hc2.out _).mono ?_; rintro e w1 ⟨rfl, rfl⟩))
                refine bodyPost_ret (v := .tuple #[.agg #[.int .i64 1, .string (t.extract a k), .int .i64 a, .bool false], .int .i64 ((k : Int) - (a : Int))]) (by simp [results, Tryd.results79, go_sem, v0, v1, v2, v3]) rfl ⟨_, _, _, by rw [hv3.out, hkc.out], by rw [hv3.out]; intro _; exact ⟨rfl, rfl, rfl⟩, ?_⟩
                repeat (first | (with_reducible exact hB.out) | refine Below.setCell ?_ (by simp <;> omega) _)
              · have dm : decide ((30 : Int) < (k : Int) - (a : Int)) = true := by simp; omega
                have hv3 := Lib.hid (show signN t a t[a] = (0, ByteArray.empty, 0) by rw [he.out, if_neg hmx])
                replace hkc := Lib.hid hkc
                clear he
                go_wp2_with (first | (go_at_call 102; refine (hc1.out _).mono ?_; rintro e w1 ⟨rfl, rfl⟩) | (go_at_call 103; refine (hc2.out _).mono ?_; rintro e w1 ⟨rfl, rfl⟩))
                refine bodyPost_ret (v := .tuple #[.agg #[.int .i64 0, .string ⟨#[]⟩, .int .i64 0, .bool false], .int .i64 0]) (by simp [results, Tryd.results79, go_sem, v0, v1, v2, v3]) rfl ⟨_, _, _, by rw [hv3.out]; rfl, by rw [hv3.out]; intro h; exact absurd rfl h, ?_⟩
                repeat (first | (with_reducible exact hB.out) | refine Below.setCell ?_ (by simp <;> omega) _)
            · rw [hf2] at hc2 hdef
              have hf : isInn t[k] = true := hdef
              replace hc2 := Lib.hid hc2
              have hon := Lib.hid (show ∀ i, a ≤ i → i < k + 1 → ∀ h : i < t.size, isInn t[i] = true from fun i h1 h2 h3 => by
                by_cases e : i = k
                · subst e; exact hf
                · exact hr.out i h1 (by omega) h3)
              replace hf := Lib.hid hf
              replace hf1 := Lib.hid hf1
              replace hf2 := Lib.hid hf2
              replace hdef := Lib.hid hdef
              go_wp2_with (first | (go_at_call 102; refine (hc1.out _).mono ?_; rintro e w1 ⟨rfl, rfl⟩) | (go_at_call 103; refine (hc2.out _).mono ?_; rintro e w1 ⟨rfl, rfl⟩))
              exact ⟨⟨k + 1, by omega, by omega, by go_num, hon⟩, by simp [intOf]; omega⟩
          · rw [hf1] at hc1 hdef
            have hf : isInn t[k] = true := by rw [hdef]; rfl
            replace hc1 := Lib.hid hc1
            have hon := Lib.hid (show ∀ i, a ≤ i → i < k + 1 → ∀ h : i < t.size, isInn t[i] = true from fun i h1 h2 h3 => by
              by_cases e : i = k
              · subst e; exact hf
              · exact hr.out i h1 (by omega) h3)
            replace hf := Lib.hid hf
            replace hf1 := Lib.hid hf1
            replace hdef := Lib.hid hdef
            clear hc2
            go_wp2_with (go_at_call 102; refine (hc1.out _).mono ?_; rintro e w1 ⟨rfl, rfl⟩)
            exact ⟨⟨k + 1, by omega, by omega, by go_num, hon⟩, by simp [intOf]; omega⟩
        · have he := hend (fun h => absurd h hlt)
          have hke : k = t.size := by omega
          have d9 : decide ((k : Int) < (t.size : Int)) = false := by simp; omega
          replace hke := Lib.hid hke
          clear hend
          have j1 : (a : Int) ≤ (k : Int) := by omega
          have j2 : (k : Int) ≤ (t.size : Int) := by omega
          have hkc : ((k - a : Nat) : Int) = (k : Int) - (a : Int) := by omega
          by_cases hmx : k - a ≤ 30
          · have dm : decide ((30 : Int) < (k : Int) - (a : Int)) = false := by simp; omega
            have hv3 := Lib.hid (show signN t a t[a] = (1, t.extract a k, k - a) by rw [he.out, if_pos hmx])
            replace hkc := Lib.hid hkc
            clear he
            go_wp2
            refine bodyPost_ret (v := .tuple #[.agg #[.int .i64 1, .string (t.extract a k), .int .i64 a, .bool false], .int .i64 ((k : Int) - (a : Int))]) (by simp [results, Tryd.results79, go_sem, v0, v1, v2, v3]) rfl ⟨_, _, _, by rw [hv3.out, hkc.out], by rw [hv3.out]; intro _; exact ⟨rfl, rfl, rfl⟩, ?_⟩
            repeat (first | (with_reducible exact hB.out) | refine Below.setCell ?_ (by simp <;> omega) _)
          · have dm : decide ((30 : Int) < (k : Int) - (a : Int)) = true := by simp; omega
            have hv3 := Lib.hid (show signN t a t[a] = (0, ByteArray.empty, 0) by rw [he.out, if_neg hmx])
            replace hkc := Lib.hid hkc
            clear he
            go_wp2
            refine bodyPost_ret (v := .tuple #[.agg #[.int .i64 0, .string ⟨#[]⟩, .int .i64 0, .bool false], .int .i64 0]) (by simp [results, Tryd.results79, go_sem, v0, v1, v2, v3]) rfl ⟨_, _, _, by rw [hv3.out]; rfl, by rw [hv3.out]; intro h; exact absurd rfl h, ?_⟩
            repeat (first | (with_reducible exact hB.out) | refine Below.setCell ?_ (by simp <;> omega) _)
  · have hv := Lib.hid (sign_note ha hN)
    have htr := fun W => Trim.spec_Trimmed (t.extract a (a + noteAt t a)) (by rw [ByteArray.size_extract]; omega) W
    replace hnote := Lib.hid hnote
    replace htr := Lib.hid htr
    generalize noteAt t a = n at *
    have i2 : (a : Int) + (n : Int) ≤ (t.size : Int) := by omega
    have i3 : (0 : Int) ≤ (a : Int) + (n : Int) := by omega
    have i4 : (a : Int) ≤ (a : Int) + (n : Int) := by omega
    have i5 : ((a : Int) + (n : Int)).toNat = a + n := by omega
    have hn0 : (0 : Int) < (n : Int) := by omega
    replace hN := Lib.hid hN
    replace hc := Lib.hid hc
    go_enter Tryd.func79, Tryd.ntmps79
    go_wp2_with fail
    rw [hW.out]
    refine (hnote.out _).mono ?_
    rintro e w1 ⟨rfl, rfl⟩
    go_wp2_with (first | fail | (go_at_call 38; refine (htr.out _).mono ?_; rintro e w1 ⟨rfl, rfl⟩))
    refine bodyPost_ret (v := .tuple #[.agg #[.int .i64 5, .string (Trim.trimmed (t.extract a (a + n))), .int .i64 a, .bool false], .int .i64 n]) (by simp [results, Tryd.results79, go_sem, v0, v1, v2, v3]) rfl ⟨_, _, _, by rw [hv.out], by rw [hv.out]; intro _; exact ⟨rfl, rfl, rfl⟩, ?_⟩
    repeat (first | (with_reducible exact hB.out) | refine Below.setCell ?_ (by simp <;> omega) _)
end Go.Proofs.YtklhfjeonhjobaaDoor.Scan
