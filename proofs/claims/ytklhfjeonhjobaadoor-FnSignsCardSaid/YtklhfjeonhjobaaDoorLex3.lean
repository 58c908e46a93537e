/-
  The contract of impl.signAt: the sign that a text begins with.
  Conditions: a text of 1 to 2^20 bytes.
-/
import Derived.Test.YtklhfjeonhjobaaDoorLex2
namespace Go.Proofs.YtklhfjeonhjobaaDoor.Scan
open Go.RowKit
open Go.Proofs.YtklhfjeonhjobaaDoor.Mark (mk)
abbrev signU (u : ByteArray) (h : 0 < u.size) : Int × ByteArray × Nat := signN u 0 u[0]
theorem pre_two (u : ByteArray) : Lib.hasPrefix u.data.toList [47, 47] = true ↔ (0 + 2 ≤ u.size ∧ u.extract 0 (0 + 2) = ⟨#[47, 47]⟩) := by
  have hl := len_list u
  unfold Lib.hasPrefix
  rw [List.isPrefixOf_iff_prefix]
  constructor
  · rintro ⟨r, hr⟩
    have h2 : u.size = 2 + r.length := by rw [← hl, ← hr]; simp; omega
    refine ⟨by omega, toL ?_⟩
    rw [extL, ← hr]
    rfl
  · rintro ⟨h1, h2⟩
    have h3 := congrArg (fun s : ByteArray => s.data.toList) h2
    simp only at h3
    rw [extL, List.drop_zero] at h3
    have h4 : u.data.toList.take 2 = [47, 47] := h3
    refine ⟨u.data.toList.drop 2, ?_⟩
    have h5 := List.take_append_drop 2 u.data.toList
    rw [h4] at h5
    exact h5
theorem results_tmp4 {fn : Func} {t1 t2 t3 t4 : Tmp} (h : fn.results = #[.tmp t1, .tmp t2, .tmp t3, .tmp t4]) (tmps : Array Value) (P : Program) (w : World) :
    (results fn tmps).run P w = .ok (.tuple #[tmps.getD t1 undef, tmps.getD t2 undef, tmps.getD t3 undef, tmps.getD t4 undef]) w := by
  simp [results, h, Sem.run_bind, Sem.run_pure]
theorem ext_le (u : ByteArray) (n : Nat) (h : u.size ≤ 1048576) : (u.extract 0 n).size ≤ 1048576 := by rw [ByteArray.size_extract]; omega
set_option maxRecDepth 100000 in
set_option maxHeartbeats 3200000 in
theorem signAt_i (u : ByteArray) (h0 : 0 < u.size) (hs : u.size ≤ 1048576) (w : World) : Calls Tryd.prog 80 #[.string u] w fun e w' =>
    ∃ (k z : Int) (x : ByteArray), e = .returned (.tuple #[.int .i64 k, .string x, .int .i64 z, .bool (decide ((signU u h0).2.2 ≠ 0))]) ∧
      ((signU u h0).2.2 ≠ 0 → k = (signU u h0).1 ∧ x = (signU u h0).2.1 ∧ z = ((signU u h0).2.2 : Int)) ∧ Below w.heap.size w w' := by
  obtain ⟨c, hc⟩ : ∃ c, u[0] = c := ⟨_, rfl⟩
  have i1 : (0 : Int) < (u.size : Int) := by omega
  have cF := first_i c
  have cG := fig_i c
  have hcN : u[0].toNat = c.toNat := by rw [hc]
  cases hF : isFst c
  · rw [hF] at cF
    cases hG : isFig c
    · rw [hG] at cG
      by_cases h39 : c = 39
      · -- a text in quotes
        have hv := Lib.hid (show signU u h0 = (3, u.extract 0 (0 + quoN u 0), quoN u 0) by unfold signU signN; rw [hc, if_neg (by rw [hF]; decide), if_neg (by rw [hG]; decide), if_pos h39])
        have hq := quoted_i u h0 hs
        have hN : quoN u 0 = if 1 + quoR u < u.size ∧ plain (u.extract 0 (quoR u + 2)) = true then quoR u + 2 else 0 := by
          unfold quoN
          simp only [Nat.zero_add]
        have hsz : (u.extract 0 (quoR u + 2)).size ≤ 1048576 := ext_le u _ hs
        have hzz : 1 + quoR u < u.size → (u.extract 0 (quoR u + 2)).size = quoR u + 2 := fun h => by rw [ByteArray.size_extract]; omega
        have e39 : ((c.toNat : Int) == 39) = true := by rw [h39]; rfl
        replace cF := Lib.hid cF
        replace cG := Lib.hid cG
        replace hF := Lib.hid hF
        replace hG := Lib.hid hG
        replace h39 := Lib.hid h39
        replace hc := Lib.hid hc
        by_cases h1 : 1 + quoR u < u.size
        · cases hp : plain (u.extract 0 (quoR u + 2))
          · have hz : quoN u 0 = 0 := by rw [hN, if_neg]; rw [hp]; rintro ⟨-, h⟩; cases h
            rw [hp, decide_eq_true h1, if_pos h1] at hq
            replace hq := Lib.hid hq
            rw [hz] at hv
            replace hN := Lib.hid hN
            replace hzz := Lib.hid hzz
            replace hp := Lib.hid hp
            generalize u.extract 0 (quoR u + 2) = x at *
            go_enter Tryd.func80, Tryd.ntmps80
            go_wp2_with (first | (go_at_call 106; refine (cF.out _).mono ?_; rintro e w1 ⟨rfl, rfl⟩) | (go_at_call 109; refine (cG.out _).mono ?_; rintro e w1 ⟨rfl, rfl⟩) | (go_at_call 110; refine (hq.out _).mono ?_; rintro e w1 ⟨rfl, rfl⟩))
            refine bodyPost_ret (results_tmp4 rfl _ _ _) rfl ?_
            exact ⟨_, _, _, by rw [hv.out]; rfl, by rw [hv.out]; intro h; exact absurd rfl h, Below.refl _ _⟩
          · have hz : quoN u 0 = quoR u + 2 := by rw [hN, if_pos ⟨h1, hp⟩]
            rw [hp, decide_eq_true h1, if_pos h1] at hq
            replace hq := Lib.hid hq
            rw [hz, Nat.zero_add] at hv
            have hxz := Lib.hid (hzz h1)
            replace hN := Lib.hid hN
            replace hzz := Lib.hid hzz
            replace hp := Lib.hid hp
            generalize u.extract 0 (quoR u + 2) = x at *
            go_enter Tryd.func80, Tryd.ntmps80
            go_wp2_with (first | (go_at_call 106; refine (cF.out _).mono ?_; rintro e w1 ⟨rfl, rfl⟩) | (go_at_call 109; refine (cG.out _).mono ?_; rintro e w1 ⟨rfl, rfl⟩) | (go_at_call 110; refine (hq.out _).mono ?_; rintro e w1 ⟨rfl, rfl⟩))
            refine bodyPost_ret (results_tmp4 rfl _ _ _) rfl ?_
            exact ⟨_, _, _, by rw [hv.out]; rfl, by rw [hv.out]; intro _; exact ⟨rfl, rfl, by rw [hxz.out]⟩, Below.refl _ _⟩
        · have hz : quoN u 0 = 0 := by rw [hN, if_neg (fun h => h1 h.1)]
          rw [decide_eq_false h1, if_neg h1, Bool.false_and] at hq
          replace hq := Lib.hid hq
          rw [hz] at hv
          replace hN := Lib.hid hN
          replace hzz := Lib.hid hzz
          go_enter Tryd.func80, Tryd.ntmps80
          go_wp2_with (first | (go_at_call 106; refine (cF.out _).mono ?_; rintro e w1 ⟨rfl, rfl⟩) | (go_at_call 109; refine (cG.out _).mono ?_; rintro e w1 ⟨rfl, rfl⟩) | (go_at_call 110; refine (hq.out _).mono ?_; rintro e w1 ⟨rfl, rfl⟩))
          refine bodyPost_ret (results_tmp4 rfl _ _ _) rfl ?_
          exact ⟨_, _, _, by rw [hv.out]; rfl, by rw [hv.out]; intro h; exact absurd rfl h, Below.refl _ _⟩
      · have e39 : ((c.toNat : Int) == 39) = false := beq_eq_false_iff_ne.2 (fun e => h39 (UInt8.toNat_inj.1 (show c.toNat = 39 by omega)))
        have h39h := Lib.hid h39
        by_cases hpre : 0 + 2 ≤ u.size ∧ u.extract 0 (0 + 2) = ⟨#[47, 47]⟩
        · -- a note
          have hv := Lib.hid (show signU u h0 = (5, Trim.trimmed (u.extract 0 (0 + noteN u 0)), noteN u 0) by unfold signU signN; rw [hc, if_neg (by rw [hF]; decide), if_neg (by rw [hG]; decide), if_neg h39, if_pos hpre])
          have hpf := fun W => Tryd.strings_HasPrefix u ⟨#[47, 47]⟩ W
          rw [show Lib.hasPrefix u.data.toList (⟨#[47, 47]⟩ : ByteArray).data.toList = true from (pre_two u).2 hpre] at hpf
          have hrun := runOf_end u hs
          have hN : noteN u 0 = if plain (u.extract 0 (run notEnd u 0)) = true then run notEnd u 0 else 0 := by
            unfold noteN
            simp only [Nat.zero_add]
            rfl
          have hsz : (u.extract 0 (run notEnd u 0)).size ≤ 1048576 := ext_le u _ hs
          have hzz : (u.extract 0 (run notEnd u 0)).size = run notEnd u 0 := by
            have := run_le notEnd u 0 (Nat.zero_le _)
            rw [ByteArray.size_extract]; omega
          have hpos : run notEnd u 0 ≠ 0 := by
            have h10 : notEnd u[0] = true := by
              have h3 := congrArg (fun s : ByteArray => s.data.toList) hpre.2
              simp only at h3
              rw [extL, List.drop_zero, show (0 + 2 - 0) = 2 from rfl] at h3
              have h4 : u.data.toList[0]'(by rw [len_list]; exact h0) = 47 := by
                have := congrArg (fun l => l[0]?) h3
                simp [List.getElem?_take, h0] at this
                simpa using this
              have h5 : u[0] = 47 := h4
              rw [h5]; rfl
            have := run_pos (f := notEnd) h0 h10
            omega
          have hpl := plain_i (u.extract 0 (run notEnd u 0)) hsz
          have htr := Trim.impl_Trimmed (u.extract 0 (run notEnd u 0)) (by omega)
          replace cF := Lib.hid cF
          replace cG := Lib.hid cG
          replace hpf := Lib.hid hpf
          replace hrun := Lib.hid hrun
          replace htr := Lib.hid htr
          replace hc := Lib.hid hc
          replace hpre := Lib.hid hpre
          replace hF := Lib.hid hF
          replace hG := Lib.hid hG
          clear h39
          cases hp : plain (u.extract 0 (run notEnd u 0))
          · rw [hp] at hpl hN
            replace hpl := Lib.hid hpl
            rw [if_neg (by decide)] at hN
            rw [hN] at hv
            replace hN := Lib.hid hN
            replace hp := Lib.hid hp
            generalize u.extract 0 (run notEnd u 0) = x at *
            go_enter Tryd.func80, Tryd.ntmps80
            go_wp2_with (first | (go_at_call 106; refine (cF.out _).mono ?_; rintro e w1 ⟨rfl, rfl⟩) | (go_at_call 109; refine (cG.out _).mono ?_; rintro e w1 ⟨rfl, rfl⟩) | (go_at_call 111; refine (hpf.out _).mono ?_; rintro e w1 ⟨rfl, rfl⟩) | (go_at_call 107; refine (hrun.out _).mono ?_; rintro e w1 ⟨rfl, rfl⟩) | (go_at_call 37; refine (htr.out _).mono ?_; rintro e w1 ⟨rfl, rfl⟩) | (go_at_call 113; refine (hpl.out _).mono ?_; rintro e w1 ⟨rfl, rfl⟩))
            refine bodyPost_ret (results_tmp4 rfl _ _ _) rfl ?_
            exact ⟨_, _, _, by rw [hv.out]; rfl, by rw [hv.out]; intro h; exact absurd rfl h, Below.refl _ _⟩
          · rw [hp] at hpl hN
            replace hpl := Lib.hid hpl
            rw [if_pos rfl] at hN
            rw [hN, Nat.zero_add] at hv
            replace hN := Lib.hid hN
            replace hp := Lib.hid hp
            have hv2 := Lib.hid (show decide ((signU u h0).2.2 ≠ 0) = true by rw [hv.out]; simpa using hpos)
            replace hpos := Lib.hid hpos
            replace hzz := Lib.hid hzz
            generalize u.extract 0 (run notEnd u 0) = x at *
            go_enter Tryd.func80, Tryd.ntmps80
            go_wp2_with (first | (go_at_call 106; refine (cF.out _).mono ?_; rintro e w1 ⟨rfl, rfl⟩) | (go_at_call 109; refine (cG.out _).mono ?_; rintro e w1 ⟨rfl, rfl⟩) | (go_at_call 111; refine (hpf.out _).mono ?_; rintro e w1 ⟨rfl, rfl⟩) | (go_at_call 107; refine (hrun.out _).mono ?_; rintro e w1 ⟨rfl, rfl⟩) | (go_at_call 37; refine (htr.out _).mono ?_; rintro e w1 ⟨rfl, rfl⟩) | (go_at_call 113; refine (hpl.out _).mono ?_; rintro e w1 ⟨rfl, rfl⟩))
            refine bodyPost_ret (results_tmp4 rfl _ _ _) rfl ?_
            exact ⟨_, _, _, by rw [hv2.out]; rfl, by rw [hv.out]; intro _; exact ⟨rfl, rfl, by rw [hzz.out]⟩, Below.refl _ _⟩
        · -- a mark
          have hv := Lib.hid (show signU u h0 = (4, u.extract 0 (0 + markN u 0), markN u 0) by unfold signU signN; rw [hc, if_neg (by rw [hF]; decide), if_neg (by rw [hG]; decide), if_neg h39, if_neg hpre])
          have hpf := fun W => Tryd.strings_HasPrefix u ⟨#[47, 47]⟩ W
          rw [show Lib.hasPrefix u.data.toList (⟨#[47, 47]⟩ : ByteArray).data.toList = false from by rw [Bool.eq_false_iff]; exact fun h => hpre ((pre_two u).1 h)] at hpf
          have hmk := Lib.hid (fun n => Mark.impl_any (u.extract 0 n))
          replace cF := Lib.hid cF
          replace cG := Lib.hid cG
          replace hpf := Lib.hid hpf
          replace hc := Lib.hid hc
          replace hpre := Lib.hid hpre
          replace hF := Lib.hid hF
          replace hG := Lib.hid hG
          clear h39
          obtain ⟨m, hm, hmm⟩ : ∃ m : Nat, min (2 : Int) (u.size : Int) = (m : Int) ∧ ((m = 2 ∧ 2 ≤ u.size) ∨ (m = 1 ∧ ¬ 2 ≤ u.size)) := by
            by_cases h2 : 2 ≤ u.size
            · exact ⟨2, by omega, .inl ⟨rfl, h2⟩⟩
            · exact ⟨1, by omega, .inr ⟨rfl, h2⟩⟩
          go_enter Tryd.func80, Tryd.ntmps80
          go_wp2_with (first | (go_at_call 106; refine (cF.out _).mono ?_; rintro e w1 ⟨rfl, rfl⟩) | (go_at_call 109; refine (cG.out _).mono ?_; rintro e w1 ⟨rfl, rfl⟩) | (go_at_call 111; refine (hpf.out _).mono ?_; rintro e w1 ⟨rfl, rfl⟩))
          go_loop [12] (fun n => ∃ m : Nat, n = .int .i64 m ∧ ((m = 2 ∧ 2 ≤ u.size) ∨ (m = 1 ∧ ¬ (2 ≤ u.size ∧ mk (u.extract 0 2) = true)) ∨ (m = 0 ∧ markN u 0 = 0))) (fun n => (intOf n).toNat)
          case atStart =>
            refine ⟨m, rfl, ?_⟩
            rcases hmm with h | ⟨h1, h2⟩
            · exact .inl h
            · exact .inr (.inl ⟨h1, fun h => h2 h.1⟩)
          case round =>
            obtain ⟨j, rfl, hj⟩ := hrel
            rcases hj with ⟨rfl, h2⟩ | ⟨rfl, h2⟩ | ⟨rfl, hz⟩
            · have h2i : (2 : Int) ≤ (u.size : Int) := by omega
              have hmk2 := hmk.out 2
              cases hb : mk (u.extract 0 2)
              · rw [hb] at hmk2
                replace hmk2 := Lib.hid hmk2
                replace hb := Lib.hid hb
                go_wp2_with (go_at_call 56; refine (hmk2.out _).mono ?_; rintro e w1 ⟨rfl, rfl⟩)
                exact ⟨⟨1, rfl, .inr (.inl ⟨rfl, fun h => by cases h.2⟩)⟩, by simp [intOf]⟩
              · have hN := Lib.hid (show markN u 0 = 2 by unfold markN; rw [if_pos ⟨by omega, hb⟩])
                rw [hb] at hmk2
                replace hmk2 := Lib.hid hmk2
                replace hb := Lib.hid hb
                go_wp2_with (go_at_call 56; refine (hmk2.out _).mono ?_; rintro e w1 ⟨rfl, rfl⟩)
                go_quiet (fail)
                go_wp2
                refine bodyPost_ret (results_tmp4 rfl _ _ _) rfl ?_
                exact ⟨_, _, _, by rw [hv.out, hN.out]; rfl, by rw [hv.out, hN.out]; intro _; exact ⟨rfl, rfl, rfl⟩, Mix.to_drewN _ _ _⟩
            · have h1i : (1 : Int) ≤ (u.size : Int) := by omega
              have hmk1 := hmk.out 1
              cases hb : mk (u.extract 0 1)
              · have hN := Lib.hid (show markN u 0 = 0 by unfold markN; rw [if_neg (fun h => h2 ⟨by omega, h.2⟩), if_neg (by rw [hb]; decide)])
                rw [hb] at hmk1
                replace hmk1 := Lib.hid hmk1
                replace hb := Lib.hid hb
                go_wp2_with (go_at_call 56; refine (hmk1.out _).mono ?_; rintro e w1 ⟨rfl, rfl⟩)
                exact ⟨⟨0, rfl, .inr (.inr ⟨rfl, hN.out⟩)⟩, by simp [intOf]⟩
              · have hN := Lib.hid (show markN u 0 = 1 by unfold markN; rw [if_neg (fun h => h2 ⟨by omega, h.2⟩), if_pos hb])
                rw [hb] at hmk1
                replace hmk1 := Lib.hid hmk1
                replace hb := Lib.hid hb
                go_wp2_with (go_at_call 56; refine (hmk1.out _).mono ?_; rintro e w1 ⟨rfl, rfl⟩)
                go_quiet (fail)
                go_wp2
                refine bodyPost_ret (results_tmp4 rfl _ _ _) rfl ?_
                exact ⟨_, _, _, by rw [hv.out, hN.out]; rfl, by rw [hv.out, hN.out]; intro _; exact ⟨rfl, rfl, rfl⟩, Mix.to_drewN _ _ _⟩
            · replace hz := Lib.hid hz
              go_wp2
              refine bodyPost_ret (results_tmp4 rfl _ _ _) rfl ?_
              exact ⟨_, _, _, by rw [hv.out, hz.out]; rfl, by rw [hv.out, hz.out]; intro h; exact absurd rfl h, Below.refl _ _⟩
    · -- a number
      rw [hG] at cG
      have hrun := runOf_fig u hs
      have hzz : (u.extract 0 (run isFig u 0)).size = run isFig u 0 := by
        have := run_le isFig u 0 (Nat.zero_le _)
        rw [ByteArray.size_extract]; omega
      have hpos := run_pos (f := isFig) h0 (by rw [hc]; exact hG)
      have hle := run_le isFig u 0 (Nat.zero_le _)
      have hv := Lib.hid (show signU u h0 = if run isFig u 0 ≤ 12 then (2, u.extract 0 (run isFig u 0), run isFig u 0) else (0, ByteArray.empty, 0) by unfold signU signN; rw [hc, if_neg (by rw [hF]; decide), if_pos hG, Nat.zero_add])
      replace cF := Lib.hid cF
      replace cG := Lib.hid cG
      replace hrun := Lib.hid hrun
      replace hc := Lib.hid hc
      replace hF := Lib.hid hF
      replace hG := Lib.hid hG
      generalize run isFig u 0 = n at *
      by_cases h12 : n ≤ 12
      · rw [if_pos h12] at hv
        have d12 : decide ((n : Int) ≤ 12) = true := by simp; omega
        have hv2 := Lib.hid (show decide ((signU u h0).2.2 ≠ 0) = true by rw [hv.out]; simp; omega)
        generalize u.extract 0 n = x at *
        rw [← hzz] at d12
        replace hzz := Lib.hid hzz
        go_enter Tryd.func80, Tryd.ntmps80
        go_wp2_with (first | (go_at_call 106; refine (cF.out _).mono ?_; rintro e w1 ⟨rfl, rfl⟩) | (go_at_call 109; refine (cG.out _).mono ?_; rintro e w1 ⟨rfl, rfl⟩) | (go_at_call 107; refine (hrun.out _).mono ?_; rintro e w1 ⟨rfl, rfl⟩))
        refine bodyPost_ret (results_tmp4 rfl _ _ _) rfl ?_
        exact ⟨_, _, _, by rw [hv2.out]; rfl, by rw [hv.out]; intro _; exact ⟨rfl, rfl, by rw [hzz.out]⟩, Below.refl _ _⟩
      · rw [if_neg h12] at hv
        have d12 : decide ((n : Int) ≤ 12) = false := by simp; omega
        generalize u.extract 0 n = x at *
        rw [← hzz] at d12
        have hxb : x.size ≤ 1048576 := by omega
        replace hzz := Lib.hid hzz
        go_enter Tryd.func80, Tryd.ntmps80
        go_wp2_with (first | (go_at_call 106; refine (cF.out _).mono ?_; rintro e w1 ⟨rfl, rfl⟩) | (go_at_call 109; refine (cG.out _).mono ?_; rintro e w1 ⟨rfl, rfl⟩) | (go_at_call 107; refine (hrun.out _).mono ?_; rintro e w1 ⟨rfl, rfl⟩))
        refine bodyPost_ret (results_tmp4 rfl _ _ _) rfl ?_
        exact ⟨_, _, _, by rw [hv.out]; rfl, by rw [hv.out]; intro h; exact absurd rfl h, Below.refl _ _⟩
  · -- a name
    rw [hF] at cF
    have hrun := runOf_inn u hs
    have hzz : (u.extract 0 (run isInn u 0)).size = run isInn u 0 := by
      have := run_le isInn u 0 (Nat.zero_le _)
      rw [ByteArray.size_extract]; omega
    have hpos := run_pos (f := isInn) h0 (by rw [hc]; unfold isInn; rw [hF]; rfl)
    have hle := run_le isInn u 0 (Nat.zero_le _)
    have hv := Lib.hid (show signU u h0 = if run isInn u 0 ≤ 30 then (1, u.extract 0 (run isInn u 0), run isInn u 0) else (0, ByteArray.empty, 0) by unfold signU signN; rw [hc, if_pos hF, Nat.zero_add])
    replace cF := Lib.hid cF
    replace hrun := Lib.hid hrun
    replace hc := Lib.hid hc
    replace hF := Lib.hid hF
    clear cG
    generalize run isInn u 0 = n at *
    by_cases h12 : n ≤ 30
    · rw [if_pos h12] at hv
      have d12 : decide ((n : Int) ≤ 30) = true := by simp; omega
      have hv2 := Lib.hid (show decide ((signU u h0).2.2 ≠ 0) = true by rw [hv.out]; simp; omega)
      generalize u.extract 0 n = x at *
      rw [← hzz] at d12
      replace hzz := Lib.hid hzz
      go_enter Tryd.func80, Tryd.ntmps80
      go_wp2_with (first | (go_at_call 106; refine (cF.out _).mono ?_; rintro e w1 ⟨rfl, rfl⟩) | (go_at_call 107; refine (hrun.out _).mono ?_; rintro e w1 ⟨rfl, rfl⟩))
      refine bodyPost_ret (results_tmp4 rfl _ _ _) rfl ?_
      exact ⟨_, _, _, by rw [hv2.out]; rfl, by rw [hv.out]; intro _; exact ⟨rfl, rfl, by rw [hzz.out]⟩, Below.refl _ _⟩
    · rw [if_neg h12] at hv
      have d12 : decide ((n : Int) ≤ 30) = false := by simp; omega
      generalize u.extract 0 n = x at *
      rw [← hzz] at d12
      have hxb : x.size ≤ 1048576 := by omega
      replace hzz := Lib.hid hzz
      go_enter Tryd.func80, Tryd.ntmps80
      go_wp2_with (first | (go_at_call 106; refine (cF.out _).mono ?_; rintro e w1 ⟨rfl, rfl⟩) | (go_at_call 107; refine (hrun.out _).mono ?_; rintro e w1 ⟨rfl, rfl⟩))
      refine bodyPost_ret (results_tmp4 rfl _ _ _) rfl ?_
      exact ⟨_, _, _, by rw [hv.out]; rfl, by rw [hv.out]; intro h; exact absurd rfl h, Below.refl _ _⟩
end Go.Proofs.YtklhfjeonhjobaaDoor.Scan
