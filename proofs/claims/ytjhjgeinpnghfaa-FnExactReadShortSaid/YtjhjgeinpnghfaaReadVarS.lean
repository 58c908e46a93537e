/-
  The contract of spec.ReadVar at a place in the text.
  Conditions: a text that can be read.
-/
import Derived.Test.YtjhjgeinpnghfaaVar
import Derived.Lib.Hide
import Derived.Deep.QuietTactic
import Derived.BigQuiet
namespace Go.Proofs.Ytjhjgeinpnghfaa.Var
open Go.RowKit Go.Proofs.Ytjhjgeinpnghfaa.Mem Go.Proofs.Ytjhjgeinpnghfaa.VarMath Go.Proofs.Ytjhjgeinpnghfaa.Mix
set_option maxRecDepth 100000 in
set_option maxHeartbeats 800000 in
theorem spec_rd (s : ByteArray) (hs : s.size ≤ 140737488351232) (a : Nat) (ha : a ≤ s.size) (w : World) :
    Calls Try.prog 25 #[.string s, .int .i64 a] w fun e w' => e = .returned (rvVal (rdv s a 5 0 0 1)) ∧ Below w.heap.size w w' := by
  go_enter Try.func25, Try.ntmps25
  go_wp2_with (go_at_call 49; refine (in_yes _ _ _ (by omega) _).mono ?_; rintro e w1 ⟨rfl, rfl⟩)
  go_loop [7, 8, 9] (fun n u j => ∃ n' u' i' f : Nat, u' = 128 ^ i' ∧ i' + f = 5 ∧ n' ≤ i' * 34091302912 ∧ a + i' ≤ s.size ∧ n = .int .i64 n' ∧ u = .int .i64 u' ∧ j = .int .i64 ((a : Int) + (i' : Int)) ∧ Hid (rdv s a 5 0 0 1 = rdv s a f i' n' u') ∧ Hid (n' = dec ((s.data.toList.drop a).take i')) ∧ (∀ c ∈ (s.data.toList.drop a).take i', 128 ≤ c.toNat)) (fun _ _ j => (a + 5 - intOf j).toNat)
  case atStart => exact ⟨0, 1, 0, 5, by simp, by omega, by omega, by omega, rfl, rfl, by simp, Lib.hid rfl, Lib.hid (by simp [dec]), by simp⟩
  case round =>
    obtain ⟨n, u, i, f, hu, hf, hn, hai, rfl, rfl, rfl, hr, hdec, hall⟩ := hrel
    have hu' : u ≤ 34359738368 := by
      have : 128 ^ i ≤ 128 ^ 5 := Nat.pow_le_pow_right (by omega) (by omega)
      omega
    have hsz : s.data.toList.length = s.size := by simp
    replace hall := Lib.hid hall
    by_cases hlt : a + i < s.size
    · by_cases hi : i < 5
      · obtain ⟨h1, h2, h3, h4⟩ := add_bd (b := s[a + i].toNat) hu (by omega)
        replace h4 := Lib.hid h4
        have h5 := s[a + i].toNat_lt
        obtain ⟨f, rfl⟩ : ∃ g, f = g + 1 := ⟨f - 1, by omega⟩
        have hp : 128 ^ (i + 1) = u * 128 := by rw [hu, Nat.pow_succ]
        replace hp := Lib.hid hp
        have htk : (s.data.toList.drop a).take (i + 1) = (s.data.toList.drop a).take i ++ [s[a + i]] := by
          rw [List.take_succ_eq_append_getElem (by rw [List.length_drop]; omega), List.getElem_drop]; rfl
        replace htk := Lib.hid htk
        have hl : ((s.data.toList.drop a).take i).length = i := by rw [List.length_take, List.length_drop]; omega
        replace hl := Lib.hid hl
        by_cases hb : 128 ≤ s[a + i].toNat
        · have hon := Lib.hid (rdv_on (f := f) (n := n) (u := u) hlt hb)
          replace hu := Lib.hid hu
          clear hsz
          go_wp2
          go_round
          case rel =>
            refine ⟨n + s[a + i].toNat % 128 * u, u * 128, i + 1, f, hp.out.symm, by omega, by have := h4.out; omega, by omega, by have := h4.out; go_num, by go_num, by go_num, Lib.hid (by rw [hr.out, hon.out]), Lib.hid ?_, ?_⟩
            · rw [htk.out, dec_snoc, hl.out, ← hdec.out, hu.out]
            · rw [htk.out]; intro c hc
              rcases List.mem_append.1 hc with hc | hc
              · exact hall.out c hc
              · rw [List.mem_singleton.1 hc]; exact hb
          case measure => simp [intOf]; omega
        · have hteq := text_is hlt (by omega) hall.out (by omega)
          rw [← hdec.out, ← hu] at hteq
          replace hu := Lib.hid hu
          have hn4 : ((n + s[a + i].toNat % 128 * u : Nat) : Int) = (n : Int) + (s[a + i].toNat : Int) % 128 * (u : Int) := by have := h4.out; omega
          by_cases hm : 1000000000 < (n : Int) + (s[a + i].toNat : Int) % 128 * (u : Int)
          · have hno := Lib.hid (rdv_no (f := f) (n := n) (u := u) hlt hb (.inr (by omega)))
            have hm' : decide (1000000000 < (n : Int) + (s[a + i].toNat : Int) % 128 * (u : Int)) = true := by simpa using hm
            clear hteq hn4 hsz
            go_wp2
            go_quiet (fail)
            go_wp2
            go_ret3
            exact ⟨by rw [hr.out, hno.out]; rfl, to_drewN _ _ _⟩
          · have hm' : decide (1000000000 < (n : Int) + (s[a + i].toNat : Int) % 128 * (u : Int)) = false := by simpa using hm
            have hc := spec_var (n + s[a + i].toNat % 128 * u) (by omega)
            rw [hn4] at hc
            replace hc := Lib.hid hc
            have hi0 : (0 : Int) ≤ (a : Int) + (i : Int) := by omega
            have hi1 : (a : Int) ≤ (a : Int) + (i : Int) + 1 := by omega
            have hi2 : (a : Int) + (i : Int) + 1 ≤ (s.size : Int) := by omega
            have hi3 : IntKind.i64.wrap ((a : Int) + (i : Int) + 1) = (a : Int) + (i : Int) + 1 := IntWalk.i64_in _ (by omega)
            have hi4 : ((a : Int) + (i : Int) + 1).toNat = a + i + 1 := by omega
            by_cases hz : s[a + i].toNat = 0 ∧ 0 < i
            · have hno := Lib.hid (rdv_no (f := f) (n := n) (u := u) hlt hb (.inl hz))
              rw [decide_eq_true hz.1, decide_eq_true hz.2] at hteq
              replace hn4 := Lib.hid hn4
              replace hz := Lib.hid hz
              clear hsz
              go_wp2
              refine wp_region_below [(0, true), (1, true), (2, true), (3, true), (5, true), (6, true), (7, true), (8, true), (9, true), (4, false), (10, true), (11, true)] (by kernel_rfl) (by kernel_rfl) (fun d _ _ _ _ h => by cases d <;> exact h) ?_
              repeat
               (refine mix_still rfl (by rfl) ?_
                apply Exists.intro
                refine ⟨fun w' hS => ?_, ?_⟩
                · (have hS' := cells_of hS; clear hS; go_simp; (try go_bits); first | with_reducible rfl | (refine (if_pos ?_).trans ?_; omega; with_reducible rfl))
                (go_simp; (try go_bits)))
              refine mix_loud rfl (fun K hK => ?_)
              (go_simp; (try go_bits))
              refine (hc.out _).mono ?_
              rintro _ w1 ⟨rfl, hb1⟩
              replace hb1 := of_drew hb1
              refine hK _ _ (fun _ => hb1) ?_
              clear hK K
              (go_simp; (try go_bits))
              repeat
               (refine mix_still rfl (by rfl) ?_
                apply Exists.intro
                refine ⟨fun w' hS => ?_, ?_⟩
                · (have hS' := cells_of hS; clear hS; go_simp; (try go_bits); first | with_reducible rfl | (refine (if_pos ?_).trans ?_; omega; with_reducible rfl))
                (go_simp; (try go_bits)))
              refine mix_nil ?_
              go_wp2
              go_ret3
              exact ⟨by rw [hr.out, hno.out]; rfl, hb1⟩
            · have hyes := Lib.hid (rdv_yes (f := f) (n := n) (u := u) hlt hb (by omega))
              have hz' : (decide (s[a + i].toNat = 0) && decide (0 < i)) = false := by simpa using hz
              rw [hz'] at hteq
              replace hn4 := Lib.hid hn4
              replace hz := Lib.hid hz
              clear hsz hz'
              go_wp2
              refine wp_region_below [(0, true), (1, true), (2, true), (3, true), (5, true), (6, true), (7, true), (8, true), (9, true), (4, false), (10, true), (11, true)] (by kernel_rfl) (by kernel_rfl) (fun d _ _ _ _ h => by cases d <;> exact h) ?_
              repeat
               (refine mix_still rfl (by rfl) ?_
                apply Exists.intro
                refine ⟨fun w' hS => ?_, ?_⟩
                · (have hS' := cells_of hS; clear hS; go_simp; (try go_bits); first | with_reducible rfl | (refine (if_pos ?_).trans ?_; omega; with_reducible rfl))
                (go_simp; (try go_bits)))
              refine mix_loud rfl (fun K hK => ?_)
              (go_simp; (try go_bits))
              refine (hc.out _).mono ?_
              rintro _ w1 ⟨rfl, hb1⟩
              replace hb1 := of_drew hb1
              refine hK _ _ (fun _ => hb1) ?_
              clear hK K
              (go_simp; (try go_bits))
              repeat
               (refine mix_still rfl (by rfl) ?_
                apply Exists.intro
                refine ⟨fun w' hS => ?_, ?_⟩
                · (have hS' := cells_of hS; clear hS; go_simp; (try go_bits); first | with_reducible rfl | (refine (if_pos ?_).trans ?_; omega; with_reducible rfl))
                (go_simp; (try go_bits)))
              refine mix_nil ?_
              go_wp2
              go_ret3
              exact ⟨by rw [hr.out, hyes.out]; simp only [rvVal]; have := hn4.out; congr 2 <;> first | omega | simp, hb1⟩
      · obtain rfl : f = 0 := by omega
        have hi5 : decide ((a : Int) + (i : Int) < (a : Int) + 5) = false := by simp; omega
        go_wp2
        go_ret3
        exact ⟨by rw [hr.out]; rfl, Below.refl _ _⟩
    · have hno := Lib.hid (rdv_end (f := f) (n := n) (u := u) hlt)
      have hi5 : decide ((a : Int) + (i : Int) < (s.size : Int)) = false := by simp; omega
      go_wp2
      go_ret3
      exact ⟨by rw [hr.out, hno.out]; rfl, Below.refl _ _⟩
end Go.Proofs.Ytjhjgeinpnghfaa.Var
