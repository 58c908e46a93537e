/-
  The contract of impl.ReadVar at a place in the text.
  Conditions: a text that can be read.
-/
import Derived.Test.YtklhfjeonhjobaaDoorVar
import Derived.Lib.Hide
namespace Go.Proofs.YtklhfjeonhjobaaDoor.Var
open Go.RowKit Go.Proofs.YtklhfjeonhjobaaDoor.Mem Go.Proofs.YtklhfjeonhjobaaDoor.VarMath Go.Proofs.YtklhfjeonhjobaaDoor.Mix
set_option maxRecDepth 100000 in
set_option maxHeartbeats 800000 in
theorem impl_rd (s : ByteArray) (hs : s.size ≤ 140737488351232) (a : Nat) (ha : a ≤ s.size) (w : World) :
    Calls Tryd.prog 22 #[.string s, .int .i64 a] w fun e w' => e = .returned (rvVal (rdv s a 5 0 0 1)) ∧ w = w' := by
  have d1 : decide ((a : Int) < 0) = false := by simp
  have d2 : decide (s.size < a) = false := by simp; omega
  go_enter Tryd.func22, Tryd.ntmps22
  go_wp2
  go_loop [7, 8, 9] (fun n u i => ∃ n' u' i' f : Nat, u' = 128 ^ i' ∧ i' + f = 5 ∧ n' ≤ i' * 34091302912 ∧ n = .int .i64 n' ∧ u = .int .i64 u' ∧ i = .int .i64 i' ∧ Hid (rdv s a 5 0 0 1 = rdv s a f i' n' u')) (fun _ _ i => (5 - intOf i).toNat)
  case atStart => exact ⟨0, 1, 0, 5, by simp, by omega, by omega, rfl, rfl, rfl, Lib.hid rfl⟩
  case round =>
    obtain ⟨n, u, i, f, hu, hf, hn, rfl, rfl, rfl, hr⟩ := hrel
    have hu' : u ≤ 34359738368 := by
      have : 128 ^ i ≤ 128 ^ 5 := Nat.pow_le_pow_right (by omega) (by omega)
      omega
    by_cases hi : i < 5
    · by_cases hlt : a + i < s.size
      · obtain ⟨h1, h2, h3, h4⟩ := add_bd (b := s[a + i].toNat) hu (by omega)
        replace h4 := Lib.hid h4
        have h5 := s[a + i].toNat_lt
        obtain ⟨f, rfl⟩ : ∃ g, f = g + 1 := ⟨f - 1, by omega⟩
        have hp : 128 ^ (i + 1) = u * 128 := by rw [hu, Nat.pow_succ]
        replace hp := Lib.hid hp
        replace hu := Lib.hid hu
        by_cases hb : 128 ≤ s[a + i].toNat
        · have hon := Lib.hid (rdv_on (f := f) (n := n) (u := u) hlt hb)
          go_wp2
          go_round
          case rel => exact ⟨n + s[a + i].toNat % 128 * u, u * 128, i + 1, f, hp.out.symm, by omega, by have := h4.out; omega, by have := h4.out; go_num, by go_num, by go_num, Lib.hid (by rw [hr.out, hon.out])⟩
          case measure => simp [intOf]; omega
        · have hb' : decide ((128 : Int) ≤ (s[a + i].toNat : Int)) = false := by simp; omega
          by_cases hz : s[a + i].toNat = 0
          · have hz1 : ((s[a + i].toNat : Int) == 0) = true := by simp; omega
            by_cases hi0 : 0 < i
            · have hno := Lib.hid (rdv_no (f := f) (n := n) (u := u) hlt hb (.inl ⟨hz, hi0⟩))
              replace hz := Lib.hid hz
              go_wp2
              go_ret3
              exact ⟨by rw [hr.out, hno.out]; rfl, rfl⟩
            · by_cases hm : 1000000000 < (n : Int) + (s[a + i].toNat : Int) % 128 * (u : Int)
              · have hno := Lib.hid (rdv_no (f := f) (n := n) (u := u) hlt hb (.inr (by have := h4.out; omega)))
                replace hz := Lib.hid hz
                go_wp2
                go_ret3
                exact ⟨by rw [hr.out, hno.out]; rfl, rfl⟩
              · have hyes := Lib.hid (rdv_yes (f := f) (n := n) (u := u) hlt hb (by have := h4.out; omega))
                replace hz := Lib.hid hz
                go_wp2
                go_ret3
                exact ⟨by rw [hr.out, hyes.out]; simp only [rvVal]; have := h4.out; congr 2 <;> first | omega | simp, rfl⟩
          · have hz1 : ((s[a + i].toNat : Int) == 0) = false := by simp; omega
            by_cases hm : 1000000000 < (n : Int) + (s[a + i].toNat : Int) % 128 * (u : Int)
            · have hno := Lib.hid (rdv_no (f := f) (n := n) (u := u) hlt hb (.inr (by have := h4.out; omega)))
              go_wp2
              go_ret3
              exact ⟨by rw [hr.out, hno.out]; rfl, rfl⟩
            · have hyes := Lib.hid (rdv_yes (f := f) (n := n) (u := u) hlt hb (by have := h4.out; omega))
              go_wp2
              go_ret3
              exact ⟨by rw [hr.out, hyes.out]; simp only [rvVal]; have := h4.out; congr 2 <;> first | omega | simp, rfl⟩
      · have hno := Lib.hid (rdv_end (f := f) (n := n) (u := u) hlt)
        go_wp2
        go_ret3
        exact ⟨by rw [hr.out, hno.out]; rfl, rfl⟩
    · obtain rfl : f = 0 := by omega
      go_wp2
      go_ret3
      exact ⟨by rw [hr.out]; rfl, rfl⟩
end Go.Proofs.YtklhfjeonhjobaaDoor.Var
