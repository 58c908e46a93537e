/-
  The contracts of ReadVar at every place, of ShortText and of ReadShort: of the program and of the reference.
  Conditions: a text that can be read.
-/
import Derived.Test.YtklhfjeonhjobaaDoorReadVarI
import Derived.Test.YtklhfjeonhjobaaDoorVar
import Derived.Lib.Hide
namespace Go.Proofs.YtklhfjeonhjobaaDoor.Var
open Go.RowKit Go.Proofs.YtklhfjeonhjobaaDoor.Mem Go.Proofs.YtklhfjeonhjobaaDoor.VarMath Go.Proofs.YtklhfjeonhjobaaDoor.Mix
theorem readVar_in {s : ByteArray} {a : Nat} (h : a ≤ s.size) : readVar s a = rdv s a 5 0 0 1 := by
  unfold readVar; rw [if_pos ⟨by omega, by omega⟩]; rfl
theorem readVar_out {s : ByteArray} {a : Int} (h : ¬ (0 ≤ a ∧ a ≤ s.size)) : readVar s a = none := by
  unfold readVar; rw [if_neg h]
theorem impl_ReadVar (s : ByteArray) (hs : s.size ≤ 140737488351232) (a : Int) (w : World) :
    Calls Tryd.prog 22 #[.string s, .int .i64 a] w fun e w' => e = .returned (rvVal (readVar s a)) ∧ Below w.heap.size w w' := by
  by_cases h0 : 0 ≤ a
  · by_cases h1 : a ≤ s.size
    · obtain ⟨k, rfl⟩ := Int.eq_ofNat_of_zero_le h0
      exact (impl_rd s hs k (by omega) w).mono fun e w' ⟨he, hw⟩ => ⟨by rw [he, readVar_in (by omega)], by rw [← hw]; exact Below.refl _ _⟩
    · have hv := Lib.hid (readVar_out (s := s) (a := a) (by omega))
      have d1 : decide (a < 0) = false := by simp; omega
      have d2 : decide ((s.size : Int) < a) = true := by simp; omega
      go_enter Tryd.func22, Tryd.ntmps22
      go_wp2
      go_ret3
      exact ⟨by rw [hv.out]; rfl, Below.refl _ _⟩
  · have hv := Lib.hid (readVar_out (s := s) (a := a) (by omega))
    have d1 : decide (a < 0) = true := by simp; omega
    go_enter Tryd.func22, Tryd.ntmps22
    go_wp2
    go_ret3
    exact ⟨by rw [hv.out]; rfl, Below.refl _ _⟩
/-- ShortText -/
def shortText (s : ByteArray) : ByteArray × Bool := if s.size ≤ 20000 then (text s.size ++ s, true) else (ByteArray.empty, false)
theorem impl_ShortText (s : ByteArray) (hs : s.size ≤ 140737488351232) (w : World) :
    Calls Tryd.prog 24 #[.string s] w fun e w' => e = .returned (strBool (shortText s)) ∧ Below w.heap.size w w' := by
  have ht := text_size s.size
  by_cases h : s.size ≤ 20000
  · have hv := Lib.hid (show shortText s = (text s.size ++ s, true) by unfold shortText; rw [if_pos h])
    go_enter Tryd.func24, Tryd.ntmps24
    go_wp2_with (go_at_call 64; refine (impl_var _ (by omega) _).mono ?_; rintro e w1 ⟨rfl, hb⟩)
    go_ret2
    exact ⟨by rw [hv.out]; rfl, hb⟩
  · have hv := Lib.hid (show shortText s = (ByteArray.empty, false) by unfold shortText; rw [if_neg h])
    go_enter Tryd.func24, Tryd.ntmps24
    go_wp2
    go_ret2
    exact ⟨by rw [hv.out]; rfl, Below.refl _ _⟩
/-- ReadShort -/
def readShort (s : ByteArray) (a : Int) : Value :=
  match readVar s a with
  | none => .tuple #[.string ByteArray.empty, .int .i64 0, .bool false]
  | some (m, k) => if m ≤ 20000 ∧ k + m ≤ s.size then .tuple #[.string (s.extract k (k + m)), .int .i64 ((k + m : Nat) : Int), .bool true] else .tuple #[.string ByteArray.empty, .int .i64 0, .bool false]
theorem impl_ReadShort (s : ByteArray) (hs : s.size ≤ 140737488351232) (a : Int) (w : World) :
    Calls Tryd.prog 25 #[.string s, .int .i64 a] w fun e w' => e = .returned (readShort s a) ∧ Below w.heap.size w w' := by
  have hc := impl_ReadVar s hs a
  rcases hr : readVar s a with _ | ⟨m, k⟩
  · have hv := Lib.hid (show readShort s a = .tuple #[.string ByteArray.empty, .int .i64 0, .bool false] by unfold readShort; rw [hr])
    rw [hr] at hc; replace hc := Lib.hid hc; clear hr
    go_enter Tryd.func25, Tryd.ntmps25
    go_wp2_with (go_at_call 22; refine (hc.out _).mono ?_; rintro e w1 ⟨rfl, hb⟩; unfold rvVal)
    go_ret3
    exact ⟨by rw [hv.out]; rfl, hb⟩
  · obtain ⟨h1, h2, h3, h4⟩ := readVar_lt hr
    rw [hr] at hc; replace hc := Lib.hid hc
    by_cases hm : m ≤ 20000
    · by_cases hk : k + m ≤ s.size
      · have hv := Lib.hid (show readShort s a = .tuple #[.string (s.extract k (k + m)), .int .i64 ((k + m : Nat) : Int), .bool true] by unfold readShort; rw [hr]; simp only [hm, hk, and_self, if_true])
        clear hr
        go_enter Tryd.func25, Tryd.ntmps25
        go_wp2_with (go_at_call 22; refine (hc.out _).mono ?_; rintro e w1 ⟨rfl, hb⟩; unfold rvVal)
        go_ret3
        exact ⟨by rw [hv.out]; congr 2, hb⟩
      · have hv := Lib.hid (show readShort s a = .tuple #[.string ByteArray.empty, .int .i64 0, .bool false] by unfold readShort; rw [hr]; simp only [hm, hk, and_false, if_false])
        clear hr
        go_enter Tryd.func25, Tryd.ntmps25
        go_wp2_with (go_at_call 22; refine (hc.out _).mono ?_; rintro e w1 ⟨rfl, hb⟩; unfold rvVal)
        go_ret3
        exact ⟨by rw [hv.out]; rfl, hb⟩
    · have hv := Lib.hid (show readShort s a = .tuple #[.string ByteArray.empty, .int .i64 0, .bool false] by unfold readShort; rw [hr]; simp only [hm, false_and, if_false])
      clear hr
      go_enter Tryd.func25, Tryd.ntmps25
      go_wp2_with (go_at_call 22; refine (hc.out _).mono ?_; rintro e w1 ⟨rfl, hb⟩; unfold rvVal)
      go_ret3
      exact ⟨by rw [hv.out]; rfl, hb⟩
end Go.Proofs.YtklhfjeonhjobaaDoor.Var
