/-
  The contracts of impl.quoted and impl.signAt: the sign that a text begins with.
  Conditions: a text of 1 to 2^20 bytes.
-/
import Derived.Test.YtklhfjeonhjobaaDoorLex
import Derived.Lib.MinMax
namespace Go.Proofs.YtklhfjeonhjobaaDoor.Scan
open Go.RowKit
theorem toL {a b : ByteArray} (h : a.data.toList = b.data.toList) : a = b := ByteArray.ext (Array.toList_inj.1 h)
theorem extL (s : ByteArray) (a b : Nat) : (s.extract a b).data.toList = (s.data.toList.drop a).take (b - a) := by
  rw [ByteArray.data_extract, Array.toList_extract, List.extract_eq_take_drop]
theorem idx_run : ∀ l : List UInt8, (Lib.indexByte l 39 = -1 ∧ (l.takeWhile fun b => b != 39).length = l.length) ∨ (Lib.indexByte l 39 = ((l.takeWhile fun b => b != 39).length : Nat) ∧ (l.takeWhile fun b => b != 39).length < l.length)
  | [] => .inl ⟨rfl, rfl⟩
  | b :: l => by
    by_cases hb : b = 39
    · subst hb
      exact .inr ⟨by simp [Lib.indexByte], by simp⟩
    · have h1 : (b == 39) = false := beq_eq_false_iff_ne.2 hb
      have h2 : (b != 39) = true := by rw [bne_iff_ne]; exact hb
      rw [List.takeWhile_cons, if_pos h2]
      rcases idx_run l with ⟨h, h3⟩ | ⟨h, h3⟩
      · exact .inl ⟨by rw [Lib.indexByte, h1, h]; rfl, by simp [h3]⟩
      · refine .inr ⟨?_, by simpa using h3⟩
        have h4 : ((((l.takeWhile fun b => b != 39).length : Nat) : Int) == -1) = false := beq_eq_false_iff_ne.2 (by omega)
        rw [Lib.indexByte, h1, h, h4, List.length_cons]
        simp
abbrev quoR (u : ByteArray) : Nat := run (fun b => b != 39) u 1
theorem quo_idx {u : ByteArray} (h : 1 ≤ u.size) : (Lib.indexByte (u.extract 1 u.size).data.toList 39 = -1 ∧ ¬ 1 + quoR u < u.size) ∨ (Lib.indexByte (u.extract 1 u.size).data.toList 39 = (quoR u : Int) ∧ 1 + quoR u < u.size) := by
  have hl := len_list u
  have e : (u.extract 1 u.size).data.toList = u.data.toList.drop 1 := by rw [extL, List.take_of_length_le (by rw [List.length_drop]; omega)]
  have hd : (u.data.toList.drop 1).length = u.size - 1 := by rw [List.length_drop]; omega
  rw [e]
  unfold quoR run
  rcases idx_run (u.data.toList.drop 1) with ⟨h1, h2⟩ | ⟨h1, h2⟩
  · exact .inl ⟨h1, by omega⟩
  · exact .inr ⟨h1, by omega⟩
set_option maxHeartbeats 800000 in
theorem quoted_i (u : ByteArray) (h0 : 0 < u.size) (hs : u.size ≤ 1048576) (w : World) : Calls Tryd.prog 110 #[.string u] w fun e w' =>
    e = .returned (.tuple #[.string (if 1 + quoR u < u.size then u.extract 0 (quoR u + 2) else ByteArray.empty), .bool (decide (1 + quoR u < u.size) && plain (u.extract 0 (quoR u + 2)))]) ∧ w = w' := by
  have hix := Tryd.strings_IndexByte (u.extract 1 u.size) 39 w
  rw [show (39 : Int).toNat.toUInt8 = 39 from rfl] at hix
  rcases quo_idx (u := u) h0 with ⟨h1, h2⟩ | ⟨h1, h2⟩
  · rw [h1] at hix
    rw [if_neg h2, decide_eq_false h2]
    replace hix := Lib.hid hix
    replace h1 := Lib.hid h1
    go_enter Tryd.func110, Tryd.ntmps110
    go_wp2_with fail
    refine hix.out.mono ?_
    rintro e w1 ⟨rfl, rfl⟩
    go_wp2
    go_ret2
    exact ⟨rfl, rfl⟩
  · rw [h1] at hix
    rw [if_pos h2, decide_eq_true h2]
    have hz : (u.extract 0 (quoR u + 2)).size ≤ 1048576 := by rw [ByteArray.size_extract]; omega
    have hp := Lib.hid (plain_i (u.extract 0 (quoR u + 2)) hz)
    generalize plain (u.extract 0 (quoR u + 2)) = pb at *
    replace hix := Lib.hid hix
    replace h1 := Lib.hid h1
    generalize quoR u = q at *
    have hq : q + 2 ≤ u.size := by omega
    have hqb : q ≤ 1048576 := by omega
    go_enter Tryd.func110, Tryd.ntmps110
    go_wp2_with fail
    refine hix.out.mono ?_
    rintro e w1 ⟨rfl, rfl⟩
    go_wp2_with fail
    refine (hp.out _).mono ?_
    rintro e w2 ⟨rfl, rfl⟩
    go_wp2
    go_ret2
    exact ⟨by simp, rfl⟩
end Go.Proofs.YtklhfjeonhjobaaDoor.Scan
