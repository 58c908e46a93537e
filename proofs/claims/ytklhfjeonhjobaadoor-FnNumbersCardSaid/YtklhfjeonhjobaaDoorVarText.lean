/-
  The text of a number's bytes, and what the reference asks when it has read one, in plain Lean.
  Conditions: as stated.
-/
import Derived.Test.YtklhfjeonhjobaaDoorVarMath
import Derived.Laws.BytesArg
import Derived.Lib.Strings
import Derived.Below
namespace Go.Proofs.YtklhfjeonhjobaaDoor.Var
open Go.RowKit Go.Proofs.YtklhfjeonhjobaaDoor.VarMath
/-- the bytes of a number -/
def text (n : Nat) : ByteArray := strOfNums (varB 4 n)
theorem text_size (n : Nat) : (text n).size ≤ 5 := by unfold text; rw [strOfNums_size]; exact varB_len 4 n
/-- what ReadVar hands back -/
def rvVal : Option (Nat × Nat) → Value
  | none => .tuple #[.int .i64 0, .int .i64 0, .bool false]
  | some (m, k) => .tuple #[.int .i64 m, .int .i64 k, .bool true]
/-- bounds on what a round adds -/
theorem add_bd {b u i : Nat} (hu : u = 128 ^ i) (hi : i ≤ 4) : u ≤ 268435456 ∧ 0 ≤ ((b : Int) % 128) * (u : Int) ∧ ((b : Int) % 128) * (u : Int) ≤ 34091302912 ∧ ((b : Int) % 128) * (u : Int) = ((b % 128 * u : Nat) : Int) := by
  have h1 : u ≤ 128 ^ 4 := by rw [hu]; exact Nat.pow_le_pow_right (by omega) hi
  have h2 : b % 128 * u ≤ 127 * 268435456 := Nat.mul_le_mul (by omega) (by omega)
  have h3 : ((b : Int) % 128) * (u : Int) = ((b % 128 * u : Nat) : Int) := by rw [Int.natCast_mul]; rfl
  refine ⟨by omega, by omega, by omega, h3⟩
/-- what the reference asks behind its last byte -/
theorem text_is {s : ByteArray} {a i : Nat} (hlt : a + i < s.size) (hi : i ≤ 4) (hall : ∀ c ∈ (s.data.toList.drop a).take i, 128 ≤ c.toNat) (hb : s[a + i].toNat < 128) :
    ((text (dec ((s.data.toList.drop a).take i) + s[a + i].toNat % 128 * 128 ^ i)).toList == (s.extract a (a + i + 1)).toList) = !(decide (s[a + i].toNat = 0) && decide (0 < i)) := by
  have hsz : s.data.toList.length = s.size := by simp
  have hl : ((s.data.toList.drop a).take i).length = i := by
    rw [List.length_take, List.length_drop]
    omega
  have hd := dec_snoc ((s.data.toList.drop a).take i) s[a + i]
  rw [hl] at hd
  have hx : (s.extract a (a + i + 1)).toList = (s.data.toList.drop a).take i ++ [s[a + i]] := by
    rw [Lib.extract_toList, show a + i + 1 - a = i + 1 from by omega, List.take_succ_eq_append_getElem (by rw [List.length_drop]; omega), List.getElem_drop]
    rfl
  have hv := varB_dec 4 ((s.data.toList.drop a).take i) s[a + i] (by omega) hall hb
  rw [hl] at hv
  have ht : (text (dec ((s.data.toList.drop a).take i ++ [s[a + i]]))).toList = (varB 4 (dec ((s.data.toList.drop a).take i ++ [s[a + i]]))).map fun n => UInt8.ofNat n.toNat := by
    rw [ByteArray.toList_eq]; exact strOfNums_data _
  rw [← hd, hx, ht, Bool.eq_iff_iff]
  simp only [beq_iff_eq, Bool.not_eq_true', Bool.and_eq_false_iff, decide_eq_false_iff_not]
  have back : ∀ l : List UInt8, (nums l).map (fun n => UInt8.ofNat n.toNat) = l := fun l => by
    induction l with
    | nil => rfl
    | cons b l ih =>
      simp only [nums, List.map_cons, List.map_map] at ih ⊢
      rw [ih]; simp
  have bytes : ∀ f n, ∀ x ∈ varB f n, 0 ≤ x ∧ (n < 128 ^ (f + 1) → x < 256) := by
    intro f
    induction f with
    | zero => intro n x hx; simp [varB] at hx; subst hx; exact ⟨by omega, fun h => by simp at h; omega⟩
    | succ f ih =>
      intro n x hx
      rw [varB] at hx
      split at hx
      · rcases List.mem_cons.1 hx with rfl | hx
        · exact ⟨by omega, fun _ => by omega⟩
        · have := ih (n / 128) x hx
          exact ⟨this.1, fun h => this.2 (by rw [Nat.div_lt_iff_lt_mul (by omega)]; rw [Nat.pow_succ] at h; exact h)⟩
      · simp at hx; subst hx; exact ⟨by omega, fun _ => by omega⟩
  constructor
  · intro h
    have h2 : varB 4 (dec ((s.data.toList.drop a).take i ++ [s[a + i]])) = nums ((s.data.toList.drop a).take i ++ [s[a + i]]) := by
      have hcg := congrArg nums h
      rw [← hcg]
      clear hcg
      unfold nums
      rw [List.map_map]
      have hlt5 : dec ((s.data.toList.drop a).take i ++ [s[a + i]]) < 128 ^ 5 := by
        have h3 := dec_lt ((s.data.toList.drop a).take i ++ [s[a + i]])
        have h4 : 128 ^ ((s.data.toList.drop a).take i ++ [s[a + i]]).length ≤ 128 ^ 5 := Nat.pow_le_pow_right (by omega) (by simp only [List.length_append, hl, List.length_singleton]; omega)
        omega
      refine (List.map_id _).symm.trans (List.map_congr_left fun x hx => ?_)
      have := bytes 4 _ x hx
      have h5 := this.2 hlt5
      simp only [id, Function.comp, UInt8.toNat_ofNat']
      omega
    have := hv.1 h2
    by_cases hz : s[a + i].toNat = 0
    · exact .inr fun h0 => this ⟨hz, h0⟩
    · exact .inl hz
  · intro h
    rw [hv.2 (by rintro ⟨h1, h2⟩; rcases h with h | h <;> contradiction), back]
end Go.Proofs.YtklhfjeonhjobaaDoor.Var
