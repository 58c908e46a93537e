/-
  Numbers in bytes, in plain Lean: the bytes of a number, reading them back, and that a reading is the number's own bytes just when it is no longer than need be.
  Conditions: as stated.
-/
namespace Go.Proofs.YtklhfjeonhjobaaDoor.VarMath
def varB : Nat → Nat → List Int
  | 0, n => [(n : Int)]
  | f + 1, n => if 127 < n then ((n : Int) % 128 + 128) :: varB f (n / 128) else [(n : Int)]
theorem varB_more {f m : Nat} (h : 127 < m) (hm : m < 128 ^ (f + 1)) : ∃ g, f = g + 1 ∧ m / 128 < 128 ^ (g + 1) ∧ varB f m = ((m : Int) % 128 + 128) :: varB g (m / 128) := by
  cases f with
  | zero => simp at hm; omega
  | succ g =>
    refine ⟨g, rfl, ?_, ?_⟩
    · rw [Nat.div_lt_iff_lt_mul (by omega)]; rw [Nat.pow_succ] at hm; exact hm
    · rw [varB, if_pos h]
theorem varB_last {f m : Nat} (h : ¬ 127 < m) : varB f m = [(m : Int)] := by
  cases f <;> simp [varB, h]
theorem varB_len : ∀ (f n : Nat), (varB f n).length ≤ f + 1
  | 0, n => by simp [varB]
  | f + 1, n => by
    rw [varB]
    split
    · have := varB_len f (n / 128); simp only [List.length_cons]; omega
    · simp

/-- what bytes come to, the lowest seven bits first -/
def dec : List UInt8 → Nat
  | [] => 0
  | b :: l => b.toNat % 128 + 128 * dec l
theorem dec_snoc (l : List UInt8) (b : UInt8) : dec (l ++ [b]) = dec l + b.toNat % 128 * 128 ^ l.length := by
  induction l with
  | nil => simp [dec]
  | cons c l ih =>
    simp only [List.cons_append, dec, ih, List.length_cons, Nat.pow_succ, Nat.mul_add, Nat.add_assoc]
    congr 2
    rw [Nat.mul_left_comm, Nat.mul_comm (128 ^ l.length)]
theorem dec_lt (l : List UInt8) : dec l < 128 ^ l.length := by
  induction l with
  | nil => simp [dec]
  | cons c l ih =>
    simp only [dec, List.length_cons, Nat.pow_succ]
    have := Nat.mod_lt c.toNat (show 0 < 128 by omega)
    omega
/-- the bytes as numbers -/
def nums (l : List UInt8) : List Int := l.map fun b => (b.toNat : Int)
theorem varB_dec : ∀ (f : Nat) (l : List UInt8) (b : UInt8), l.length ≤ f → (∀ c ∈ l, 128 ≤ c.toNat) → b.toNat < 128 →
    (varB f (dec (l ++ [b])) = nums (l ++ [b]) ↔ ¬ (b.toNat = 0 ∧ 0 < l.length))
  | f, [], b, _, _, hb => by
    have h : dec ([] ++ [b]) = b.toNat := by simp [dec]; omega
    rw [h, varB_last (by omega)]
    simp [nums]
  | 0, _ :: _, _, h, _, _ => by simp at h
  | f + 1, c :: l, b, hl, hc, hb => by
    have h1 := hc c (by simp)
    have h2 : c.toNat < 256 := c.toNat_lt
    have ih := varB_dec f l b (by simpa using hl) (fun x hx => hc x (by simp [hx])) hb
    have hd : dec ((c :: l) ++ [b]) = c.toNat % 128 + 128 * dec (l ++ [b]) := rfl
    have hq : (c.toNat % 128 + 128 * dec (l ++ [b])) / 128 = dec (l ++ [b]) := by omega
    have hr : (c.toNat % 128 + 128 * dec (l ++ [b])) % 128 = c.toNat - 128 := by omega
    by_cases h0 : dec (l ++ [b]) = 0
    · have hall : ∀ (l : List UInt8) (b : UInt8), b.toNat < 128 → dec (l ++ [b]) = 0 → b.toNat = 0 := by
        intro l
        induction l with
        | nil => intro b hb h; simp [dec] at h; omega
        | cons x l ih => intro b hb h; simp only [List.cons_append, dec] at h; exact ih b hb (by omega)
      have hbz := hall l b hb h0
      rw [hd, h0, varB, if_neg (by omega)]
      simp [nums, hbz]
    · have hlt : 127 < c.toNat % 128 + 128 * dec (l ++ [b]) := by omega
      rw [hd, varB, if_pos hlt, hq]
      have he : (((c.toNat % 128 + 128 * dec (l ++ [b]) : Nat) : Int) % 128 + 128) = (c.toNat : Int) := by omega
      rw [he]
      simp only [nums, List.cons_append, List.map_cons, List.cons.injEq, true_and] at ih ⊢
      rw [ih]
      simp only [List.length_cons]
      constructor
      · intro h ⟨hz, _⟩
        by_cases hl0 : l.length = 0
        · obtain rfl := List.eq_nil_of_length_eq_zero hl0
          simp [dec] at h0
          omega
        · exact h ⟨hz, by omega⟩
      · intro h ⟨hz, _⟩
        exact h ⟨hz, by omega⟩

/-- reading a number from a place on: how it goes on behind i bytes that came to n (u: what the next seven bits are worth) -/
def rdv (s : ByteArray) (at_ : Nat) : Nat → Nat → Nat → Nat → Option (Nat × Nat)
  | 0, _, _, _ => none
  | f + 1, i, n, u => if h : at_ + i < s.size then
      (if 128 ≤ s[at_ + i].toNat then rdv s at_ f (i + 1) (n + s[at_ + i].toNat % 128 * u) (u * 128)
       else if (s[at_ + i].toNat = 0 ∧ 0 < i) ∨ 1000000000 < n + s[at_ + i].toNat % 128 * u then none else some (n + s[at_ + i].toNat % 128 * u, at_ + i + 1))
      else none
/-- ReadVar -/
def readVar (s : ByteArray) (at_ : Int) : Option (Nat × Nat) := if 0 ≤ at_ ∧ at_ ≤ s.size then rdv s at_.toNat 5 0 0 1 else none
theorem rdv_end {s : ByteArray} {a f i n u : Nat} (h : ¬ a + i < s.size) : rdv s a f i n u = none := by cases f <;> simp [rdv, h]
theorem rdv_on {s : ByteArray} {a f i n u : Nat} (h : a + i < s.size) (hb : 128 ≤ s[a + i].toNat) : rdv s a (f + 1) i n u = rdv s a f (i + 1) (n + s[a + i].toNat % 128 * u) (u * 128) := by
  rw [rdv, dif_pos h, if_pos hb]
theorem rdv_no {s : ByteArray} {a f i n u : Nat} (h : a + i < s.size) (hb : ¬ 128 ≤ s[a + i].toNat) (hx : (s[a + i].toNat = 0 ∧ 0 < i) ∨ 1000000000 < n + s[a + i].toNat % 128 * u) : rdv s a (f + 1) i n u = none := by
  rw [rdv, dif_pos h, if_neg hb, if_pos hx]
theorem rdv_yes {s : ByteArray} {a f i n u : Nat} (h : a + i < s.size) (hb : ¬ 128 ≤ s[a + i].toNat) (hx : ¬ ((s[a + i].toNat = 0 ∧ 0 < i) ∨ 1000000000 < n + s[a + i].toNat % 128 * u)) :
    rdv s a (f + 1) i n u = some (n + s[a + i].toNat % 128 * u, a + i + 1) := by
  rw [rdv, dif_pos h, if_neg hb, if_neg hx]
theorem rdv_lt {s : ByteArray} : ∀ {f a i n u m k : Nat}, rdv s a f i n u = some (m, k) → m ≤ 1000000000 ∧ k ≤ s.size ∧ a < k
  | 0, _, _, _, _, _, _, h => by simp [rdv] at h
  | f + 1, a, i, n, u, m, k, h => by
    by_cases h1 : a + i < s.size
    · by_cases hb : 128 ≤ s[a + i].toNat
      · rw [rdv_on h1 hb] at h; exact rdv_lt h
      · by_cases hx : (s[a + i].toNat = 0 ∧ 0 < i) ∨ 1000000000 < n + s[a + i].toNat % 128 * u
        · rw [rdv_no h1 hb hx] at h; cases h
        · rw [rdv_yes h1 hb hx] at h
          simp only [Option.some.injEq, Prod.mk.injEq] at h
          omega
    · rw [rdv_end h1] at h; cases h
theorem readVar_lt {s : ByteArray} {a : Int} {m k : Nat} (h : readVar s a = some (m, k)) : m ≤ 1000000000 ∧ k ≤ s.size ∧ 0 ≤ a ∧ a.toNat < k := by
  unfold readVar at h
  split at h
  · have := rdv_lt h; rename_i h0; exact ⟨this.1, this.2.1, h0.1, this.2.2⟩
  · cases h
end Go.Proofs.YtklhfjeonhjobaaDoor.VarMath
