/-
  Signs read from a text, in plain Lean: runs of bytes, a sign at a place, all signs.
  Conditions: none.
-/
import Derived.Test.YtklhfjeonhjobaaDoorSign
import Derived.Test.YtklhfjeonhjobaaDoorMark
import Derived.Test.YtklhfjeonhjobaaDoorTrim
namespace Go.Proofs.YtklhfjeonhjobaaDoor.Scan
open Go.RowKit
open Go.Proofs.YtklhfjeonhjobaaDoor.Sign (Sign)
open Go.Proofs.YtklhfjeonhjobaaDoor.Mark (mk)

def isFig (b : UInt8) : Bool := decide (48 ≤ b.toNat) && decide (b.toNat ≤ 57)
def isFst (b : UInt8) : Bool := (decide (97 ≤ b.toNat) && decide (b.toNat ≤ 122)) || ((decide (65 ≤ b.toNat) && decide (b.toNat ≤ 90)) || b.toNat == 95)
def isInn (b : UInt8) : Bool := isFst b || isFig b
def isPl (b : UInt8) : Bool := decide (32 ≤ b.toNat) && decide (b.toNat ≤ 126)
def plain (s : ByteArray) : Bool := s.data.toList.all isPl
/-- how many bytes from a place on are wanted -/
def run (f : UInt8 → Bool) (t : ByteArray) (a : Nat) : Nat := ((t.data.toList.drop a).takeWhile f).length
theorem len_list (s : ByteArray) : s.data.toList.length = s.size := by simp
theorem takeWhile_split {f : UInt8 → Bool} : ∀ (l m : List UInt8), (∀ x ∈ l, f x = true) → (m = [] ∨ ∃ c r, m = c :: r ∧ f c = false) → (l ++ m).takeWhile f = l
  | [], m, _, h => by
    rcases h with rfl | ⟨c, r, rfl, h⟩
    · rfl
    · simp [h]
  | b :: l, m, hl, h => by
    rw [List.cons_append, List.takeWhile_cons, if_pos (hl b (by simp)), takeWhile_split l m (fun x hx => hl x (by simp [hx])) h]
theorem run_end {f : UInt8 → Bool} {t : ByteArray} {a n : Nat} (h0 : a ≤ n) (hn : n ≤ t.size) (hall : ∀ i, a ≤ i → i < n → ∀ h : i < t.size, f t[i] = true) (hend : ∀ h : n < t.size, f t[n] = false) : run f t a = n - a := by
  have hl := len_list t
  unfold run
  have hs : t.data.toList.drop a = (t.data.toList.drop a).take (n - a) ++ t.data.toList.drop n := by
    have e1 : (t.data.toList.drop a).drop (n - a) = t.data.toList.drop n := by rw [List.drop_drop]; congr 1; omega
    conv => lhs; rw [← List.take_append_drop (n - a) (t.data.toList.drop a), e1]
  rw [hs, takeWhile_split]
  · rw [List.length_take, List.length_drop]; omega
  · intro x hx
    obtain ⟨i, hi, rfl⟩ := List.mem_iff_getElem.1 hx
    simp only [List.length_take, List.length_drop] at hi
    rw [List.getElem_take, List.getElem_drop]
    exact hall (a + i) (by omega) (by omega) (by omega)
  · by_cases h : n < t.size
    · exact .inr ⟨t[n], t.data.toList.drop (n + 1), by rw [List.drop_eq_getElem_cons (by omega)]; rfl, hend h⟩
    · exact .inl (List.drop_of_length_le (by omega))
theorem run_le (f : UInt8 → Bool) (t : ByteArray) (a : Nat) (ha : a ≤ t.size) : a + run f t a ≤ t.size := by
  have hl := len_list t
  have := (List.takeWhile_sublist f (l := t.data.toList.drop a)).length_le
  unfold run
  rw [List.length_drop] at this
  omega
theorem run_pos {f : UInt8 → Bool} {t : ByteArray} {a : Nat} (ha : a < t.size) (hf : f t[a] = true) : 1 ≤ run f t a := by
  unfold run
  rw [List.drop_eq_getElem_cons (show a < t.data.toList.length by rw [len_list]; exact ha)]
  have : f (t.data.toList[a]'(by rw [len_list]; exact ha)) = true := hf
  rw [List.takeWhile_cons, if_pos this]
  simp
/-- the mark at a place -/
def markN (t : ByteArray) (a : Nat) : Nat := if a + 2 ≤ t.size ∧ mk (t.extract a (a + 2)) = true then 2 else if mk (t.extract a (a + 1)) = true then 1 else 0
/-- the text in quotes at a place -/
def quoN (t : ByteArray) (a : Nat) : Nat :=
  let q := run (fun b => b != 39) t (a + 1)
  if a + 1 + q < t.size ∧ plain (t.extract a (a + q + 2)) = true then q + 2 else 0
/-- the note at a place -/
def noteN (t : ByteArray) (a : Nat) : Nat :=
  let n := run (fun b => b != 10) t a
  if plain (t.extract a (a + n)) = true then n else 0
/-- the sign at a place: its kind, its text, how long it is; 0: none -/
def signN (t : ByteArray) (a : Nat) (c : UInt8) : Int × ByteArray × Nat :=
  if isFst c = true then (if run isInn t a ≤ 30 then (1, t.extract a (a + run isInn t a), run isInn t a) else (0, ByteArray.empty, 0))
  else if isFig c = true then (if run isFig t a ≤ 12 then (2, t.extract a (a + run isFig t a), run isFig t a) else (0, ByteArray.empty, 0))
  else if c = 39 then (3, t.extract a (a + quoN t a), quoN t a)
  else if a + 2 ≤ t.size ∧ t.extract a (a + 2) = ⟨#[47, 47]⟩ then (5, Trim.trimmed (t.extract a (a + noteN t a)), noteN t a)
  else (4, t.extract a (a + markN t a), markN t a)
/-- all signs from a place on, behind those that are read already; br: line ends since the last one -/
def scan (t : ByteArray) (a br : Nat) (xs : List Sign) : List Sign × Nat × Bool :=
  if h : a < t.size then
    if t[a] = 32 then scan t (a + 1) br xs
    else if t[a] = 10 then scan t (a + 1) (br + 1) xs
    else if h0 : (signN t a t[a]).2.2 = 0 then ([], a, false)
    else scan t (a + (signN t a t[a]).2.2) 0 (xs ++ [⟨(signN t a t[a]).1, (signN t a t[a]).2.1, a, decide (1 < br)⟩])
  else (xs, 0, true)
termination_by t.size - a
decreasing_by all_goals omega
def signsOf (t : ByteArray) : List Sign × Nat × Bool := if t.size ≤ 3000 then scan t 0 0 [] else ([], 3000, false)
theorem scan_blank {t : ByteArray} {a br : Nat} {xs : List Sign} (h : a < t.size) (hc : t[a] = 32) : scan t a br xs = scan t (a + 1) br xs := by
  rw [scan, dif_pos h, if_pos hc]
theorem scan_line {t : ByteArray} {a br : Nat} {xs : List Sign} (h : a < t.size) (hc : t[a] = 10) : scan t a br xs = scan t (a + 1) (br + 1) xs := by
  rw [scan, dif_pos h, if_neg (by rw [hc]; decide), if_pos hc]
theorem scan_none {t : ByteArray} {a br : Nat} {xs : List Sign} (h : a < t.size) (h1 : t[a] ≠ 32) (h2 : t[a] ≠ 10) (h0 : (signN t a t[a]).2.2 = 0) : scan t a br xs = ([], a, false) := by
  rw [scan, dif_pos h, if_neg h1, if_neg h2, dif_pos h0]
theorem scan_sign {t : ByteArray} {a br : Nat} {xs : List Sign} (h : a < t.size) (h1 : t[a] ≠ 32) (h2 : t[a] ≠ 10) (h0 : (signN t a t[a]).2.2 ≠ 0) :
    scan t a br xs = scan t (a + (signN t a t[a]).2.2) 0 (xs ++ [⟨(signN t a t[a]).1, (signN t a t[a]).2.1, a, decide (1 < br)⟩]) := by
  rw [scan, dif_pos h, if_neg h1, if_neg h2, dif_neg h0]
theorem scan_end {t : ByteArray} {a br : Nat} {xs : List Sign} (h : ¬ a < t.size) : scan t a br xs = (xs, 0, true) := by
  rw [scan, dif_neg h]
end Go.Proofs.YtklhfjeonhjobaaDoor.Scan
