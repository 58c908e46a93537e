/-
  Lists of states of a call's own, kept while others are written over; how many numbers a pushed or popped list has.
  Conditions: as stated.
-/
import Derived.Test.YtocplbhgklfgeaaHeaps8
import Derived.Test.YtocplbhgklfgeaaHeaps9
namespace Go.Proofs.Ytocplbhgklfgeaa.States
open Go.RowKit Go.Proofs.Ytocplbhgklfgeaa.Row Go.Proofs.Ytocplbhgklfgeaa.Mem Go.Proofs.Ytocplbhgklfgeaa.Mix Go.Proofs.Ytocplbhgklfgeaa.Ints Go.Proofs.Ytocplbhgklfgeaa.State Go.Proofs.Ytocplbhgklfgeaa.Recs Go.Proofs.Ytocplbhgklfgeaa.Owns Go.Proofs.Ytocplbhgklfgeaa.Blocks Go.Proofs.Ytocplbhgklfgeaa.Sift
/-- all blocks lie below B -/
def Lts (v : Value) (ys : List S) (B : Nat) : Prop := (∀ q, v.ownBlock = some q → q < B) ∧ ∀ y ∈ ys, ∀ q, y.v.ownBlock = some q → q < B
theorem HL.lts {w : World} {lo n : Nat} {v : Value} {ys : List S} (h : HL w lo v n ys) : Lts v ys w.heap.size := ⟨fun q hq => (h.row.lt q hq).2, fun y hy q hq => ((h.own.1 y hy).lt q hq).2⟩
theorem HL.betw_lo {w w' : World} {lo n a b : Nat} {v : Value} {ys : List S} (h : HL w lo v n ys) (hl : Lts v ys a) (k : Betw a b w w') : HL w' lo v n ys :=
  ⟨h.len, k.owns h.row (fun q hq => .inl (hl.1 q hq)), fun y hy => k.owns (h.own.1 y hy) (fun q hq => .inl (hl.2 y hy q hq)), h.own.2⟩
theorem HL.betw_hi {w w' : World} {lo n a b : Nat} {v : Value} {ys : List S} (h : HL w lo v n ys) (hb : b ≤ lo) (k : Betw a b w w') : HL w' lo v n ys :=
  ⟨h.len, k.owns h.row (fun q hq => .inr (Nat.le_trans hb (h.row.lt q hq).1)), fun y hy => k.owns (h.own.1 y hy) (fun q hq => .inr (Nat.le_trans hb ((h.own.1 y hy).lt q hq).1)), h.own.2⟩
theorem Lts.mono {v : Value} {ys : List S} {B B' : Nat} (h : Lts v ys B) (hB : B ≤ B') : Lts v ys B' := ⟨fun q hq => Nat.lt_of_lt_of_le (h.1 q hq) hB, fun y hy q hq => Nat.lt_of_lt_of_le (h.2 y hy q hq) hB⟩
/-- a copy as toStateS makes it -/
theorem hl_of {w : World} {g n : Nat} {v : Value} {ys : List S} (o : Own w v 31 2 g n (cs ys)) (hl : ys.length = n) (p : OwnS w (g + 1) ys) : HL w g v n ys := ⟨hl, own_owns o, p.mono (Nat.le_succ g)⟩
theorem betw_of {w w' : World} {a b : Nat} {row : Option Nat} (k : w.grownBy w' row) (h : ∀ q, row = some q → a ≤ q ∧ q < b) : Betw a b w w' := (Betw.refl a b w).grown k h
def totA (l : List A) : Nat := (l.map fun a => a.1.length).sum
theorem tot_abs (ys : List S) : tot ys = totA (ys.map S.abs) := by
  unfold tot totA
  rw [List.map_map]
  rfl
theorem totA_perm {l m : List A} (h : l.Perm m) : totA l = totA m := by
  unfold totA
  induction h with
  | nil => rfl
  | cons x _ ih => simp [ih]
  | swap x y l => simp; omega
  | trans _ _ ih1 ih2 => rw [ih1, ih2]
theorem upA_perm : ∀ (i : Nat) (l : List A), (upA l i).Perm l := by
  intro i
  induction i using Nat.strongRecOn with
  | _ i ih =>
    intro l
    by_cases h0 : 0 < i
    · cases h : lessAt l i ((i + 1) / 2 - 1) with
      | true => rw [upA_yes h0 h]; exact (ih _ (by omega) _).trans (swp_perm _ _ _)
      | false => rw [upA_no h]
    · obtain rfl : i = 0 := by omega
      rw [upA_zero]
theorem downA_perm : ∀ (m i : Nat) (l : List A), l.length - i ≤ m → (downA l i).Perm l := by
  intro m
  induction m with
  | zero =>
    intro i l h
    rw [downA_end (by omega)]
  | succ m ih =>
    intro i l h
    by_cases h1 : 2 * i + 1 < l.length
    · cases h2 : lessAt l (kidA l i) i with
      | true =>
        have hb := kidA_bd h1
        rw [downA_yes h1 h2]
        exact (ih _ _ (by rw [swp_len]; omega)).trans (swp_perm _ _ _)
      | false => rw [downA_no h2]
    · rw [downA_end h1]
theorem pushA_tot (l : List A) (x : A) : totA (pushA l x) = totA l + x.1.length ∧ (pushA l x).length = l.length + 1 := by
  have h := upA_perm l.length (l ++ [x])
  refine ⟨?_, ?_⟩
  · unfold pushA
    rw [totA_perm h]
    simp [totA]
  · unfold pushA
    rw [h.length_eq]
    simp
theorem totA_take (l : List A) (n : Nat) : totA (l.take n) ≤ totA l := by
  unfold totA
  induction l generalizing n with
  | nil => simp
  | cons a l ih => cases n with
    | zero => simp
    | succ n => have := ih n; simp only [List.take_succ_cons, List.map_cons, List.sum_cons]; omega
theorem totA_getD (l : List A) (i : Nat) : (l.getD i ([], 0)).1.length ≤ totA l := by
  induction l generalizing i with
  | nil => simp
  | cons a l ih =>
    simp only [totA, List.map_cons, List.sum_cons] at ih ⊢
    cases i with
    | zero => simp
    | succ i => have := ih i; simp only [List.getD_cons_succ]; omega
theorem totA_set (l : List A) (i : Nat) (x : A) : totA (l.set i x) ≤ totA l + x.1.length := by
  induction l generalizing i with
  | nil => simp [totA]
  | cons a l ih =>
    simp only [totA, List.map_cons, List.sum_cons] at ih ⊢
    cases i with
    | zero => simp; omega
    | succ i => have := ih i; simp only [List.set_cons_succ, List.map_cons, List.sum_cons]; omega
theorem poppedA_tot (l : List A) : totA (poppedA l).1 ≤ 2 * totA l ∧ (poppedA l).1.length ≤ l.length ∧ (poppedA l).2.1.length ≤ totA l := by
  unfold poppedA
  split
  · simp [totA]
  · refine ⟨?_, ?_, totA_getD l 0⟩
    · show totA (popA l) ≤ _
      unfold popA
      rw [totA_perm (downA_perm _ 0 _ (Nat.le_refl _))]
      have h1 := totA_take (l.set 0 (l.getD (l.length - 1) ([], 0))) (l.length - 1)
      have h2 := totA_set l 0 (l.getD (l.length - 1) ([], 0))
      have h3 := totA_getD l (l.length - 1)
      omega
    · show (popA l).length ≤ _
      unfold popA
      rw [(downA_perm _ 0 _ (Nat.le_refl _)).length_eq]
      simp
/-- a list and a state beside it, all of a call's own -/
structure PL (w : World) (lo : Nat) (v : Value) (m : Nat) (zs : List S) (y : S) : Prop where
  hl : HL w lo v m zs
  own : OwnS w lo (zs ++ [y])
theorem PL.below {w w' : World} {lo m : Nat} {v : Value} {zs : List S} {y : S} (h : PL w lo v m zs y) (k : Below w.heap.size w w') : PL w' lo v m zs y := ⟨h.hl.below k, h.own.below k⟩
theorem PL.row {w : World} {lo m : Nat} {v : Value} {zs : List S} {y : S} (h : PL w lo v m zs y) : w.ownsRow lo 3 1 y.v y.vals.length (ints y.vals) := h.own.1 y (List.mem_append_right _ (List.mem_singleton.2 rfl))
theorem PL.vrow {w : World} {lo m : Nat} {v : Value} {zs : List S} {y : S} (h : PL w lo v m zs y) : VRow w y := row_of_owns h.row
def Ltp (v : Value) (zs : List S) (y : S) (B : Nat) : Prop := Lts v (zs ++ [y]) B
theorem PL.ltp {w : World} {lo m : Nat} {v : Value} {zs : List S} {y : S} (h : PL w lo v m zs y) : Lts v (zs ++ [y]) w.heap.size := ⟨fun q hq => (h.hl.row.lt q hq).2, fun x hx q hq => ((h.own.1 x hx).lt q hq).2⟩
theorem PL.lts {v : Value} {zs : List S} {y : S} {B : Nat} (h : Lts v (zs ++ [y]) B) : Lts v zs B := ⟨h.1, fun x hx => h.2 x (List.mem_append_left _ hx)⟩
theorem PL.betw_lo {w w' : World} {lo m a b : Nat} {v : Value} {zs : List S} {y : S} (h : PL w lo v m zs y) (hl : Lts v (zs ++ [y]) a) (k : Betw a b w w') : PL w' lo v m zs y :=
  ⟨h.hl.betw_lo (PL.lts hl) k, fun x hx => k.owns (h.own.1 x hx) (fun q hq => .inl (hl.2 x hx q hq)), h.own.2⟩
theorem PL.betw_hi {w w' : World} {lo m a b : Nat} {v : Value} {zs : List S} {y : S} (h : PL w lo v m zs y) (hb : b ≤ lo) (k : Betw a b w w') : PL w' lo v m zs y :=
  ⟨h.hl.betw_hi hb k, fun x hx => k.owns (h.own.1 x hx) (fun q hq => .inr (Nat.le_trans hb ((h.own.1 x hx).lt q hq).1)), h.own.2⟩
theorem PL.apart {w : World} {lo m : Nat} {v : Value} {zs : List S} {y : S} (h : PL w lo v m zs y) : ∀ x ∈ zs, x.v.ownBlock = none ∨ x.v.ownBlock ≠ y.v.ownBlock := fun x hx => (List.pairwise_append.1 h.own.2).2.2 x hx y (List.mem_singleton.2 rfl)
/-- the state beside the list, kept while the list is written over -/
theorem PL.stays {w w' : World} {lo m : Nat} {v : Value} {zs : List S} {y : S} (h : PL w lo v m zs y) (k : Stays v zs w w') : w'.ownsRow lo 3 1 y.v y.vals.length (ints y.vals) :=
  owns_block h.row fun q hq => k q (h.row.lt q hq).2 (fun e => own_two h.hl.row h.row (by decide) q e hq) (fun x hx e => by
    rcases h.apart x hx with h0 | h0
    · rw [h0] at e; cases e
    · exact h0 (by rw [e, hq]))
theorem mkTo_v {k : Nat} {ys : List S} {j : Nat} {y : S} (h : y ∈ mkTo k ys j) : ∃ x ∈ ys, x.v = y.v := by
  obtain ⟨i, hi, rfl⟩ := List.getElem_of_mem h
  have hi2 : i < ys.length := by rw [mkTo_len] at hi; exact hi
  refine ⟨ys[i], List.getElem_mem hi2, ?_⟩
  rw [mkTo_at k ys j i hi2]
  split <;> rfl
/-- the list, kept while the state beside it is written over -/
theorem HL.beside {w w' : World} {lo n b m : Nat} {v yv : Value} {ys : List S} {us : List Value} (h : HL w lo v n ys) (ry : w.ownsRow b 3 1 yv m us) (k : w.grownBy w' yv.ownBlock) (d : ∀ x ∈ ys, x.v.ownBlock = none ∨ x.v.ownBlock ≠ yv.ownBlock) : HL w' lo v n ys :=
  ⟨h.len, owns_kept h.row k (fun q hq e => own_two h.row ry (by decide) q hq e), fun x hx => owns_kept (h.own.1 x hx) k (fun q hq e => by
    rcases d x hx with h0 | h0
    · rw [h0] at hq; cases hq
    · exact h0 (by rw [hq, e])), h.own.2⟩
end Go.Proofs.Ytocplbhgklfgeaa.States
