/-
  Slices of a call's own, written in place: what stays, what is then read; small words on sizes.
  Conditions: none.
-/
import Derived.Test.YtlakellmdcdaaaaRow
import Derived.Test.YtlakellmdcdaaaaMem
namespace Go.Proofs.Ytlakellmdcdaaaa.Owns
open Go.RowKit Go.Proofs.Ytlakellmdcdaaaa.Row Go.Proofs.Ytlakellmdcdaaaa.Mem
theorem take_eq {α : Type} {xs ys : List α} {k : Nat} (h1 : k < xs.length) (h2 : k < ys.length) (h : xs.take k = ys.take k) (he : xs[k] = ys[k]) : xs.take (k + 1) = ys.take (k + 1) := by
  rw [List.take_succ_eq_append_getElem h1, List.take_succ_eq_append_getElem h2, h, he]
theorem get_eq {α : Type} {xs ys : List α} (h : xs = ys) {k : Nat} (h1 : k < xs.length) (h2 : k < ys.length) : xs[k] = ys[k] := by subst h; rfl
def szi (n : Nat) (left : Int) : Int := if (n : Int) ≤ left then left - n else -1
theorem szi_cases (n : Nat) (left : Int) (h0 : 0 ≤ left) : (∃ r : Int, szi n left = r ∧ 0 ≤ r ∧ r ≤ left ∧ (n : Int) ≤ left) ∨ szi n left = -1 := by
  unfold szi
  split
  · exact .inl ⟨_, rfl, by omega, by omega, by omega⟩
  · exact .inr rfl
/-- as append_new, the place of the new block in the walk's own words -/
theorem append_at {P : Program} {t e : TypeId} {z : Value} {size bytes : Nat} (E : Elem P t e z size bytes) {w0 W : World} {v : Value} {n : Nat} {xs : List Value} (hown : W.ownsRow w0.heap.size e size v n xs)
    (hb : Below w0.heap.size w0 W) (g : Nat) (hg : W.heap.size = g) (news : List Value) (m : Nat) (hl : news.length = m * size) (h1 : ∀ u ∈ news, u.oneCell' = true) (h63 : n + m ≤ maxLen) (hbytes : (n + m) * bytes ≤ 140737488355328) :
    ∃ v' w', (Builtin.append_ #[t, t] t #[v, .slice (some ⟨g, 0, none⟩) m m]).run P (W.alloc (.cells news.toArray e)) = .ok v' w' ∧ w'.ownsRow w0.heap.size e size v' (n + m) (xs ++ news) ∧
      Below w0.heap.size w0 w' ∧ W.grownBy w' v.ownBlock ∧ (v'.ownBlock = v.ownBlock ∨ v'.ownBlock = some (g + 1)) := by
  subst hg
  exact append_new E hown hb news m hl h1 h63 hbytes
section
variable {w w' : World} {v : Value} {e size g n cap k base : Nat} {cs : List Value}
theorem owns_fill (h : w.ownsRow base e size v n cs) :
    (n = 0 ∧ v = .slice none 0 0 ∧ cs = []) ∨ ∃ g cap, v = .slice (some ⟨g, 0, none⟩) n cap ∧ base ≤ g ∧ n ≤ cap ∧ cap ≤ maxLen ∧ Fill w g e size cap 0 [] := by
  obtain ⟨hl, h2⟩ := h
  rcases h2 with ⟨rfl, rfl⟩ | ⟨g, cap, cur, rfl, hb, hg, hnc, hcm, hcs, ht⟩
  · exact .inl ⟨rfl, rfl, List.eq_nil_of_length_eq_zero (by simpa using hl)⟩
  · exact .inr ⟨g, cap, rfl, hb, hnc, hcm, cur, hg, hcs, by simp, by omega, by simp⟩
theorem owns_of_fill {pre : List Value} (hf : Fill w g e size cap n pre) (hg : base ≤ g) (hnc : n ≤ cap) (hcm : cap ≤ maxLen) : w.ownsRow base e size (.slice (some ⟨g, 0, none⟩) n cap) n pre := by
  obtain ⟨arr, h1, h2, h3, h4, h5⟩ := hf
  exact ⟨h3, .inr ⟨g, cap, arr, rfl, hg, h1, hnc, hcm, h2, h5⟩⟩
theorem grown_setAll : ∀ (us : List Value) {a w : World} (o : Nat), a.grownBy w (some g) → a.grownBy (setAll w g o us) (some g)
  | [], _, _, _, h => h
  | u :: us, a, w, o, h => grown_setAll us (o + 1) ⟨h.os, h.tape, h.output, by simpa [World.setCell] using h.size, fun i hi hn => (Below.heap_setCell w ⟨g, o, none⟩ u i (fun e => hn (by rw [e]))).trans (h.block i hi hn)⟩
theorem grown_below {a w w' : World} (h : a.grownBy w (some g)) (k : Below w.heap.size w w') : a.grownBy w' (some g) :=
  ⟨k.os.trans h.os, k.tape.trans h.tape, k.output.trans h.output, Nat.le_trans h.size k.size, fun i hi hn => (k.block i (Nat.lt_of_lt_of_le hi h.size)).trans (h.block i hi hn)⟩
theorem grown_drew {a w : World} (h : a.grownBy w (some g)) : a.grownBy w.drew (some g) := ⟨h.os, h.tape, h.output, h.size, h.block⟩
theorem own_owns (h : Own w v e size g n cs) : w.ownsRow g e size v n cs := by
  obtain ⟨rfl, h1, h2, h3⟩ := h
  exact ⟨h1, .inr ⟨g, n, cs.toArray, rfl, Nat.le_refl _, h3, Nat.le_refl _, by simp only [maxLen]; omega, by simpa using h1, by simp [← h1]⟩⟩
/-- what is written lies in another block -/
theorem owns_kept {row : Option Nat} (h : w.ownsRow base e size v n cs) (k : w.grownBy w' row) (hne : ∀ q, v.ownBlock = some q → row ≠ some q) : w'.ownsRow base e size v n cs :=
  h.kept k (by
    cases hv : v.ownBlock with
    | none => simp
    | some q => exact .inr (fun e => hne q hv e.symm))
theorem grown_size {row : Option Nat} (k : w.grownBy w' row) : w.heap.size ≤ w'.heap.size := k.size
theorem owns_block (h : w.ownsRow base e size v n cs) (hb : ∀ q, v.ownBlock = some q → w'.heap[q]? = w.heap[q]?) : w'.ownsRow base e size v n cs := by
  obtain ⟨hl, h2⟩ := h
  refine ⟨hl, ?_⟩
  rcases h2 with h2 | ⟨g, cap, cur, rfl, hg, hq, r⟩
  · exact .inl h2
  · exact .inr ⟨g, cap, cur, rfl, hg, (hb g rfl).trans hq, r⟩
/-- blocks from lo on and below hi may be written, new ones may come -/
def Betw (lo hi : Nat) (w w' : World) : Prop := w'.os = w.os ∧ w'.tape = w.tape ∧ w'.output = w.output ∧ w.heap.size ≤ w'.heap.size ∧ ∀ b, b < w.heap.size → (b < lo ∨ hi ≤ b) → w'.heap[b]? = w.heap[b]?
theorem Betw.refl (lo hi : Nat) (w : World) : Betw lo hi w w := ⟨rfl, rfl, rfl, Nat.le_refl _, fun _ _ _ => rfl⟩
theorem Betw.below {lo hi : Nat} {a : World} (h : Betw lo hi a w) (k : Below w.heap.size w w') : Betw lo hi a w' :=
  ⟨k.os.trans h.1, k.tape.trans h.2.1, k.output.trans h.2.2.1, Nat.le_trans h.2.2.2.1 k.size, fun b hb hn => (k.block b (Nat.lt_of_lt_of_le hb h.2.2.2.1)).trans (h.2.2.2.2 b hb hn)⟩
theorem Betw.grown {lo hi : Nat} {a : World} {row : Option Nat} (h : Betw lo hi a w) (k : w.grownBy w' row) (hr : ∀ q, row = some q → lo ≤ q ∧ q < hi) : Betw lo hi a w' :=
  ⟨k.os.trans h.1, k.tape.trans h.2.1, k.output.trans h.2.2.1, Nat.le_trans h.2.2.2.1 k.size, fun b hb hn => (k.block b (Nat.lt_of_lt_of_le hb h.2.2.2.1) (fun e => by have := hr b e.symm; omega)).trans (h.2.2.2.2 b hb hn)⟩
theorem Betw.trans {lo hi : Nat} {a : World} (h : Betw lo hi a w) (k : Betw lo hi w w') : Betw lo hi a w' :=
  ⟨k.1.trans h.1, k.2.1.trans h.2.1, k.2.2.1.trans h.2.2.1, Nat.le_trans h.2.2.2.1 k.2.2.2.1, fun b hb hn => (k.2.2.2.2 b (Nat.lt_of_lt_of_le hb h.2.2.2.1) hn).trans (h.2.2.2.2 b hb hn)⟩
theorem Betw.to_below {lo hi B : Nat} {a : World} (h : Below B a w) (k : Betw lo hi w w') (hl : B ≤ lo) (hB : B ≤ w.heap.size) : Below B a w' :=
  h.trans ⟨k.1, k.2.1, k.2.2.1, k.2.2.2.1, fun b hb => k.2.2.2.2 b (by omega) (.inl (by omega))⟩
theorem Betw.owns {lo hi : Nat} (k : Betw lo hi w w') (h : w.ownsRow base e size v n cs) (hn : ∀ q, v.ownBlock = some q → q < lo ∨ hi ≤ q) : w'.ownsRow base e size v n cs :=
  owns_block h fun q hq => k.2.2.2.2 q (h.lt q hq).2 (hn q hq)
theorem Betw.blk {lo hi : Nat} {o : Obj} (k : Betw lo hi w w') (h : w.heap[g]? = some o) (hn : g < lo ∨ hi ≤ g) : w'.heap[g]? = some o :=
  (k.2.2.2.2 g (Array.getElem?_eq_some_iff.1 h).1 hn).trans h
/-- block g, of 'all' cells, holds in its first m cells these -/
def FillC (w : World) (g e all m : Nat) (pre : List Value) : Prop :=
  ∃ arr : Array Value, w.heap[g]? = some (.cells arr e (0, 0)) ∧ arr.size = all ∧ pre.length = m ∧ m ≤ all ∧ arr.toList.take m = pre
theorem FillC.lt {all m : Nat} {pre : List Value} (h : FillC w g e all m pre) : g < w.heap.size := by
  obtain ⟨arr, h1, _⟩ := h
  exact (Array.getElem?_eq_some_iff.1 h1).1
theorem FillC.cell {all m : Nat} {pre : List Value} (h : FillC w g e all m pre) {j : Nat} (hj : j < all) : ∃ u, w.cell? ⟨g, j, none⟩ = some u := by
  obtain ⟨arr, h1, h2, _⟩ := h
  exact ⟨arr[j]'(by omega), by rw [cell_of_row w g j arr e (0, 0) h1]; exact Array.getElem?_eq_getElem _⟩
theorem FillC.frozen {all m : Nat} {pre : List Value} (h : FillC w g e all m pre) (j : Nat) : w.frozen? ⟨g, j, none⟩ = false := by
  obtain ⟨arr, h1, _⟩ := h
  simp [World.frozen?, h1]
theorem FillC.below {all m : Nat} {pre : List Value} (h : FillC w g e all m pre) (hb : Below w.heap.size w w') : FillC w' g e all m pre := by
  have := h.lt
  obtain ⟨arr, h1, h2⟩ := h
  exact ⟨arr, (hb.block g this).trans h1, h2⟩
theorem FillC.put {all m : Nat} {pre : List Value} (h : FillC w g e all m pre) (hm : m < all) (u : Value) : FillC (w.setCell ⟨g, m, none⟩ u) g e all (m + 1) (pre ++ [u]) := by
  obtain ⟨arr, h1, h2, h3, h4, h5⟩ := h
  refine ⟨_, heap_set h1 m u, by simpa using h2, by simp [h3], hm, ?_⟩
  rw [Array.toList_setIfInBounds, List.take_succ_eq_append_getElem (by simp; omega)]
  simp [List.take_set_of_le, h5]
theorem fillC_of {pre : List Value} (h : Fill w g e size cap k pre) : FillC w g e (cap * size) (k * size) pre := by
  obtain ⟨arr, h1, h2, h3, h4, h5⟩ := h
  exact ⟨arr, h1, h2, h3, Nat.mul_le_mul h4 (Nat.le_refl _), h5⟩
theorem fill_of {pre : List Value} {m : Nat} (h : FillC w g e (cap * size) m pre) (hm : m = k * size) (hk : k ≤ cap) : Fill w g e size cap k pre := by
  subst hm
  obtain ⟨arr, h1, h2, h3, h4, h5⟩ := h
  exact ⟨arr, h1, h2, h3, hk, h5⟩
theorem grown_set {a w : World} (h : a.grownBy w (some g)) (o : Nat) (u : Value) : a.grownBy (w.setCell ⟨g, o, none⟩ u) (some g) := grown_setAll [u] o h
end
end Go.Proofs.Ytlakellmdcdaaaa.Owns
