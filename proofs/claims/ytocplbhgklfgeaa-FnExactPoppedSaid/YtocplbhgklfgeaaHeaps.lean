/-
  A list of states of a call's own: two of them change places; one more is appended.
  Conditions: as stated.
-/
import Derived.Test.YtocplbhgklfgeaaStates
import Derived.Test.YtocplbhgklfgeaaBlocks
import Derived.Test.YtocplbhgklfgeaaOwnSet
import Derived.Test.YtocplbhgklfgeaaSift
namespace Go.Proofs.Ytocplbhgklfgeaa.States
open Go.RowKit Go.Proofs.Ytocplbhgklfgeaa.Row Go.Proofs.Ytocplbhgklfgeaa.Mem Go.Proofs.Ytocplbhgklfgeaa.Mix Go.Proofs.Ytocplbhgklfgeaa.Ints Go.Proofs.Ytocplbhgklfgeaa.State Go.Proofs.Ytocplbhgklfgeaa.Recs Go.Proofs.Ytocplbhgklfgeaa.Owns Go.Proofs.Ytocplbhgklfgeaa.Blocks Go.Proofs.Ytocplbhgklfgeaa.Sift
theorem own_ne {w : World} {b e e2 size n q : Nat} {v : Value} {xs : List Value} {arr : Array Value} {fr : Nat × Nat} (h : w.ownsRow b e size v n xs) (hq : w.heap[q]? = some (.cells arr e2 fr)) (hne : e ≠ e2) : v.ownBlock ≠ some q := by
  intro hv
  rcases h.2 with ⟨rfl, _⟩ | ⟨g, cap, cur, rfl, hb, hg, _⟩
  · cases hv
  · have hv : g = q := by injection hv
    subst hv
    rw [hq] at hg
    injection hg with hg
    injection hg with _ hg
    exact hne hg.symm
theorem own_two {w : World} {b1 b2 e1 e2 z1 z2 n1 n2 : Nat} {v1 v2 : Value} {xs ys : List Value} (h1 : w.ownsRow b1 e1 z1 v1 n1 xs) (h2 : w.ownsRow b2 e2 z2 v2 n2 ys) (hne : e1 ≠ e2) : ∀ q, v1.ownBlock = some q → v2.ownBlock ≠ some q := by
  intro q hq
  rcases h1.2 with ⟨rfl, _⟩ | ⟨g, cap, cur, rfl, hb, hg, _⟩
  · cases hq
  · injection hq with hq
    subst hq
    exact own_ne h2 hg (fun e => hne e.symm)
theorem own_empty (w : World) (e : TypeId) (size : Nat) : (w.alloc (.cells #[] e)).ownsRow w.heap.size e size (.slice (some ⟨w.heap.size, 0, none⟩) 0 0) 0 [] :=
  ⟨by simp, .inr ⟨w.heap.size, 0, #[], rfl, Nat.le_refl _, heap_alloc_new w _, by omega, by simp [maxLen], by simp, by simp⟩⟩
theorem owns_some {w : World} {base e size n : Nat} {v : Value} {cs : List Value} (h : w.ownsRow base e size v n cs) (hn : 0 < n) : ∃ q cap, v = .slice (some ⟨q, 0, none⟩) n cap ∧ base ≤ q ∧ n ≤ cap ∧ cap ≤ maxLen := by
  rcases h.2 with ⟨_, h0⟩ | ⟨q, cap, cur, rfl, hb, hq, hnc, hcm, _⟩
  · omega
  · exact ⟨q, cap, rfl, hb, hnc, hcm⟩
/-- the block of a row -/
theorem owns_blk {w : World} {base e size n q cap : Nat} {cs : List Value} (h : w.ownsRow base e size (.slice (some ⟨q, 0, none⟩) n cap) n cs) : ∃ cur, w.heap[q]? = some (.cells cur e (0, 0)) ∧ n * size ≤ cur.size ∧ base ≤ q := by
  rcases h.2 with ⟨h0, _⟩ | ⟨q', cap', cur, hv, hb, hq, hnc, hcm, hcs, _⟩
  · cases h0
  · cases hv
    exact ⟨cur, hq, by rw [hcs]; exact Nat.mul_le_mul hnc (Nat.le_refl _), hb⟩
/-- a cell of an owned row written -/
theorem owns_setz {w : World} {e g n cap base size : Nat} {cs : List Value} (h : w.ownsRow base e size (.slice (some ⟨g, 0, none⟩) n cap) n cs) (j : Nat) (u : Value) :
    (w.setCell ⟨g, j, none⟩ u).ownsRow base e size (.slice (some ⟨g, 0, none⟩) n cap) n (cs.set j u) := by
  obtain ⟨hl, h2⟩ := h
  refine ⟨by simpa using hl, ?_⟩
  rcases h2 with ⟨h0, _⟩ | ⟨g', cap', cur, hv, hb, hg, hnc, hcm, hcs, ht⟩
  · cases h0
  · cases hv
    refine .inr ⟨g, cap, _, rfl, hb, heap_set hg j u, hnc, hcm, by simpa using hcs, ?_⟩
    rw [Array.toList_setIfInBounds, List.take_set, ht]
/-- a cell of a row of records written: one record is another -/
theorem flat_set {α : Type} {f : α → List Value} {s : Nat} (hf : ∀ x, (f x).length = s) : ∀ (xs : List α) (i j : Nat) (u : Value) (y : α) (hi : i < xs.length), j < s → (f xs[i]).set j u = f y → (xs.flatMap f).set (i * s + j) u = (xs.set i y).flatMap f
  | [], _, _, _, _, hi, _, _ => absurd hi (Nat.not_lt_zero _)
  | x :: xs, 0, j, u, y, _, hj, h => by
    rw [List.flatMap_cons, Nat.zero_mul, Nat.zero_add, List.set_append_left _ _ (by rw [hf]; exact hj), List.set_cons_zero, List.flatMap_cons]
    rw [show (f x).set j u = f y from h]
  | x :: xs, i + 1, j, u, y, hi, hj, h => by
    rw [List.flatMap_cons, Nat.add_mul, Nat.one_mul, List.set_append_right _ _ (by rw [hf]; omega), hf, show i * s + s + j - s = i * s + j from by omega, flat_set hf xs i j u y (by simpa using hi) hj h, List.set_cons_succ, List.flatMap_cons]
/-- a state of an owned row written -/
theorem set_rec {w : World} {base q n cap : Nat} {ys : List S} (h : w.ownsRow base 31 2 (.slice (some ⟨q, 0, none⟩) n cap) n (cs ys)) {i : Nat} (hi : i < ys.length) (y : S) :
    ((w.setCell ⟨q, i * 2, none⟩ y.v).setCell ⟨q, i * 2 + 1, none⟩ (.int .i64 y.sum)).ownsRow base 31 2 (.slice (some ⟨q, 0, none⟩) n cap) n (cs (ys.set i y)) := by
  have h1 := owns_setz (owns_setz h (i * 2) y.v) (i * 2 + 1) (.int .i64 y.sum)
  have e1 : (cs ys).set (i * 2) y.v = cs (ys.set i ⟨y.v, y.vals, ys[i].sum⟩) := flat_set cells_len ys i 0 y.v ⟨y.v, y.vals, ys[i].sum⟩ hi (by omega) rfl
  have e2 : (cs (ys.set i ⟨y.v, y.vals, ys[i].sum⟩)).set (i * 2 + 1) (.int .i64 y.sum) = cs ((ys.set i ⟨y.v, y.vals, ys[i].sum⟩).set i y) :=
    flat_set cells_len (ys.set i ⟨y.v, y.vals, ys[i].sum⟩) i 1 (.int .i64 y.sum) y (by simpa using hi) (by omega) (by rw [List.getElem_set_self]; rfl)
  rw [e1, e2, List.set_set] at h1
  exact h1
theorem OwnS.perm {w : World} {lo : Nat} {ys zs : List S} (h : OwnS w lo ys) (p : zs.Perm ys) : OwnS w lo zs :=
  ⟨fun y hy => h.1 y (p.mem_iff.1 hy), (p.pairwise_iff (fun {a b} hab => by
    rcases hab with h0 | h0
    · by_cases hb : b.v.ownBlock = none
      · exact .inl hb
      · exact .inr (by rw [h0]; exact hb)
    · exact .inr (fun e => h0 e.symm))).2 h.2⟩
/-- what is written is no block of numbers -/
theorem OwnS.grown {w w' : World} {lo q : Nat} {ys : List S} {arr : Array Value} {fr : Nat × Nat} (h : OwnS w lo ys) (k : w.grownBy w' (some q)) (hq : w.heap[q]? = some (.cells arr 31 fr)) : OwnS w' lo ys :=
  ⟨fun y hy => owns_kept (h.1 y hy) k (fun q' hq' e => by injection e with e; subst e; exact own_ne (h.1 y hy) hq (by decide) hq'), h.2⟩
structure HL (w : World) (lo : Nat) (v : Value) (n : Nat) (ys : List S) : Prop where
  len : ys.length = n
  row : w.ownsRow lo 31 2 v n (cs ys)
  own : OwnS w lo ys
theorem HL.below {w w' : World} {lo n : Nat} {v : Value} {ys : List S} (h : HL w lo v n ys) (hb : Below w.heap.size w w') : HL w' lo v n ys := ⟨h.len, own_below h.row hb, h.own.below hb⟩
theorem OwnS.mono {w : World} {lo lo' : Nat} {ys : List S} (h : OwnS w lo ys) (hl : lo' ≤ lo) : OwnS w lo' ys := ⟨fun y hy => own_mono (h.1 y hy) hl, h.2⟩
theorem HL.mono {w : World} {lo lo' n : Nat} {v : Value} {ys : List S} (h : HL w lo v n ys) (hl : lo' ≤ lo) : HL w lo' v n ys := ⟨h.len, own_mono h.row hl, h.own.mono hl⟩
theorem HL.srow {w : World} {lo n : Nat} {v : Value} {ys : List S} (h : HL w lo v n ys) : SRow w v ys := ⟨by rw [h.len]; exact row_of_owns h.row, h.own.rows⟩
theorem HL.cells {w : World} {lo n q cap : Nat} {ys : List S} (h : HL w lo (.slice (some ⟨q, 0, none⟩) n cap) n ys) {i : Nat} (hi : i < ys.length) {a : S} (ha : ys[i] = a) :
    w.cell? ⟨q, i * 2, none⟩ = some a.v ∧ w.cell? ⟨q, i * 2 + 1, none⟩ = some (.int .i64 a.sum) := by
  obtain ⟨A, c, e1, -, -, -, -, hc⟩ := row_of_owns h.row
  cases e1
  have := h.len
  obtain ⟨b, off, e2, -, hc⟩ := hc (by omega)
  cases e2
  have := cells_ hc hi
  rw [Nat.zero_add] at this
  rw [ha] at this
  exact this
theorem HL.swap {w : World} {lo n q cap : Nat} {ys : List S} (h : HL w lo (.slice (some ⟨q, 0, none⟩) n cap) n ys) {i j : Nat} (hi : i < ys.length) (hj : j < ys.length) {a b : S} (ha : ys[i] = a) (hb : ys[j] = b) :
    HL ((((w.setCell ⟨q, i * 2, none⟩ b.v).setCell ⟨q, i * 2 + 1, none⟩ (.int .i64 b.sum)).setCell ⟨q, j * 2, none⟩ a.v).setCell ⟨q, j * 2 + 1, none⟩ (.int .i64 a.sum)) lo (.slice (some ⟨q, 0, none⟩) n cap) n (swp ys i j) := by
  obtain ⟨cur, hq, -, -⟩ := owns_blk h.row
  have k : w.grownBy ((((w.setCell ⟨q, i * 2, none⟩ b.v).setCell ⟨q, i * 2 + 1, none⟩ (.int .i64 b.sum)).setCell ⟨q, j * 2, none⟩ a.v).setCell ⟨q, j * 2 + 1, none⟩ (.int .i64 a.sum)) (some q) :=
    grown_set (grown_set (grown_set (grown_set (World.grownBy.refl w _) _ _) _ _) _ _) _ _
  refine ⟨by rw [swp_len]; exact h.len, ?_, (h.own.grown k hq).perm (swp_perm ys i j)⟩
  rw [swp_eq hi hj, ha, hb]
  exact set_rec (set_rec h.row hi b) (by simpa using hj) a
theorem HL.q {w : World} {lo n q cap : Nat} {ys : List S} (h : HL w lo (.slice (some ⟨q, 0, none⟩) n cap) n ys) : lo ≤ q ∧ q < w.heap.size ∧ ∀ j, w.frozen? ⟨q, j, none⟩ = false := by
  obtain ⟨cur, hq, -, hb⟩ := owns_blk h.row
  exact ⟨hb, blk_lt hq, frz hq⟩
theorem below_swap {B : Nat} {w0 w : World} (h : Below B w0 w) {q : Nat} (hq : B ≤ q) (i j : Nat) (a b c d : Value) : Below B w0 ((((w.setCell ⟨q, i * 2, none⟩ a).setCell ⟨q, i * 2 + 1, none⟩ b).setCell ⟨q, j * 2, none⟩ c).setCell ⟨q, j * 2 + 1, none⟩ d) :=
  (((h.setCell (p := ⟨q, i * 2, none⟩) hq _).setCell (p := ⟨q, i * 2 + 1, none⟩) hq _).setCell (p := ⟨q, j * 2, none⟩) hq _).setCell (p := ⟨q, j * 2 + 1, none⟩) hq _
theorem lit {w : World} {x : S} (h : VRow w x) : ∃ A l, x.v = .slice A x.vals.length l := by obtain ⟨A, l, h, -⟩ := h; exact ⟨A, l, h⟩
theorem less_at {ys : List S} {i j : Nat} (hi : i < ys.length) (hj : j < ys.length) {a b : S} (ha : ys[i] = a) (hb : ys[j] = b) : lessAt (ys.map S.abs) i j = lessState a.vals b.vals a.sum b.sum := by
  subst ha hb
  unfold lessAt Sift.lessA
  rw [abs_getD hi, abs_getD hj]
/-- one more -/
theorem HL.push {w0 W : World} {n : Nat} {v : Value} {ys : List S} {x : S} (h : HL W w0.heap.size v n ys) (hB : Below w0.heap.size w0 W) (hx : W.ownsRow w0.heap.size 3 1 x.v x.vals.length (ints x.vals))
    (hd : ∀ y ∈ ys, y.v.ownBlock = none ∨ y.v.ownBlock ≠ x.v.ownBlock) (hn : n ≤ 1099511627776) (g : Nat) (hg : W.heap.size = g) (ho : x.v.oneCell' = true) :
    ∃ q cap w', (Builtin.append_ #[28, 28] 28 #[v, .slice (some ⟨g, 0, none⟩) 1 1]).run Try.prog (W.alloc (.cells #[x.v, .int .i64 x.sum] 31)) = .ok (.slice (some ⟨q, 0, none⟩) (n + 1) cap) w' ∧
      HL w' w0.heap.size (.slice (some ⟨q, 0, none⟩) (n + 1) cap) (n + 1) (ys ++ [x]) ∧ Below w0.heap.size w0 w' ∧ W.grownBy w' v.ownBlock := by
  obtain ⟨v', w', hrun, hown', hb', hgr, -⟩ := append_at E h.row hB g hg [x.v, .int .i64 x.sum] 1 rfl (by intro u hu; simp at hu; rcases hu with rfl | rfl; exact ho; rfl) (by simp only [maxLen]; omega) (by omega)
  obtain ⟨q, cap, rfl, -, -, -⟩ := owns_some hown' (by omega)
  have hk : ∀ y : S, W.ownsRow w0.heap.size 3 1 y.v y.vals.length (ints y.vals) → w'.ownsRow w0.heap.size 3 1 y.v y.vals.length (ints y.vals) := fun y hy =>
    owns_kept hy hgr (fun q' hq' e => own_two h.row hy (by decide) q' e hq')
  refine ⟨q, cap, w', hrun, ⟨by simp [h.len], ?_, ?_, ?_⟩, hb', hgr⟩
  · have e : cs (ys ++ [x]) = cs ys ++ [x.v, .int .i64 x.sum] := by simp [cs, S.cells]
    rw [e]
    exact hown'
  · intro y hy
    rcases List.mem_append.1 hy with hy | hy
    · exact hk y (h.own.1 y hy)
    · obtain rfl := List.mem_singleton.1 hy
      exact hk _ hx
  · rw [List.pairwise_append]
    refine ⟨h.own.2, by simp, fun a ha b hb => ?_⟩
    obtain rfl := List.mem_singleton.1 hb
    exact hd a ha
end Go.Proofs.Ytocplbhgklfgeaa.States
