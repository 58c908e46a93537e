/-
  The contracts of impl.pop and spec.l11Pop.
  Conditions: the list is the call's own and has a state.
-/
import Derived.Test.YtocplbhgklfgeaaHeaps
import Derived.Test.YtocplbhgklfgeaaMix2
namespace Go.Proofs.Ytocplbhgklfgeaa.States
open Go.RowKit Go.Proofs.Ytocplbhgklfgeaa.Row Go.Proofs.Ytocplbhgklfgeaa.Mem Go.Proofs.Ytocplbhgklfgeaa.Mix Go.Proofs.Ytocplbhgklfgeaa.Ints Go.Proofs.Ytocplbhgklfgeaa.State Go.Proofs.Ytocplbhgklfgeaa.Recs Go.Proofs.Ytocplbhgklfgeaa.Owns Go.Proofs.Ytocplbhgklfgeaa.Blocks Go.Proofs.Ytocplbhgklfgeaa.Sift
/-- n states in block q, and x beside them, all of the call's own -/
structure HX (w : World) (lo n q cap : Nat) (zs : List S) (x : S) : Prop where
  len : zs.length = n
  row : w.ownsRow lo 31 2 (.slice (some ⟨q, 0, none⟩) n cap) n (cs zs)
  own : OwnS w lo (zs ++ [x])
theorem HX.below {w w' : World} {lo n q cap : Nat} {zs : List S} {x : S} (h : HX w lo n q cap zs x) (hb : Below w.heap.size w w') : HX w' lo n q cap zs x := ⟨h.len, own_below h.row hb, h.own.below hb⟩
theorem HX.hl {w : World} {lo n q cap : Nat} {zs : List S} {x : S} (h : HX w lo n q cap zs x) : HL w lo (.slice (some ⟨q, 0, none⟩) n cap) n zs :=
  ⟨h.len, h.row, fun y hy => h.own.1 y (List.mem_append_left _ hy), (List.pairwise_append.1 h.own.2).1⟩
theorem HX.swap {w : World} {lo n q cap : Nat} {zs : List S} {x : S} (h : HX w lo n q cap zs x) {i j : Nat} (hi : i < zs.length) (hj : j < zs.length) {a b : S} (ha : zs[i] = a) (hb : zs[j] = b) :
    HX ((((w.setCell ⟨q, i * 2, none⟩ b.v).setCell ⟨q, i * 2 + 1, none⟩ (.int .i64 b.sum)).setCell ⟨q, j * 2, none⟩ a.v).setCell ⟨q, j * 2 + 1, none⟩ (.int .i64 a.sum)) lo n q cap (swp zs i j) x := by
  obtain ⟨cur, hq, -, -⟩ := owns_blk h.row
  have k : w.grownBy ((((w.setCell ⟨q, i * 2, none⟩ b.v).setCell ⟨q, i * 2 + 1, none⟩ (.int .i64 b.sum)).setCell ⟨q, j * 2, none⟩ a.v).setCell ⟨q, j * 2 + 1, none⟩ (.int .i64 a.sum)) (some q) :=
    grown_set (grown_set (grown_set (grown_set (World.grownBy.refl w _) _ _) _ _) _ _) _ _
  have hs := h.hl.swap hi hj ha hb
  exact ⟨hs.len, hs.row, (h.own.grown k hq).perm ((swp_perm zs i j).append_right [x])⟩
theorem set_last {α : Type} (l : List α) (n : Nat) (x : α) (h : l.length = n + 1) : l.set n x = l.take n ++ [x] := by
  apply List.ext_getElem
  · simp [h]
  · intro i h1 h2
    rw [List.getElem_set, List.getElem_append]
    simp at h1
    by_cases hi : i = n
    · subst hi
      simp [h]
    · rw [if_neg (fun e => hi e.symm), dif_pos (by simp; omega), List.getElem_take]
theorem HX.start {w : World} {lo n q cap : Nat} {ys : List S} (h : HL w lo (.slice (some ⟨q, 0, none⟩) (n + 1) cap) (n + 1) ys) {a b : S} (h0 : 0 < ys.length) (hn : n < ys.length) (ha : ys[0] = a) (hb : ys[n] = b) :
    HX ((w.setCell ⟨q, 0, none⟩ b.v).setCell ⟨q, 1, none⟩ (.int .i64 b.sum)) lo n q cap ((ys.set 0 b).take n) a := by
  obtain ⟨cur, hq, -, -⟩ := owns_blk h.row
  have k : w.grownBy ((w.setCell ⟨q, 0, none⟩ b.v).setCell ⟨q, 1, none⟩ (.int .i64 b.sum)) (some q) := grown_set (grown_set (World.grownBy.refl w _) _ _) _ _
  have hr := set_rec h.row h0 b
  simp only [Nat.zero_mul, Nat.zero_add] at hr
  have hl := h.len
  refine ⟨by simp [hl], ?_, (h.own.grown k hq).perm ?_⟩
  · obtain ⟨hl2, h2⟩ := hr
    have e : cs ((ys.set 0 b).take n) = (cs (ys.set 0 b)).take (n * 2) := by
      have hsp : ys.set 0 b = (ys.set 0 b).take n ++ (ys.set 0 b).drop n := (List.take_append_drop n _).symm
      have hf : ∀ l : List S, (cs l).length = l.length * 2 := fun l => by
        induction l with
        | nil => rfl
        | cons x l ih => show (x.cells ++ cs l).length = _; rw [List.length_append, ih, cells_len, List.length_cons]; omega
      have h1 := hf ((ys.set 0 b).take n)
      have h2 : ((ys.set 0 b).take n).length = n := by simp [hl]
      rw [h2] at h1
      have h3 : cs (ys.set 0 b) = cs ((ys.set 0 b).take n) ++ cs ((ys.set 0 b).drop n) := by rw [← List.flatMap_append, List.take_append_drop]
      rw [h3, ← h1, List.take_left']
      rfl
    refine ⟨by rw [e, List.length_take, hl2]; omega, ?_⟩
    rcases h2 with ⟨h0', _⟩ | ⟨g', cap', cur', hv, hb', hg, hnc, hcm, hcs, ht⟩
    · cases h0'
    · cases hv
      refine .inr ⟨q, cap, cur', rfl, hb', hg, by omega, hcm, hcs, ?_⟩
      rw [e, ← ht, List.take_take, Nat.min_eq_left (by omega)]
  · have e : (ys.set 0 b).take n ++ [a] = swp ys 0 n := by
      rw [swp_eq h0 hn, ha, hb, set_last _ n a (by simp [hl])]
    rw [e]
    exact swp_perm ys 0 n
end Go.Proofs.Ytocplbhgklfgeaa.States
