/-
  The contract of the reference's copy of a piece, l08Copy.
  Conditions: the piece reads as a piece, its rows are short.
-/
import Derived.Test.YtlakellmdcdaaaaPieceDraw
import Derived.Test.YtlakellmdcdaaaaInv
import Derived.Test.YtlakellmdcdaaaaOwnSet
namespace Go.Proofs.Ytlakellmdcdaaaa.Draw
open Go.RowKit Go.Proofs.Ytlakellmdcdaaaa.Row Go.Proofs.Ytlakellmdcdaaaa.Mem Go.Proofs.Ytlakellmdcdaaaa.Mix Go.Proofs.Ytlakellmdcdaaaa.Owns Go.Proofs.Ytlakellmdcdaaaa.Blocks Go.Proofs.Ytlakellmdcdaaaa.Piece Go.Proofs.Ytlakellmdcdaaaa.Pc
/-- what is known while the copy is made: listed tells which operations are done -/
structure CI (w0 : World) (b1 b2 : Nat) (p : P) (r c s t : Value) (l : Array Bool) (a : Act) (w : World) : Prop where
  df : a.defers = []
  sz : a.tmps.size = 22
  t1 : a.tmps.getD 1 undef = .pointer (some ⟨b1, 0, none⟩)
  t2 : a.tmps.getD 2 undef = .pointer (some ⟨b2, 0, none⟩)
  bel : l.getD 19 false = false → Below w0.heap.size w0 w
  v0 : l.getD 0 false = true → a.tmps.getD 3 undef = .pointer (some ⟨b1, 0, none⟩)
  v1 : l.getD 1 false = true → a.tmps.getD 4 undef = .int .i64 p.ind
  n0 : l.getD 2 false = true → l.getD 5 false = false → w.ownsRow w0.heap.size 80 2 (a.tmps.getD 5 undef) 0 []
  a0 : l.getD 3 false = true → a.tmps.getD 6 undef = .pointer (some ⟨b1, 1, none⟩)
  l0 : l.getD 4 false = true → a.tmps.getD 7 undef = r
  o0 : l.getD 5 false = true → l.getD 19 false = false → w.ownsRow w0.heap.size 80 2 (a.tmps.getD 8 undef) p.rules.length (Rule.cs p.rules)
  n1 : l.getD 6 false = true → l.getD 9 false = false → w.ownsRow w0.heap.size 95 5 (a.tmps.getD 9 undef) 0 []
  a1 : l.getD 7 false = true → a.tmps.getD 10 undef = .pointer (some ⟨b1, 2, none⟩)
  l1 : l.getD 8 false = true → a.tmps.getD 11 undef = c
  o1 : l.getD 9 false = true → l.getD 19 false = false → w.ownsRow w0.heap.size 95 5 (a.tmps.getD 12 undef) p.chunks.length (Chunk.cs p.chunks)
  n2 : l.getD 10 false = true → l.getD 13 false = false → w.ownsRow w0.heap.size 98 3 (a.tmps.getD 13 undef) 0 []
  a2 : l.getD 11 false = true → a.tmps.getD 14 undef = .pointer (some ⟨b1, 3, none⟩)
  l2 : l.getD 12 false = true → a.tmps.getD 15 undef = s
  o2 : l.getD 13 false = true → l.getD 19 false = false → w.ownsRow w0.heap.size 98 3 (a.tmps.getD 16 undef) p.spans.length (Span.cs p.spans)
  n3 : l.getD 14 false = true → l.getD 17 false = false → w.ownsRow w0.heap.size 90 2 (a.tmps.getD 17 undef) 0 []
  a3 : l.getD 15 false = true → a.tmps.getD 18 undef = .pointer (some ⟨b1, 4, none⟩)
  l3 : l.getD 16 false = true → a.tmps.getD 19 undef = t
  o3 : l.getD 17 false = true → l.getD 19 false = false → w.ownsRow w0.heap.size 90 2 (a.tmps.getD 20 undef) p.ties.length (Tie.cs p.ties)
  bv : l.getD 18 false = true → a.tmps.getD 21 undef = .agg #[a.tmps.getD 4 undef, a.tmps.getD 8 undef, a.tmps.getD 12 undef, a.tmps.getD 16 undef, a.tmps.getD 20 undef]
  no : l.getD 19 false = false
/-- .. and when all are done -/
def CF (w : World) (b2 : Nat) (p : P) (l : Array Bool) (a : Act) (w' : World) : Prop := (∀ i, i < 20 → l.getD i false = true) ∧ a.defers = [] ∧ a.tmps.size = 22 ∧ a.tmps.getD 2 undef = .pointer (some ⟨b2, 0, none⟩) ∧ ∃ r' c' s' t', w'.heap[b2]? = some (.cells #[.int .i64 p.ind, r', c', s', t'] 35 (0, 0)) ∧
  w'.ownsRow w.heap.size 80 2 r' p.rules.length (Rule.cs p.rules) ∧ w'.ownsRow w.heap.size 95 5 c' p.chunks.length (Chunk.cs p.chunks) ∧ w'.ownsRow w.heap.size 98 3 s' p.spans.length (Span.cs p.spans) ∧ w'.ownsRow w.heap.size 90 2 t' p.ties.length (Tie.cs p.ties) ∧ Below w.heap.size w w'
theorem gne {α : Type} {a : Array α} {i j : Nat} {x d : α} (h : i ≠ j) : (a.setIfInBounds i x).getD j d = a.getD j d := by
  rw [Array.getD_eq_getD_getElem?, Array.getD_eq_getD_getElem?, Array.getElem?_setIfInBounds_ne h]
theorem geq {α : Type} {a : Array α} {i : Nat} {x d : α} (h : i < a.size) : (a.setIfInBounds i x).getD i d = x := by
  rw [Array.getD_eq_getD_getElem?, Array.getElem?_setIfInBounds_self_of_lt h]; rfl
theorem dc_of {md : Region.Mode} {ops : Array Oper} {l : Array Bool} (hd : DC md ops l) (f : Nat) {j i : Nat} {o : Oper} (ho : ops[j]? = some o) (hl : l.getD j false = true) (hr : reach md ops f j i = true) : l.getD i false = true :=
  reach_listed hd f j i o ho (hd j o ho hl) hr
theorem ready_dep {md : Region.Mode} {ops : Array Oper} {l : Array Bool} {i j : Nat} {o : Oper} (hi : i ∈ Region.ready md ops l) (ho : ops[i]? = some o) (h : (o.after.any fun e => Region.binds md e && e.on == j) = true) : l.getD j false = true := by
  obtain ⟨_, o', ho', hall⟩ := mem_ready.1 hi
  rw [ho] at ho'
  cases ho'
  obtain ⟨e, he, hb⟩ := Array.any_eq_true'.1 h
  simp only [Bool.and_eq_true, beq_iff_eq] at hb
  rw [← hb.2]
  exact hall e he hb.1
theorem unl {l : Array Bool} {i : Nat} (h : l.getD i true = false) : l.getD i false = false := by
  rw [Array.getD_eq_getD_getElem?] at h ⊢
  cases hq : l[i]? with
  | none => rfl
  | some b => rw [hq] at h; exact h
theorem wpOp_of {P : Program} {ops : Array Oper} {Q : Exit → Act → World → Prop} {K : Act → World → Prop} {i : Nat} {o : Oper} {a : Act} {w : World} (ho : ops[i]? = some o)
    (h : if Region.wanted o (yielded ops a.tmps) then o.wp P a w K Q else K (a.put o.dst undef) w) : wpOp P ops Q i K a w := by
  unfold wpOp
  simp only [ho]
  split
  · rename_i hw; rw [if_pos hw] at h; exact .inl h
  · rename_i hw; rw [if_neg hw] at h; exact h
set_option maxRecDepth 100000 in
set_option maxHeartbeats 3200000 in
theorem copy_any {w : World} {p : P} {r c s t : Value} (h : PRow w p r c s t) (h1 : p.rules.length ≤ 1000) (h2 : p.chunks.length ≤ 1000) (h3 : p.spans.length ≤ 1000) (h4 : p.ties.length ≤ 1000) :
    Calls Try.prog 119 #[pv p.ind r c s t] w fun e w' => ∃ r' c' s' t', e = .returned (pv p.ind r' c' s' t') ∧ w'.ownsRow w.heap.size 80 2 r' p.rules.length (Rule.cs p.rules) ∧
      w'.ownsRow w.heap.size 95 5 c' p.chunks.length (Chunk.cs p.chunks) ∧ w'.ownsRow w.heap.size 98 3 s' p.spans.length (Span.cs p.spans) ∧ w'.ownsRow w.heap.size 90 2 t' p.ties.length (Tie.cs p.ties) ∧ Below w.heap.size w w' := by
  obtain ⟨⟨A1, k1, rfl⟩, ⟨A2, k2, rfl⟩, ⟨A3, k3, rfl⟩, ⟨A4, k4, rfl⟩⟩ := h.lits
  have hx1 := (Below.refl w.heap.size w).alloc (Nat.le_refl _) (.cells #[.int .i64 p.ind, .slice A1 p.rules.length k1, .slice A2 p.chunks.length k2, .slice A3 p.spans.length k3, .slice A4 p.ties.length k4] 35)
  have hx3 := heap_alloc_new w (.cells #[.int .i64 p.ind, .slice A1 p.rules.length k1, .slice A2 p.chunks.length k2, .slice A3 p.spans.length k3, .slice A4 p.ties.length k4] 35)
  have hz1 : (w.alloc (.cells #[.int .i64 p.ind, .slice A1 p.rules.length k1, .slice A2 p.chunks.length k2, .slice A3 p.spans.length k3, .slice A4 p.ties.length k4] 35)).heap.size = w.heap.size + 1 := by simp
  obtain ⟨W1, hW1⟩ : ∃ W1, w.alloc (.cells #[.int .i64 p.ind, .slice A1 p.rules.length k1, .slice A2 p.chunks.length k2, .slice A3 p.spans.length k3, .slice A4 p.ties.length k4] 35) = W1 := ⟨_, rfl⟩
  rw [hW1] at hx1 hx3 hz1
  have hx4 := (Below.refl W1.heap.size W1).alloc (Nat.le_refl _) (.cells #[.int .i64 0, .slice none 0 0, .slice none 0 0, .slice none 0 0, .slice none 0 0] 35)
  have hx5 := heap_alloc_new W1 (.cells #[.int .i64 0, .slice none 0 0, .slice none 0 0, .slice none 0 0, .slice none 0 0] 35)
  have hx6 := blk_below hx3 hx4
  have hx7 : Below w.heap.size w _ := hx1.trans (hx4.mono hx1.size)
  rw [hz1] at hx5
  obtain ⟨W2, hW2⟩ : ∃ W2, W1.alloc (.cells #[.int .i64 0, .slice none 0 0, .slice none 0 0, .slice none 0 0, .slice none 0 0] 35) = W2 := ⟨_, rfl⟩
  rw [hW2] at hx5 hx6 hx7
  clear hx1 hx3 hx4
  have hp := h.below hx7
  have hl2 := blk_lt hx5
  replace h := Lib.hid h
  replace hp := Lib.hid hp
  go_enter Try.func119, Try.ntmps119
  go_wp2
  clear hW1 hW2 hz1 h
  refine wp_region_inv (fun l a w' => CI W2 w.heap.size (w.heap.size + 1) p (.slice A1 p.rules.length k1) (.slice A2 p.chunks.length k2) (.slice A3 p.spans.length k3) (.slice A4 p.ties.length k4) l a w' ∨ CF w (w.heap.size + 1) p l a w') (by kernel_rfl) (by kernel_rfl) ?_ ?_ ?_
  · refine .inl ⟨rfl, rfl, rfl, rfl, fun _ => to_drew _ _, ?_, ?_, ?_, ?_, ?_, ?_, ?_, ?_, ?_, ?_, ?_, ?_, ?_, ?_, ?_, ?_, ?_, ?_, ?_, rfl⟩
    all_goals
      intro hh
      simp at hh
  · intro l a w1 i hd hIF hi
    rcases hIF with hI | hF
    rotate_left
    · exfalso
      obtain ⟨hun, o, ho, _⟩ := mem_ready.1 hi
      have := hF.1 i (Array.getElem?_eq_some_iff.1 ho).1
      rw [unl hun] at this; cases this
    obtain ⟨tm, df⟩ := a
    obtain rfl : df = [] := hI.df
    have hlt : i < 20 := by
      obtain ⟨_, o, ho, _⟩ := mem_ready.1 hi
      exact (Array.getElem?_eq_some_iff.1 ho).1
    have hun := (mem_ready.1 hi).1
    rcases (by omega : i = 0 ∨ i = 1 ∨ i = 2 ∨ i = 3 ∨ i = 4 ∨ i = 5 ∨ i = 6 ∨ i = 7 ∨ i = 8 ∨ i = 9 ∨ i = 10 ∨ i = 11 ∨ i = 12 ∨ i = 13 ∨ i = 14 ∨ i = 15 ∨ i = 16 ∨ i = 17 ∨ i = 18 ∨ i = 19) with rfl | rfl | rfl | rfl | rfl | rfl | rfl | rfl | rfl | rfl | rfl | rfl | rfl | rfl | rfl | rfl | rfl | rfl | rfl | rfl
    · have h18 : l.getD 18 false = false := by
        cases hq : l.getD 18 false with
        | false => rfl
        | true => exact absurd (dc_of hd 20 (i := 0) rfl hq (by kernel_rfl)) (by rw [unl hun]; decide)
      have h19 : l.getD 19 false = false := hI.no
      have hls : 0 < l.size := by
        apply Nat.lt_of_not_le; intro hle; rw [Array.getD_eq_getD_getElem?, Array.getElem?_eq_none hle] at hun; cases hun
      obtain ⟨b0, b1, b2, b3, b4⟩ := blk5 (blk_below hx6 (hI.bel h19))
      have t1 := hI.t1
      refine wpOp_of rfl ?_
      (go_simp; (try go_bits))
      clear b0 b1 b2 b3 b4 t1
      obtain ⟨df, sz, t1, t2, bel, v0, v1, n0, a0, l0, o0, n1, a1, l1, o1, n2, a2, l2, o2, n3, a3, l3, o3, bv, no⟩ := hI
      simp only at sz t1 t2 v0 v1 n0 a0 l0 o0 n1 a1 l1 o1 n2 a2 l2 o2 n3 a3 l3 o3 bv
      refine .inl ⟨rfl, by simpa using sz, ?_, ?_, ?_, ?_, ?_, ?_, ?_, ?_, ?_, ?_, ?_, ?_, ?_, ?_, ?_, ?_, ?_, ?_, ?_, ?_, ?_, ?_, ?_⟩
      all_goals simp (disch := decide) only [gne]
      all_goals first
        | assumption
        | (intro _; exact geq (by rw [sz]; decide))
        | (intro hh; rw [h18] at hh; cases hh)
        | (intro _ hh; rw [geq hls] at hh; cases hh)
    · have h18 : l.getD 18 false = false := by
        cases hq : l.getD 18 false with
        | false => rfl
        | true => exact absurd (dc_of hd 20 (i := 1) rfl hq (by kernel_rfl)) (by rw [unl hun]; decide)
      have h19 : l.getD 19 false = false := hI.no
      have hls : 1 < l.size := by
        apply Nat.lt_of_not_le; intro hle; rw [Array.getD_eq_getD_getElem?, Array.getElem?_eq_none hle] at hun; cases hun
      obtain ⟨b0, b1, b2, b3, b4⟩ := blk5 (blk_below hx6 (hI.bel h19))
      have t1 := hI.t1
      have v0 := hI.v0 (ready_dep hi rfl (by kernel_rfl))
      refine wpOp_of rfl ?_
      (go_simp; (try go_bits))
      clear b0 b1 b2 b3 b4 t1
      obtain ⟨df, sz, t1, t2, bel, v0, v1, n0, a0, l0, o0, n1, a1, l1, o1, n2, a2, l2, o2, n3, a3, l3, o3, bv, no⟩ := hI
      simp only at sz t1 t2 v0 v1 n0 a0 l0 o0 n1 a1 l1 o1 n2 a2 l2 o2 n3 a3 l3 o3 bv
      refine .inl ⟨rfl, by simpa using sz, ?_, ?_, ?_, ?_, ?_, ?_, ?_, ?_, ?_, ?_, ?_, ?_, ?_, ?_, ?_, ?_, ?_, ?_, ?_, ?_, ?_, ?_, ?_⟩
      all_goals simp (disch := decide) only [gne]
      all_goals first
        | assumption
        | (intro _; exact geq (by rw [sz]; decide))
        | (intro hh; rw [h18] at hh; cases hh)
        | (intro _ hh; rw [geq hls] at hh; cases hh)
    · have h18 : l.getD 18 false = false := by
        cases hq : l.getD 18 false with
        | false => rfl
        | true => exact absurd (dc_of hd 20 (i := 2) rfl hq (by kernel_rfl)) (by rw [unl hun]; decide)
      have h19 : l.getD 19 false = false := hI.no
      have hls : 2 < l.size := by
        apply Nat.lt_of_not_le; intro hle; rw [Array.getD_eq_getD_getElem?, Array.getElem?_eq_none hle] at hun; cases hun
      refine wpOp_of rfl ?_
      (go_simp; (try go_bits))
      have al := (Below.refl w1.heap.size w1).alloc (Nat.le_refl _) (.cells #[] 80)
      obtain ⟨df, sz, t1, t2, bel, v0, v1, n0, a0, l0, o0, n1, a1, l1, o1, n2, a2, l2, o2, n3, a3, l3, o3, bv, no⟩ := hI
      simp only at sz t1 t2 v0 v1 n0 a0 l0 o0 n1 a1 l1 o1 n2 a2 l2 o2 n3 a3 l3 o3 bv
      have hbl := bel h19
      refine .inl ⟨rfl, by simpa using sz, ?_, ?_, ?_, ?_, ?_, ?_, ?_, ?_, ?_, ?_, ?_, ?_, ?_, ?_, ?_, ?_, ?_, ?_, ?_, ?_, ?_, ?_, ?_⟩
      all_goals simp (disch := decide) only [gne]
      all_goals first
        | assumption
        | (intro _; exact geq (by rw [sz]; decide))
        | (intro hh; rw [h18] at hh; cases hh)
        | (intro _ hh; rw [geq hls] at hh; cases hh)
        | exact fun _ => hbl.trans (al.mono hbl.size)
        | (intro _ _; rw [geq (by rw [sz]; decide)]; exact own_mono (own_emptyB w1 _ _) hbl.size)
        | (intro hh hq; exact own_below (n0 hh hq) al)
        | (intro hh hq; exact own_below (o0 hh hq) al)
        | (intro hh hq; exact own_below (n1 hh hq) al)
        | (intro hh hq; exact own_below (o1 hh hq) al)
        | (intro hh hq; exact own_below (n2 hh hq) al)
        | (intro hh hq; exact own_below (o2 hh hq) al)
        | (intro hh hq; exact own_below (n3 hh hq) al)
        | (intro hh hq; exact own_below (o3 hh hq) al)
    · have h18 : l.getD 18 false = false := by
        cases hq : l.getD 18 false with
        | false => rfl
        | true => exact absurd (dc_of hd 20 (i := 3) rfl hq (by kernel_rfl)) (by rw [unl hun]; decide)
      have h19 : l.getD 19 false = false := hI.no
      have hls : 3 < l.size := by
        apply Nat.lt_of_not_le; intro hle; rw [Array.getD_eq_getD_getElem?, Array.getElem?_eq_none hle] at hun; cases hun
      obtain ⟨b0, b1, b2, b3, b4⟩ := blk5 (blk_below hx6 (hI.bel h19))
      have t1 := hI.t1
      refine wpOp_of rfl ?_
      (go_simp; (try go_bits))
      clear b0 b1 b2 b3 b4 t1
      obtain ⟨df, sz, t1, t2, bel, v0, v1, n0, a0, l0, o0, n1, a1, l1, o1, n2, a2, l2, o2, n3, a3, l3, o3, bv, no⟩ := hI
      simp only at sz t1 t2 v0 v1 n0 a0 l0 o0 n1 a1 l1 o1 n2 a2 l2 o2 n3 a3 l3 o3 bv
      refine .inl ⟨rfl, by simpa using sz, ?_, ?_, ?_, ?_, ?_, ?_, ?_, ?_, ?_, ?_, ?_, ?_, ?_, ?_, ?_, ?_, ?_, ?_, ?_, ?_, ?_, ?_, ?_⟩
      all_goals simp (disch := decide) only [gne]
      all_goals first
        | assumption
        | (intro _; exact geq (by rw [sz]; decide))
        | (intro hh; rw [h18] at hh; cases hh)
        | (intro _ hh; rw [geq hls] at hh; cases hh)
    · have h18 : l.getD 18 false = false := by
        cases hq : l.getD 18 false with
        | false => rfl
        | true => exact absurd (dc_of hd 20 (i := 4) rfl hq (by kernel_rfl)) (by rw [unl hun]; decide)
      have h19 : l.getD 19 false = false := hI.no
      have hls : 4 < l.size := by
        apply Nat.lt_of_not_le; intro hle; rw [Array.getD_eq_getD_getElem?, Array.getElem?_eq_none hle] at hun; cases hun
      obtain ⟨b0, b1, b2, b3, b4⟩ := blk5 (blk_below hx6 (hI.bel h19))
      have t1 := hI.t1
      have a0 := hI.a0 (ready_dep hi rfl (by kernel_rfl))
      refine wpOp_of rfl ?_
      (go_simp; (try go_bits))
      clear b0 b1 b2 b3 b4 t1
      obtain ⟨df, sz, t1, t2, bel, v0, v1, n0, a0, l0, o0, n1, a1, l1, o1, n2, a2, l2, o2, n3, a3, l3, o3, bv, no⟩ := hI
      simp only at sz t1 t2 v0 v1 n0 a0 l0 o0 n1 a1 l1 o1 n2 a2 l2 o2 n3 a3 l3 o3 bv
      refine .inl ⟨rfl, by simpa using sz, ?_, ?_, ?_, ?_, ?_, ?_, ?_, ?_, ?_, ?_, ?_, ?_, ?_, ?_, ?_, ?_, ?_, ?_, ?_, ?_, ?_, ?_, ?_⟩
      all_goals simp (disch := decide) only [gne]
      all_goals first
        | assumption
        | (intro _; exact geq (by rw [sz]; decide))
        | (intro hh; rw [h18] at hh; cases hh)
        | (intro _ hh; rw [geq hls] at hh; cases hh)
    · have h18 : l.getD 18 false = false := by
        cases hq : l.getD 18 false with
        | false => rfl
        | true => exact absurd (dc_of hd 20 (i := 5) rfl hq (by kernel_rfl)) (by rw [unl hun]; decide)
      have h19 : l.getD 19 false = false := hI.no
      have hls : 5 < l.size := by
        apply Nat.lt_of_not_le; intro hle; rw [Array.getD_eq_getD_getElem?, Array.getElem?_eq_none hle] at hun; cases hun
      have hn := hI.n0 (ready_dep hi rfl (by kernel_rfl)) (unl hun)
      have hlv := hI.l0 (ready_dep hi rfl (by kernel_rfl))
      have hbl := hI.bel h19
      simp only at hn hlv
      obtain ⟨v', w', hrun, hown', hbl', hgr, -⟩ := append_row Rule.E (w0 := W2) (x := tm.getD 7 undef) (m := p.rules.length) (news := Rule.cs p.rules) hn hbl (by rw [hlv]; exact hp.out.rules.below hbl) (by intro u hu; obtain ⟨x, _, hx⟩ := List.mem_flatMap.1 hu; simp only [Rule.T.cells, List.mem_cons, List.not_mem_nil, or_false] at hx; rcases hx with hx | hx <;> (rw [hx]; rfl)) (by simp only [maxLen]; omega) (by omega)
      have hown2 := Lib.hid (show w'.ownsRow W2.heap.size 80 2 v' p.rules.length (Rule.cs p.rules) by simpa using hown')
      refine wpOp_of rfl ?_
      refine loud_append rfl rfl hrun ?_
      obtain ⟨df, sz, t1, t2, bel, v0, v1, n0, a0, l0, o0, n1, a1, l1, o1, n2, a2, l2, o2, n3, a3, l3, o3, bv, no⟩ := hI
      simp only at sz t1 t2 v0 v1 n0 a0 l0 o0 n1 a1 l1 o1 n2 a2 l2 o2 n3 a3 l3 o3 bv
      (go_simp)
      refine .inl ⟨rfl, by simpa using sz, ?_, ?_, ?_, ?_, ?_, ?_, ?_, ?_, ?_, ?_, ?_, ?_, ?_, ?_, ?_, ?_, ?_, ?_, ?_, ?_, ?_, ?_, ?_⟩
      all_goals simp (disch := decide) only [gne]
      all_goals first
        | assumption
        | (intro _; exact geq (by rw [sz]; decide))
        | (intro hh; rw [h18] at hh; cases hh)
        | (intro _ hh; rw [geq hls] at hh; cases hh)
        | exact fun _ => hbl'
        | (intro _ _; rw [geq (by rw [sz]; decide)]; exact hown2.out)
        | (intro hh hq; exact owns_kept (n1 hh hq) hgr (fun q hq2 e => own_two (n1 hh hq) hn (by decide) q hq2 e))
        | (intro hh hq; exact owns_kept (o1 hh hq) hgr (fun q hq2 e => own_two (o1 hh hq) hn (by decide) q hq2 e))
        | (intro hh hq; exact owns_kept (n2 hh hq) hgr (fun q hq2 e => own_two (n2 hh hq) hn (by decide) q hq2 e))
        | (intro hh hq; exact owns_kept (o2 hh hq) hgr (fun q hq2 e => own_two (o2 hh hq) hn (by decide) q hq2 e))
        | (intro hh hq; exact owns_kept (n3 hh hq) hgr (fun q hq2 e => own_two (n3 hh hq) hn (by decide) q hq2 e))
        | (intro hh hq; exact owns_kept (o3 hh hq) hgr (fun q hq2 e => own_two (o3 hh hq) hn (by decide) q hq2 e))
    · have h18 : l.getD 18 false = false := by
        cases hq : l.getD 18 false with
        | false => rfl
        | true => exact absurd (dc_of hd 20 (i := 6) rfl hq (by kernel_rfl)) (by rw [unl hun]; decide)
      have h19 : l.getD 19 false = false := hI.no
      have hls : 6 < l.size := by
        apply Nat.lt_of_not_le; intro hle; rw [Array.getD_eq_getD_getElem?, Array.getElem?_eq_none hle] at hun; cases hun
      refine wpOp_of rfl ?_
      (go_simp; (try go_bits))
      have al := (Below.refl w1.heap.size w1).alloc (Nat.le_refl _) (.cells #[] 95)
      obtain ⟨df, sz, t1, t2, bel, v0, v1, n0, a0, l0, o0, n1, a1, l1, o1, n2, a2, l2, o2, n3, a3, l3, o3, bv, no⟩ := hI
      simp only at sz t1 t2 v0 v1 n0 a0 l0 o0 n1 a1 l1 o1 n2 a2 l2 o2 n3 a3 l3 o3 bv
      have hbl := bel h19
      refine .inl ⟨rfl, by simpa using sz, ?_, ?_, ?_, ?_, ?_, ?_, ?_, ?_, ?_, ?_, ?_, ?_, ?_, ?_, ?_, ?_, ?_, ?_, ?_, ?_, ?_, ?_, ?_⟩
      all_goals simp (disch := decide) only [gne]
      all_goals first
        | assumption
        | (intro _; exact geq (by rw [sz]; decide))
        | (intro hh; rw [h18] at hh; cases hh)
        | (intro _ hh; rw [geq hls] at hh; cases hh)
        | exact fun _ => hbl.trans (al.mono hbl.size)
        | (intro _ _; rw [geq (by rw [sz]; decide)]; exact own_mono (own_emptyB w1 _ _) hbl.size)
        | (intro hh hq; exact own_below (n0 hh hq) al)
        | (intro hh hq; exact own_below (o0 hh hq) al)
        | (intro hh hq; exact own_below (n1 hh hq) al)
        | (intro hh hq; exact own_below (o1 hh hq) al)
        | (intro hh hq; exact own_below (n2 hh hq) al)
        | (intro hh hq; exact own_below (o2 hh hq) al)
        | (intro hh hq; exact own_below (n3 hh hq) al)
        | (intro hh hq; exact own_below (o3 hh hq) al)
    · have h18 : l.getD 18 false = false := by
        cases hq : l.getD 18 false with
        | false => rfl
        | true => exact absurd (dc_of hd 20 (i := 7) rfl hq (by kernel_rfl)) (by rw [unl hun]; decide)
      have h19 : l.getD 19 false = false := hI.no
      have hls : 7 < l.size := by
        apply Nat.lt_of_not_le; intro hle; rw [Array.getD_eq_getD_getElem?, Array.getElem?_eq_none hle] at hun; cases hun
      obtain ⟨b0, b1, b2, b3, b4⟩ := blk5 (blk_below hx6 (hI.bel h19))
      have t1 := hI.t1
      refine wpOp_of rfl ?_
      (go_simp; (try go_bits))
      clear b0 b1 b2 b3 b4 t1
      obtain ⟨df, sz, t1, t2, bel, v0, v1, n0, a0, l0, o0, n1, a1, l1, o1, n2, a2, l2, o2, n3, a3, l3, o3, bv, no⟩ := hI
      simp only at sz t1 t2 v0 v1 n0 a0 l0 o0 n1 a1 l1 o1 n2 a2 l2 o2 n3 a3 l3 o3 bv
      refine .inl ⟨rfl, by simpa using sz, ?_, ?_, ?_, ?_, ?_, ?_, ?_, ?_, ?_, ?_, ?_, ?_, ?_, ?_, ?_, ?_, ?_, ?_, ?_, ?_, ?_, ?_, ?_⟩
      all_goals simp (disch := decide) only [gne]
      all_goals first
        | assumption
        | (intro _; exact geq (by rw [sz]; decide))
        | (intro hh; rw [h18] at hh; cases hh)
        | (intro _ hh; rw [geq hls] at hh; cases hh)
    · have h18 : l.getD 18 false = false := by
        cases hq : l.getD 18 false with
        | false => rfl
        | true => exact absurd (dc_of hd 20 (i := 8) rfl hq (by kernel_rfl)) (by rw [unl hun]; decide)
      have h19 : l.getD 19 false = false := hI.no
      have hls : 8 < l.size := by
        apply Nat.lt_of_not_le; intro hle; rw [Array.getD_eq_getD_getElem?, Array.getElem?_eq_none hle] at hun; cases hun
      obtain ⟨b0, b1, b2, b3, b4⟩ := blk5 (blk_below hx6 (hI.bel h19))
      have t1 := hI.t1
      have a1 := hI.a1 (ready_dep hi rfl (by kernel_rfl))
      refine wpOp_of rfl ?_
      (go_simp; (try go_bits))
      clear b0 b1 b2 b3 b4 t1
      obtain ⟨df, sz, t1, t2, bel, v0, v1, n0, a0, l0, o0, n1, a1, l1, o1, n2, a2, l2, o2, n3, a3, l3, o3, bv, no⟩ := hI
      simp only at sz t1 t2 v0 v1 n0 a0 l0 o0 n1 a1 l1 o1 n2 a2 l2 o2 n3 a3 l3 o3 bv
      refine .inl ⟨rfl, by simpa using sz, ?_, ?_, ?_, ?_, ?_, ?_, ?_, ?_, ?_, ?_, ?_, ?_, ?_, ?_, ?_, ?_, ?_, ?_, ?_, ?_, ?_, ?_, ?_⟩
      all_goals simp (disch := decide) only [gne]
      all_goals first
        | assumption
        | (intro _; exact geq (by rw [sz]; decide))
        | (intro hh; rw [h18] at hh; cases hh)
        | (intro _ hh; rw [geq hls] at hh; cases hh)
    · have h18 : l.getD 18 false = false := by
        cases hq : l.getD 18 false with
        | false => rfl
        | true => exact absurd (dc_of hd 20 (i := 9) rfl hq (by kernel_rfl)) (by rw [unl hun]; decide)
      have h19 : l.getD 19 false = false := hI.no
      have hls : 9 < l.size := by
        apply Nat.lt_of_not_le; intro hle; rw [Array.getD_eq_getD_getElem?, Array.getElem?_eq_none hle] at hun; cases hun
      have hn := hI.n1 (ready_dep hi rfl (by kernel_rfl)) (unl hun)
      have hlv := hI.l1 (ready_dep hi rfl (by kernel_rfl))
      have hbl := hI.bel h19
      simp only at hn hlv
      obtain ⟨v', w', hrun, hown', hbl', hgr, -⟩ := append_row Chunk.E (w0 := W2) (x := tm.getD 11 undef) (m := p.chunks.length) (news := Chunk.cs p.chunks) hn hbl (by rw [hlv]; exact hp.out.chunks.below hbl) (by intro u hu; obtain ⟨x, _, hx⟩ := List.mem_flatMap.1 hu; simp only [Chunk.T.cells, List.mem_cons, List.not_mem_nil, or_false] at hx; rcases hx with hx | hx | hx | hx | hx <;> (rw [hx]; rfl)) (by simp only [maxLen]; omega) (by omega)
      have hown2 := Lib.hid (show w'.ownsRow W2.heap.size 95 5 v' p.chunks.length (Chunk.cs p.chunks) by simpa using hown')
      refine wpOp_of rfl ?_
      refine loud_append rfl rfl hrun ?_
      obtain ⟨df, sz, t1, t2, bel, v0, v1, n0, a0, l0, o0, n1, a1, l1, o1, n2, a2, l2, o2, n3, a3, l3, o3, bv, no⟩ := hI
      simp only at sz t1 t2 v0 v1 n0 a0 l0 o0 n1 a1 l1 o1 n2 a2 l2 o2 n3 a3 l3 o3 bv
      (go_simp)
      refine .inl ⟨rfl, by simpa using sz, ?_, ?_, ?_, ?_, ?_, ?_, ?_, ?_, ?_, ?_, ?_, ?_, ?_, ?_, ?_, ?_, ?_, ?_, ?_, ?_, ?_, ?_, ?_⟩
      all_goals simp (disch := decide) only [gne]
      all_goals first
        | assumption
        | (intro _; exact geq (by rw [sz]; decide))
        | (intro hh; rw [h18] at hh; cases hh)
        | (intro _ hh; rw [geq hls] at hh; cases hh)
        | exact fun _ => hbl'
        | (intro _ _; rw [geq (by rw [sz]; decide)]; exact hown2.out)
        | (intro hh hq; exact owns_kept (n0 hh hq) hgr (fun q hq2 e => own_two (n0 hh hq) hn (by decide) q hq2 e))
        | (intro hh hq; exact owns_kept (o0 hh hq) hgr (fun q hq2 e => own_two (o0 hh hq) hn (by decide) q hq2 e))
        | (intro hh hq; exact owns_kept (n2 hh hq) hgr (fun q hq2 e => own_two (n2 hh hq) hn (by decide) q hq2 e))
        | (intro hh hq; exact owns_kept (o2 hh hq) hgr (fun q hq2 e => own_two (o2 hh hq) hn (by decide) q hq2 e))
        | (intro hh hq; exact owns_kept (n3 hh hq) hgr (fun q hq2 e => own_two (n3 hh hq) hn (by decide) q hq2 e))
        | (intro hh hq; exact owns_kept (o3 hh hq) hgr (fun q hq2 e => own_two (o3 hh hq) hn (by decide) q hq2 e))
    · have h18 : l.getD 18 false = false := by
        cases hq : l.getD 18 false with
        | false => rfl
        | true => exact absurd (dc_of hd 20 (i := 10) rfl hq (by kernel_rfl)) (by rw [unl hun]; decide)
      have h19 : l.getD 19 false = false := hI.no
      have hls : 10 < l.size := by
        apply Nat.lt_of_not_le; intro hle; rw [Array.getD_eq_getD_getElem?, Array.getElem?_eq_none hle] at hun; cases hun
      refine wpOp_of rfl ?_
      (go_simp; (try go_bits))
      have al := (Below.refl w1.heap.size w1).alloc (Nat.le_refl _) (.cells #[] 98)
      obtain ⟨df, sz, t1, t2, bel, v0, v1, n0, a0, l0, o0, n1, a1, l1, o1, n2, a2, l2, o2, n3, a3, l3, o3, bv, no⟩ := hI
      simp only at sz t1 t2 v0 v1 n0 a0 l0 o0 n1 a1 l1 o1 n2 a2 l2 o2 n3 a3 l3 o3 bv
      have hbl := bel h19
      refine .inl ⟨rfl, by simpa using sz, ?_, ?_, ?_, ?_, ?_, ?_, ?_, ?_, ?_, ?_, ?_, ?_, ?_, ?_, ?_, ?_, ?_, ?_, ?_, ?_, ?_, ?_, ?_⟩
      all_goals simp (disch := decide) only [gne]
      all_goals first
        | assumption
        | (intro _; exact geq (by rw [sz]; decide))
        | (intro hh; rw [h18] at hh; cases hh)
        | (intro _ hh; rw [geq hls] at hh; cases hh)
        | exact fun _ => hbl.trans (al.mono hbl.size)
        | (intro _ _; rw [geq (by rw [sz]; decide)]; exact own_mono (own_emptyB w1 _ _) hbl.size)
        | (intro hh hq; exact own_below (n0 hh hq) al)
        | (intro hh hq; exact own_below (o0 hh hq) al)
        | (intro hh hq; exact own_below (n1 hh hq) al)
        | (intro hh hq; exact own_below (o1 hh hq) al)
        | (intro hh hq; exact own_below (n2 hh hq) al)
        | (intro hh hq; exact own_below (o2 hh hq) al)
        | (intro hh hq; exact own_below (n3 hh hq) al)
        | (intro hh hq; exact own_below (o3 hh hq) al)
    · have h18 : l.getD 18 false = false := by
        cases hq : l.getD 18 false with
        | false => rfl
        | true => exact absurd (dc_of hd 20 (i := 11) rfl hq (by kernel_rfl)) (by rw [unl hun]; decide)
      have h19 : l.getD 19 false = false := hI.no
      have hls : 11 < l.size := by
        apply Nat.lt_of_not_le; intro hle; rw [Array.getD_eq_getD_getElem?, Array.getElem?_eq_none hle] at hun; cases hun
      obtain ⟨b0, b1, b2, b3, b4⟩ := blk5 (blk_below hx6 (hI.bel h19))
      have t1 := hI.t1
      refine wpOp_of rfl ?_
      (go_simp; (try go_bits))
      clear b0 b1 b2 b3 b4 t1
      obtain ⟨df, sz, t1, t2, bel, v0, v1, n0, a0, l0, o0, n1, a1, l1, o1, n2, a2, l2, o2, n3, a3, l3, o3, bv, no⟩ := hI
      simp only at sz t1 t2 v0 v1 n0 a0 l0 o0 n1 a1 l1 o1 n2 a2 l2 o2 n3 a3 l3 o3 bv
      refine .inl ⟨rfl, by simpa using sz, ?_, ?_, ?_, ?_, ?_, ?_, ?_, ?_, ?_, ?_, ?_, ?_, ?_, ?_, ?_, ?_, ?_, ?_, ?_, ?_, ?_, ?_, ?_⟩
      all_goals simp (disch := decide) only [gne]
      all_goals first
        | assumption
        | (intro _; exact geq (by rw [sz]; decide))
        | (intro hh; rw [h18] at hh; cases hh)
        | (intro _ hh; rw [geq hls] at hh; cases hh)
    · have h18 : l.getD 18 false = false := by
        cases hq : l.getD 18 false with
        | false => rfl
        | true => exact absurd (dc_of hd 20 (i := 12) rfl hq (by kernel_rfl)) (by rw [unl hun]; decide)
      have h19 : l.getD 19 false = false := hI.no
      have hls : 12 < l.size := by
        apply Nat.lt_of_not_le; intro hle; rw [Array.getD_eq_getD_getElem?, Array.getElem?_eq_none hle] at hun; cases hun
      obtain ⟨b0, b1, b2, b3, b4⟩ := blk5 (blk_below hx6 (hI.bel h19))
      have t1 := hI.t1
      have a2 := hI.a2 (ready_dep hi rfl (by kernel_rfl))
      refine wpOp_of rfl ?_
      (go_simp; (try go_bits))
      clear b0 b1 b2 b3 b4 t1
      obtain ⟨df, sz, t1, t2, bel, v0, v1, n0, a0, l0, o0, n1, a1, l1, o1, n2, a2, l2, o2, n3, a3, l3, o3, bv, no⟩ := hI
      simp only at sz t1 t2 v0 v1 n0 a0 l0 o0 n1 a1 l1 o1 n2 a2 l2 o2 n3 a3 l3 o3 bv
      refine .inl ⟨rfl, by simpa using sz, ?_, ?_, ?_, ?_, ?_, ?_, ?_, ?_, ?_, ?_, ?_, ?_, ?_, ?_, ?_, ?_, ?_, ?_, ?_, ?_, ?_, ?_, ?_⟩
      all_goals simp (disch := decide) only [gne]
      all_goals first
        | assumption
        | (intro _; exact geq (by rw [sz]; decide))
        | (intro hh; rw [h18] at hh; cases hh)
        | (intro _ hh; rw [geq hls] at hh; cases hh)
    · have h18 : l.getD 18 false = false := by
        cases hq : l.getD 18 false with
        | false => rfl
        | true => exact absurd (dc_of hd 20 (i := 13) rfl hq (by kernel_rfl)) (by rw [unl hun]; decide)
      have h19 : l.getD 19 false = false := hI.no
      have hls : 13 < l.size := by
        apply Nat.lt_of_not_le; intro hle; rw [Array.getD_eq_getD_getElem?, Array.getElem?_eq_none hle] at hun; cases hun
      have hn := hI.n2 (ready_dep hi rfl (by kernel_rfl)) (unl hun)
      have hlv := hI.l2 (ready_dep hi rfl (by kernel_rfl))
      have hbl := hI.bel h19
      simp only at hn hlv
      obtain ⟨v', w', hrun, hown', hbl', hgr, -⟩ := append_row Span.E (w0 := W2) (x := tm.getD 15 undef) (m := p.spans.length) (news := Span.cs p.spans) hn hbl (by rw [hlv]; exact hp.out.spans.below hbl) (by intro u hu; obtain ⟨x, _, hx⟩ := List.mem_flatMap.1 hu; simp only [Span.T.cells, List.mem_cons, List.not_mem_nil, or_false] at hx; rcases hx with hx | hx | hx <;> (rw [hx]; rfl)) (by simp only [maxLen]; omega) (by omega)
      have hown2 := Lib.hid (show w'.ownsRow W2.heap.size 98 3 v' p.spans.length (Span.cs p.spans) by simpa using hown')
      refine wpOp_of rfl ?_
      refine loud_append rfl rfl hrun ?_
      obtain ⟨df, sz, t1, t2, bel, v0, v1, n0, a0, l0, o0, n1, a1, l1, o1, n2, a2, l2, o2, n3, a3, l3, o3, bv, no⟩ := hI
      simp only at sz t1 t2 v0 v1 n0 a0 l0 o0 n1 a1 l1 o1 n2 a2 l2 o2 n3 a3 l3 o3 bv
      (go_simp)
      refine .inl ⟨rfl, by simpa using sz, ?_, ?_, ?_, ?_, ?_, ?_, ?_, ?_, ?_, ?_, ?_, ?_, ?_, ?_, ?_, ?_, ?_, ?_, ?_, ?_, ?_, ?_, ?_⟩
      all_goals simp (disch := decide) only [gne]
      all_goals first
        | assumption
        | (intro _; exact geq (by rw [sz]; decide))
        | (intro hh; rw [h18] at hh; cases hh)
        | (intro _ hh; rw [geq hls] at hh; cases hh)
        | exact fun _ => hbl'
        | (intro _ _; rw [geq (by rw [sz]; decide)]; exact hown2.out)
        | (intro hh hq; exact owns_kept (n0 hh hq) hgr (fun q hq2 e => own_two (n0 hh hq) hn (by decide) q hq2 e))
        | (intro hh hq; exact owns_kept (o0 hh hq) hgr (fun q hq2 e => own_two (o0 hh hq) hn (by decide) q hq2 e))
        | (intro hh hq; exact owns_kept (n1 hh hq) hgr (fun q hq2 e => own_two (n1 hh hq) hn (by decide) q hq2 e))
        | (intro hh hq; exact owns_kept (o1 hh hq) hgr (fun q hq2 e => own_two (o1 hh hq) hn (by decide) q hq2 e))
        | (intro hh hq; exact owns_kept (n3 hh hq) hgr (fun q hq2 e => own_two (n3 hh hq) hn (by decide) q hq2 e))
        | (intro hh hq; exact owns_kept (o3 hh hq) hgr (fun q hq2 e => own_two (o3 hh hq) hn (by decide) q hq2 e))
    · have h18 : l.getD 18 false = false := by
        cases hq : l.getD 18 false with
        | false => rfl
        | true => exact absurd (dc_of hd 20 (i := 14) rfl hq (by kernel_rfl)) (by rw [unl hun]; decide)
      have h19 : l.getD 19 false = false := hI.no
      have hls : 14 < l.size := by
        apply Nat.lt_of_not_le; intro hle; rw [Array.getD_eq_getD_getElem?, Array.getElem?_eq_none hle] at hun; cases hun
      refine wpOp_of rfl ?_
      (go_simp; (try go_bits))
      have al := (Below.refl w1.heap.size w1).alloc (Nat.le_refl _) (.cells #[] 90)
      obtain ⟨df, sz, t1, t2, bel, v0, v1, n0, a0, l0, o0, n1, a1, l1, o1, n2, a2, l2, o2, n3, a3, l3, o3, bv, no⟩ := hI
      simp only at sz t1 t2 v0 v1 n0 a0 l0 o0 n1 a1 l1 o1 n2 a2 l2 o2 n3 a3 l3 o3 bv
      have hbl := bel h19
      refine .inl ⟨rfl, by simpa using sz, ?_, ?_, ?_, ?_, ?_, ?_, ?_, ?_, ?_, ?_, ?_, ?_, ?_, ?_, ?_, ?_, ?_, ?_, ?_, ?_, ?_, ?_, ?_⟩
      all_goals simp (disch := decide) only [gne]
      all_goals first
        | assumption
        | (intro _; exact geq (by rw [sz]; decide))
        | (intro hh; rw [h18] at hh; cases hh)
        | (intro _ hh; rw [geq hls] at hh; cases hh)
        | exact fun _ => hbl.trans (al.mono hbl.size)
        | (intro _ _; rw [geq (by rw [sz]; decide)]; exact own_mono (own_emptyB w1 _ _) hbl.size)
        | (intro hh hq; exact own_below (n0 hh hq) al)
        | (intro hh hq; exact own_below (o0 hh hq) al)
        | (intro hh hq; exact own_below (n1 hh hq) al)
        | (intro hh hq; exact own_below (o1 hh hq) al)
        | (intro hh hq; exact own_below (n2 hh hq) al)
        | (intro hh hq; exact own_below (o2 hh hq) al)
        | (intro hh hq; exact own_below (n3 hh hq) al)
        | (intro hh hq; exact own_below (o3 hh hq) al)
    · have h18 : l.getD 18 false = false := by
        cases hq : l.getD 18 false with
        | false => rfl
        | true => exact absurd (dc_of hd 20 (i := 15) rfl hq (by kernel_rfl)) (by rw [unl hun]; decide)
      have h19 : l.getD 19 false = false := hI.no
      have hls : 15 < l.size := by
        apply Nat.lt_of_not_le; intro hle; rw [Array.getD_eq_getD_getElem?, Array.getElem?_eq_none hle] at hun; cases hun
      obtain ⟨b0, b1, b2, b3, b4⟩ := blk5 (blk_below hx6 (hI.bel h19))
      have t1 := hI.t1
      refine wpOp_of rfl ?_
      (go_simp; (try go_bits))
      clear b0 b1 b2 b3 b4 t1
      obtain ⟨df, sz, t1, t2, bel, v0, v1, n0, a0, l0, o0, n1, a1, l1, o1, n2, a2, l2, o2, n3, a3, l3, o3, bv, no⟩ := hI
      simp only at sz t1 t2 v0 v1 n0 a0 l0 o0 n1 a1 l1 o1 n2 a2 l2 o2 n3 a3 l3 o3 bv
      refine .inl ⟨rfl, by simpa using sz, ?_, ?_, ?_, ?_, ?_, ?_, ?_, ?_, ?_, ?_, ?_, ?_, ?_, ?_, ?_, ?_, ?_, ?_, ?_, ?_, ?_, ?_, ?_⟩
      all_goals simp (disch := decide) only [gne]
      all_goals first
        | assumption
        | (intro _; exact geq (by rw [sz]; decide))
        | (intro hh; rw [h18] at hh; cases hh)
        | (intro _ hh; rw [geq hls] at hh; cases hh)
    · have h18 : l.getD 18 false = false := by
        cases hq : l.getD 18 false with
        | false => rfl
        | true => exact absurd (dc_of hd 20 (i := 16) rfl hq (by kernel_rfl)) (by rw [unl hun]; decide)
      have h19 : l.getD 19 false = false := hI.no
      have hls : 16 < l.size := by
        apply Nat.lt_of_not_le; intro hle; rw [Array.getD_eq_getD_getElem?, Array.getElem?_eq_none hle] at hun; cases hun
      obtain ⟨b0, b1, b2, b3, b4⟩ := blk5 (blk_below hx6 (hI.bel h19))
      have t1 := hI.t1
      have a3 := hI.a3 (ready_dep hi rfl (by kernel_rfl))
      refine wpOp_of rfl ?_
      (go_simp; (try go_bits))
      clear b0 b1 b2 b3 b4 t1
      obtain ⟨df, sz, t1, t2, bel, v0, v1, n0, a0, l0, o0, n1, a1, l1, o1, n2, a2, l2, o2, n3, a3, l3, o3, bv, no⟩ := hI
      simp only at sz t1 t2 v0 v1 n0 a0 l0 o0 n1 a1 l1 o1 n2 a2 l2 o2 n3 a3 l3 o3 bv
      refine .inl ⟨rfl, by simpa using sz, ?_, ?_, ?_, ?_, ?_, ?_, ?_, ?_, ?_, ?_, ?_, ?_, ?_, ?_, ?_, ?_, ?_, ?_, ?_, ?_, ?_, ?_, ?_⟩
      all_goals simp (disch := decide) only [gne]
      all_goals first
        | assumption
        | (intro _; exact geq (by rw [sz]; decide))
        | (intro hh; rw [h18] at hh; cases hh)
        | (intro _ hh; rw [geq hls] at hh; cases hh)
    · have h18 : l.getD 18 false = false := by
        cases hq : l.getD 18 false with
        | false => rfl
        | true => exact absurd (dc_of hd 20 (i := 17) rfl hq (by kernel_rfl)) (by rw [unl hun]; decide)
      have h19 : l.getD 19 false = false := hI.no
      have hls : 17 < l.size := by
        apply Nat.lt_of_not_le; intro hle; rw [Array.getD_eq_getD_getElem?, Array.getElem?_eq_none hle] at hun; cases hun
      have hn := hI.n3 (ready_dep hi rfl (by kernel_rfl)) (unl hun)
      have hlv := hI.l3 (ready_dep hi rfl (by kernel_rfl))
      have hbl := hI.bel h19
      simp only at hn hlv
      obtain ⟨v', w', hrun, hown', hbl', hgr, -⟩ := append_row Tie.E (w0 := W2) (x := tm.getD 19 undef) (m := p.ties.length) (news := Tie.cs p.ties) hn hbl (by rw [hlv]; exact hp.out.ties.below hbl) (by intro u hu; obtain ⟨x, _, hx⟩ := List.mem_flatMap.1 hu; simp only [Tie.T.cells, List.mem_cons, List.not_mem_nil, or_false] at hx; rcases hx with hx | hx <;> (rw [hx]; rfl)) (by simp only [maxLen]; omega) (by omega)
      have hown2 := Lib.hid (show w'.ownsRow W2.heap.size 90 2 v' p.ties.length (Tie.cs p.ties) by simpa using hown')
      refine wpOp_of rfl ?_
      refine loud_append rfl rfl hrun ?_
      obtain ⟨df, sz, t1, t2, bel, v0, v1, n0, a0, l0, o0, n1, a1, l1, o1, n2, a2, l2, o2, n3, a3, l3, o3, bv, no⟩ := hI
      simp only at sz t1 t2 v0 v1 n0 a0 l0 o0 n1 a1 l1 o1 n2 a2 l2 o2 n3 a3 l3 o3 bv
      (go_simp)
      refine .inl ⟨rfl, by simpa using sz, ?_, ?_, ?_, ?_, ?_, ?_, ?_, ?_, ?_, ?_, ?_, ?_, ?_, ?_, ?_, ?_, ?_, ?_, ?_, ?_, ?_, ?_, ?_⟩
      all_goals simp (disch := decide) only [gne]
      all_goals first
        | assumption
        | (intro _; exact geq (by rw [sz]; decide))
        | (intro hh; rw [h18] at hh; cases hh)
        | (intro _ hh; rw [geq hls] at hh; cases hh)
        | exact fun _ => hbl'
        | (intro _ _; rw [geq (by rw [sz]; decide)]; exact hown2.out)
        | (intro hh hq; exact owns_kept (n0 hh hq) hgr (fun q hq2 e => own_two (n0 hh hq) hn (by decide) q hq2 e))
        | (intro hh hq; exact owns_kept (o0 hh hq) hgr (fun q hq2 e => own_two (o0 hh hq) hn (by decide) q hq2 e))
        | (intro hh hq; exact owns_kept (n1 hh hq) hgr (fun q hq2 e => own_two (n1 hh hq) hn (by decide) q hq2 e))
        | (intro hh hq; exact owns_kept (o1 hh hq) hgr (fun q hq2 e => own_two (o1 hh hq) hn (by decide) q hq2 e))
        | (intro hh hq; exact owns_kept (n2 hh hq) hgr (fun q hq2 e => own_two (n2 hh hq) hn (by decide) q hq2 e))
        | (intro hh hq; exact owns_kept (o2 hh hq) hgr (fun q hq2 e => own_two (o2 hh hq) hn (by decide) q hq2 e))
    · have h19 : l.getD 19 false = false := hI.no
      have hls : 18 < l.size := by
        apply Nat.lt_of_not_le; intro hle; rw [Array.getD_eq_getD_getElem?, Array.getElem?_eq_none hle] at hun; cases hun
      have v1 := hI.v1 (ready_dep (j := 1) hi rfl (by kernel_rfl))
      obtain ⟨A5, c5, e0, -⟩ := row_of_owns (hI.o0 (ready_dep (j := 5) hi rfl (by kernel_rfl)) h19)
      obtain ⟨A6, c6, e1, -⟩ := row_of_owns (hI.o1 (ready_dep (j := 9) hi rfl (by kernel_rfl)) h19)
      obtain ⟨A7, c7, e2, -⟩ := row_of_owns (hI.o2 (ready_dep (j := 13) hi rfl (by kernel_rfl)) h19)
      obtain ⟨A8, c8, e3, -⟩ := row_of_owns (hI.o3 (ready_dep (j := 17) hi rfl (by kernel_rfl)) h19)
      simp only at v1 e0 e1 e2 e3
      have v1q := v1
      have e0q := e0
      have e1q := e1
      have e2q := e2
      have e3q := e3
      rw [Array.getD_eq_getD_getElem?] at v1q e0q e1q e2q e3q
      refine wpOp_of rfl ?_
      (go_simp; (try go_bits))
      clear v1q e0q e1q e2q e3q
      obtain ⟨df, sz, t1, t2, bel, v0, v1x, n0, a0, l0, o0, n1, a1, l1, o1, n2, a2, l2, o2, n3, a3, l3, o3, bv, no⟩ := hI
      simp only at sz t1 t2 v0 v1x n0 a0 l0 o0 n1 a1 l1 o1 n2 a2 l2 o2 n3 a3 l3 o3 bv
      refine .inl ⟨rfl, by simpa using sz, ?_, ?_, ?_, ?_, ?_, ?_, ?_, ?_, ?_, ?_, ?_, ?_, ?_, ?_, ?_, ?_, ?_, ?_, ?_, ?_, ?_, ?_, ?_⟩
      all_goals simp (disch := decide) only [gne]
      all_goals first
        | assumption
        | (intro _ hh; rw [geq hls] at hh; cases hh)
        | (intro _; rw [v1, e0, e1, e2, e3]; exact geq (by rw [sz]; decide))
    · have h19 : l.getD 19 false = false := hI.no
      have hls : 19 < l.size := by
        apply Nat.lt_of_not_le; intro hle; rw [Array.getD_eq_getD_getElem?, Array.getElem?_eq_none hle] at hun; cases hun
      have h18 := ready_dep (j := 18) hi rfl (by kernel_rfl)
      have v1 := hI.v1 (dc_of hd 20 (j := 18) rfl (ready_dep (j := 18) hi rfl (by kernel_rfl)) (by kernel_rfl))
      obtain ⟨A5, c5, e0, -⟩ := row_of_owns (hI.o0 (dc_of hd 20 (j := 18) rfl (ready_dep (j := 18) hi rfl (by kernel_rfl)) (by kernel_rfl)) h19)
      obtain ⟨A6, c6, e1, -⟩ := row_of_owns (hI.o1 (dc_of hd 20 (j := 18) rfl (ready_dep (j := 18) hi rfl (by kernel_rfl)) (by kernel_rfl)) h19)
      obtain ⟨A7, c7, e2, -⟩ := row_of_owns (hI.o2 (dc_of hd 20 (j := 18) rfl (ready_dep (j := 18) hi rfl (by kernel_rfl)) (by kernel_rfl)) h19)
      obtain ⟨A8, c8, e3, -⟩ := row_of_owns (hI.o3 (dc_of hd 20 (j := 18) rfl (ready_dep (j := 18) hi rfl (by kernel_rfl)) (by kernel_rfl)) h19)
      simp only at v1 e0 e1 e2 e3
      have v1q := v1
      have e0q := e0
      have e1q := e1
      have e2q := e2
      have e3q := e3
      rw [Array.getD_eq_getD_getElem?] at v1q e0q e1q e2q e3q
      have hbv := hI.bv h18
      have t2 := hI.t2
      simp only at hbv t2
      rw [v1, e0, e1, e2, e3] at hbv
      have hbvq := hbv
      have t2q := t2
      rw [Array.getD_eq_getD_getElem?] at hbvq t2q
      have hbl := hI.bel h19
      have k5 := blk_below hx5 hbl
      obtain ⟨y0, y1, y2, y3, y4⟩ := blk5 k5
      have f0 := frz k5 0
      have f1 := frz k5 1
      have f2 := frz k5 2
      have f3 := frz k5 3
      have f4 := frz k5 4
      have r0 := hI.o0 (dc_of hd 20 (j := 18) rfl h18 (by kernel_rfl)) h19
      have r1 := hI.o1 (dc_of hd 20 (j := 18) rfl h18 (by kernel_rfl)) h19
      have r2 := hI.o2 (dc_of hd 20 (j := 18) rfl h18 (by kernel_rfl)) h19
      have r3 := hI.o3 (dc_of hd 20 (j := 18) rfl h18 (by kernel_rfl)) h19
      simp only at r0 r1 r2 r3
      rw [e0] at r0
      rw [e1] at r1
      rw [e2] at r2
      rw [e3] at r3
      replace r0 := Lib.hid r0
      replace r1 := Lib.hid r1
      replace r2 := Lib.hid r2
      replace r3 := Lib.hid r3
      have sz := hI.sz
      have hall : Hid (∀ j, j < 20 → (l.setIfInBounds 19 true).getD j false = true) := Lib.hid (fun j hj => by
        by_cases h : j = 19
        · subst h; exact geq hls
        · rw [gne (Ne.symm h)]
          rcases (by omega : j = 0 ∨ j = 1 ∨ j = 2 ∨ j = 3 ∨ j = 4 ∨ j = 5 ∨ j = 6 ∨ j = 7 ∨ j = 8 ∨ j = 9 ∨ j = 10 ∨ j = 11 ∨ j = 12 ∨ j = 13 ∨ j = 14 ∨ j = 15 ∨ j = 16 ∨ j = 17 ∨ j = 18) with rfl | rfl | rfl | rfl | rfl | rfl | rfl | rfl | rfl | rfl | rfl | rfl | rfl | rfl | rfl | rfl | rfl | rfl | rfl
          all_goals first | exact h18 | exact dc_of hd 20 (j := 18) rfl h18 (by kernel_rfl) | exact ready_dep hi rfl (by kernel_rfl))
      refine wpOp_of rfl ?_
      (go_simp; (try go_bits))
      refine .inr ⟨hall.out, rfl, sz, t2, .slice A5 p.rules.length c5, .slice A6 p.chunks.length c6, .slice A7 p.spans.length c7, .slice A8 p.ties.length c8, ?_, ?_, ?_, ?_, ?_, ?_⟩
      · have := heap_set (heap_set (heap_set (heap_set (heap_set k5 0 (.int .i64 p.ind)) 1 (.slice A5 p.rules.length c5)) 2 (.slice A6 p.chunks.length c6)) 3 (.slice A7 p.spans.length c7)) 4 (.slice A8 p.ties.length c8)
        simpa using this
      · exact own_mono (owns_kept r0.out (grown_set (grown_set (grown_set (grown_set (grown_set (World.grownBy.refl w1 _) 0 _) 1 _) 2 _) 3 _) 4 _) (fun q hq e => own_ne r0.out k5 (by decide) (by rw [hq, e]))) hx7.size
      · exact own_mono (owns_kept r1.out (grown_set (grown_set (grown_set (grown_set (grown_set (World.grownBy.refl w1 _) 0 _) 1 _) 2 _) 3 _) 4 _) (fun q hq e => own_ne r1.out k5 (by decide) (by rw [hq, e]))) hx7.size
      · exact own_mono (owns_kept r2.out (grown_set (grown_set (grown_set (grown_set (grown_set (World.grownBy.refl w1 _) 0 _) 1 _) 2 _) 3 _) 4 _) (fun q hq e => own_ne r2.out k5 (by decide) (by rw [hq, e]))) hx7.size
      · exact own_mono (owns_kept r3.out (grown_set (grown_set (grown_set (grown_set (grown_set (World.grownBy.refl w1 _) 0 _) 1 _) 2 _) 3 _) 4 _) (fun q hq e => own_ne r3.out k5 (by decide) (by rw [hq, e]))) hx7.size
      · have hb9 := hx7.trans (hbl.mono hx7.size)
        repeat (first | (with_reducible exact hb9) | refine Below.setCell ?_ (by simp <;> omega) _)
  · intro l a w1 hIF hall
    rcases hIF with hI | hF
    · have := hI.no
      rw [hall 19 (by decide)] at this
      cases this
    · obtain ⟨-, df, sz, t2, r', c', s', t', hb2, r0, r1, r2, r3, hB⟩ := hF
      obtain ⟨tm, dfs⟩ := a
      simp only at df t2
      subst df
      obtain ⟨y0, y1, y2, y3, y4⟩ := blk5 hb2
      have t2q := t2
      rw [Array.getD_eq_getD_getElem?] at t2q
      go_wp2
      refine bodyPost_ret (v := pv p.ind r' c' s' t') (by simp [results, Try.results119, go_sem, t2, t2q, y0, y1, y2, y3, y4]) rfl ⟨r', c', s', t', rfl, r0, r1, r2, r3, hB⟩
end Go.Proofs.Ytlakellmdcdaaaa.Draw
