/-
  The contracts of the laws' helpers over pieces: counted, copied, compared, marked.
  Conditions: the piece's four slices read as lists of records.
-/
import Derived.Test.YtlakellmdcdaaaaRule
import Derived.Test.YtlakellmdcdaaaaChunk
import Derived.Test.YtlakellmdcdaaaaSpan
import Derived.Test.YtlakellmdcdaaaaTie
import Derived.Test.YtlakellmdcdaaaaBlocks
namespace Go.Proofs.Ytlakellmdcdaaaa.Piece
open Go.RowKit Go.Proofs.Ytlakellmdcdaaaa.Row Go.Proofs.Ytlakellmdcdaaaa.Mem Go.Proofs.Ytlakellmdcdaaaa.Mix Go.Proofs.Ytlakellmdcdaaaa.Recs Go.Proofs.Ytlakellmdcdaaaa.Owns Go.Proofs.Ytlakellmdcdaaaa.Blocks
structure P where
  ind : Int
  rules : List Rule.T
  chunks : List Chunk.T
  spans : List Span.T
  ties : List Tie.T
/-- the piece's value: an indent, four slices -/
abbrev pv (i : Int) (r c s t : Value) : Value := .agg #[.int .i64 i, r, c, s, t]
structure PRow (w : World) (p : P) (r c s t : Value) : Prop where
  rules : Row w r 2 p.rules.length (Rule.cs p.rules)
  chunks : Row w c 5 p.chunks.length (Chunk.cs p.chunks)
  spans : Row w s 3 p.spans.length (Span.cs p.spans)
  ties : Row w t 2 p.ties.length (Tie.cs p.ties)
theorem PRow.below {w w' : World} {p : P} {r c s t : Value} (h : PRow w p r c s t) (hb : Below w.heap.size w w') : PRow w' p r c s t :=
  ⟨h.rules.below hb, h.chunks.below hb, h.spans.below hb, h.ties.below hb⟩
theorem PRow.drew {w : World} {p : P} {r c s t : Value} (h : PRow w p r c s t) : PRow w.drew p r c s t := ⟨h.rules, h.chunks, h.spans, h.ties⟩
theorem PRow.lits {w : World} {p : P} {r c s t : Value} (h : PRow w p r c s t) : (∃ A k, r = .slice A p.rules.length k) ∧ (∃ A k, c = .slice A p.chunks.length k) ∧ (∃ A k, s = .slice A p.spans.length k) ∧ (∃ A k, t = .slice A p.ties.length k) := by
  obtain ⟨⟨A, k, h1, -⟩, ⟨A2, k2, h2, -⟩, ⟨A3, k3, h3, -⟩, ⟨A4, k4, h4, -⟩⟩ := h
  exact ⟨⟨_, _, h1⟩, ⟨_, _, h2⟩, ⟨_, _, h3⟩, ⟨_, _, h4⟩⟩
/-- what the sizes tell -/
def Small (p : P) (left : Int) : Prop := (p.rules.length : Int) ≤ left ∧ (p.chunks.length : Int) + (Strs.tot (Chunk.texts p.chunks) : Int) ≤ left ∧ (p.spans.length : Int) ≤ left ∧ (p.ties.length : Int) ≤ left
def SzP (p : P) (left : Int) (e : Ending) : Prop := ∃ q : Int, e = .returned (.int .i64 q) ∧ (q < 0 ∨ (0 ≤ q ∧ q ≤ left ∧ Small p left))
theorem guardC (xs : List Chunk.T) (left : Int) (h0 : 0 ≤ left) : (∃ r : Int, Strs.sz (Chunk.texts xs) left = r ∧ 0 ≤ r ∧ r ≤ left ∧ (xs.length : Int) + (Strs.tot (Chunk.texts xs) : Int) ≤ left) ∨ Strs.sz (Chunk.texts xs) left = -1 := by
  unfold Strs.sz
  split
  · rename_i h
    simp only [List.length_map] at h ⊢
    exact .inl ⟨_, rfl, by omega, by omega, by omega⟩
  · exact .inr rfl
set_option maxRecDepth 100000 in
set_option maxHeartbeats 1600000 in
theorem sz_any {p : P} {r c s t : Value} {w : World} (h : PRow w p r c s t) (hs : ∀ x ∈ p.chunks, x.t.size ≤ maxLen) (left : Int) (h0 : 0 ≤ left) (hm : left ≤ 1048576) :
    Calls Try.prog 15 #[pv p.ind r c s t, .int .i64 left] w fun e w' => SzP p left e ∧ Below w.heap.size w w' := by
  obtain ⟨⟨A1, k1, rfl⟩, ⟨A2, k2, rfl⟩, ⟨A3, k3, rfl⟩, ⟨A4, k4, rfl⟩⟩ := h.lits
  have hb0 := (Below.refl w.heap.size w).alloc (Nat.le_refl _) (.cells #[.int .i64 p.ind, .slice A1 p.rules.length k1, .slice A2 p.chunks.length k2, .slice A3 p.spans.length k3, .slice A4 p.ties.length k4] 27)
  have hbx := heap_alloc_new w (.cells #[.int .i64 p.ind, .slice A1 p.rules.length k1, .slice A2 p.chunks.length k2, .slice A3 p.spans.length k3, .slice A4 p.ties.length k4] 27)
  replace h := Lib.hid (h.below hb0)
  replace hs := Lib.hid hs
  go_enter Try.func15, Try.ntmps15
  go_wp2_with fail
  refine (Rule.sz_any h.out.rules left h0 hm).mono ?_
  rintro e w1 ⟨rfl, rfl⟩
  rcases szi_cases p.rules.length left h0 with ⟨q1, hq, p1, l1, m1⟩ | hq
  · rw [hq]
    clear hq
    have d1 : decide (q1 < 0) = false := by simp; omega
    replace hbx := Lib.hid hbx
    go_wp2_with fail
    refine (Chunk.sz_any h.out.chunks hs.out q1 p1 (by omega)).mono ?_
    rintro e w2 ⟨rfl, b2⟩
    replace hbx := blk_below hbx.out b2
    replace hb0 := hb0.trans (b2.mono hb0.size)
    replace h := Lib.hid (h.out.below b2)
    clear b2
    rcases guardC p.chunks q1 p1 with ⟨q2, hq, p2, l2, m2⟩ | hq
    · rw [hq]
      clear hq
      have d2 : decide (q2 < 0) = false := by simp; omega
      obtain ⟨x0, x1, x2, x3, x4⟩ := blk5 hbx
      clear hbx
      go_wp2_with fail
      refine (Span.sz_any h.out.spans q2 p2 (by omega)).mono ?_
      rintro e w3 ⟨rfl, rfl⟩
      rcases szi_cases p.spans.length q2 p2 with ⟨q3, hq, p3, l3, m3⟩ | hq
      · rw [hq]
        clear hq
        have d3 : decide (q3 < 0) = false := by simp; omega
        go_wp2_with fail
        refine (Tie.sz_any h.out.ties q3 p3 (by omega)).mono ?_
        rintro e w4 ⟨rfl, rfl⟩
        rcases szi_cases p.ties.length q3 p3 with ⟨q4, hq, p4, l4, m4⟩ | hq
        · rw [hq]
          clear hq
          have d4 : decide (q4 < 0) = false := by simp; omega
          have hsm : Small p left := ⟨by omega, by omega, by omega, by omega⟩
          go_wp2
          go_ret
          exact ⟨⟨q4, rfl, .inr ⟨p4, by omega, hsm⟩⟩, hb0⟩
        · rw [hq]
          go_wp2
          go_ret
          exact ⟨⟨-1, rfl, .inl (by omega)⟩, hb0⟩
      · rw [hq]
        go_wp2
        go_ret
        exact ⟨⟨-1, rfl, .inl (by omega)⟩, hb0⟩
    · rw [hq]
      clear hbx
      go_wp2
      go_ret
      exact ⟨⟨-1, rfl, .inl (by omega)⟩, hb0⟩
  · rw [hq]
    clear hbx
    go_wp2
    go_ret
    exact ⟨⟨-1, rfl, .inl (by omega)⟩, hb0⟩
/-- a piece in blocks of its own, each known whole -/
def POwn (w : World) (lo hi : Nat) (p : P) (r c s t : Value) : Prop := ∃ g1 g2 g3 g4, lo ≤ g1 ∧ g1 < g2 ∧ g2 < g3 ∧ g3 < g4 ∧ g4 < hi ∧ Own w r 80 2 g1 p.rules.length (Rule.cs p.rules) ∧ Own w c 95 5 g2 p.chunks.length (Chunk.cs p.chunks) ∧
  Own w s 98 3 g3 p.spans.length (Span.cs p.spans) ∧ Own w t 90 2 g4 p.ties.length (Tie.cs p.ties)
theorem POwn.row {w : World} {lo hi : Nat} {p : P} {r c s t : Value} (h : POwn w lo hi p r c s t) : PRow w p r c s t := by
  obtain ⟨g1, g2, g3, g4, -, -, -, -, -, o1, o2, o3, o4⟩ := h
  exact ⟨o1.row, o2.row, o3.row, o4.row⟩
theorem POwn.below {w w' : World} {lo hi : Nat} {p : P} {r c s t : Value} (h : POwn w lo hi p r c s t) (hb : Below w.heap.size w w') : POwn w' lo hi p r c s t := by
  obtain ⟨g1, g2, g3, g4, a1, a2, a3, a4, a5, o1, o2, o3, o4⟩ := h
  exact ⟨g1, g2, g3, g4, a1, a2, a3, a4, a5, o1.below hb, o2.below hb, o3.below hb, o4.below hb⟩
theorem POwn.drew {w : World} {lo hi : Nat} {p : P} {r c s t : Value} (h : POwn w lo hi p r c s t) : POwn w.drew lo hi p r c s t := h
set_option maxRecDepth 100000 in
set_option maxHeartbeats 3200000 in
theorem to_any {p : P} {r c s t : Value} {w : World} (h : PRow w p r c s t) (n1 : p.rules.length ≤ 1048576) (n2 : p.chunks.length ≤ 1048576) (n3 : p.spans.length ≤ 1048576) (n4 : p.ties.length ≤ 1048576) :
    Calls Try.prog 17 #[pv p.ind r c s t] w fun e w' => ∃ r' c' s' t', e = .returned (pv p.ind r' c' s' t') ∧ POwn w' w.heap.size w'.heap.size p r' c' s' t' ∧ Below w.heap.size w w' := by
  obtain ⟨⟨A1, m1, rfl⟩, ⟨A2, m2, rfl⟩, ⟨A3, m3, rfl⟩, ⟨A4, m4, rfl⟩⟩ := h.lits
  obtain ⟨k0, k1, k2, hsz⟩ := three w (.cells #[.int .i64 p.ind, .slice A1 p.rules.length m1, .slice A2 p.chunks.length m2, .slice A3 p.spans.length m3, .slice A4 p.ties.length m4] 27)
    (.cells #[.int .i64 0, .slice none 0 0, .slice none 0 0, .slice none 0 0, .slice none 0 0] 35) (.cells #[.int .i64 p.ind, .slice none 0 0, .slice none 0 0, .slice none 0 0, .slice none 0 0] 35)
  have hbw := below3 w (.cells #[.int .i64 p.ind, .slice A1 p.rules.length m1, .slice A2 p.chunks.length m2, .slice A3 p.spans.length m3, .slice A4 p.ties.length m4] 27)
    (.cells #[.int .i64 0, .slice none 0 0, .slice none 0 0, .slice none 0 0, .slice none 0 0] 35) (.cells #[.int .i64 p.ind, .slice none 0 0, .slice none 0 0, .slice none 0 0, .slice none 0 0] 35)
  replace h := Lib.hid h
  replace hbw := Lib.hid hbw
  replace k0 := Lib.hid k0
  replace k1 := Lib.hid k1
  replace k2 := Lib.hid k2
  replace hsz := Lib.hid hsz
  go_enter Try.func17, Try.ntmps17
  go_wp2_with fail
  refine (Rule.to_any (h.out.below hbw.out).rules (by omega)).mono ?_
  rintro e w1 ⟨rfl, o1, b1⟩
  rw [hsz.out]
  rw [hsz.out] at o1
  have q0 := blk_below k0.out b1
  have q1 := blk_below k1.out b1
  have q2 := blk_below k2.out b1
  have hB := hbw.out.trans (b1.mono hbw.out.size)
  have z1 := o1.lt
  clear k0 k1 k2 hsz hbw b1
  -- the store
  have K0 := (Below.heap_setCell w1 ⟨w.heap.size + 1 + 1, 1, none⟩ (.slice (some ⟨w.heap.size + 1 + 1 + 1, 0, none⟩) p.rules.length p.rules.length) w.heap.size (by simp <;> omega)).trans q0
  have K1 := (Below.heap_setCell w1 ⟨w.heap.size + 1 + 1, 1, none⟩ (.slice (some ⟨w.heap.size + 1 + 1 + 1, 0, none⟩) p.rules.length p.rules.length) (w.heap.size + 1) (by simp)).trans q1
  have K2 : (w1.setCell ⟨w.heap.size + 1 + 1, 1, none⟩ (.slice (some ⟨w.heap.size + 1 + 1 + 1, 0, none⟩) p.rules.length p.rules.length)).heap[w.heap.size + 1 + 1]? = some (.cells #[.int .i64 p.ind, .slice (some ⟨w.heap.size + 1 + 1 + 1, 0, none⟩) p.rules.length p.rules.length, .slice none 0 0, .slice none 0 0, .slice none 0 0] 35 (0, 0)) := heap_set q2 1 _
  have hB1 := Lib.hid (hB.setCell (p := ⟨w.heap.size + 1 + 1, 1, none⟩) (by simp <;> omega) (.slice (some ⟨w.heap.size + 1 + 1 + 1, 0, none⟩) p.rules.length p.rules.length))
  have O1 := Lib.hid (o1.setCell (p := ⟨w.heap.size + 1 + 1, 1, none⟩) (by simp <;> omega) (.slice (some ⟨w.heap.size + 1 + 1 + 1, 0, none⟩) p.rules.length p.rules.length))
  have hS1 : (w1.setCell ⟨w.heap.size + 1 + 1, 1, none⟩ (.slice (some ⟨w.heap.size + 1 + 1 + 1, 0, none⟩) p.rules.length p.rules.length)).heap.size = w1.heap.size := by simp [World.setCell]
  replace hS1 := Lib.hid hS1
  replace K0 := Lib.hid K0
  replace K1 := Lib.hid K1
  replace K2 := Lib.hid K2
  obtain ⟨x0, x1, x2, x3, x4⟩ := blk5 q0
  obtain ⟨y0, y1, y2, y3, y4⟩ := blk5 q2
  have fy := frz q2
  clear q0 q1 q2 hB o1
  go_wp2_with fail
  refine (Chunk.to_any (h.out.below hB1.out).chunks (by omega)).mono ?_
  rintro e w2 ⟨rfl, o2, b2⟩
  rw [hS1.out]
  rw [hS1.out] at o2
  clear x0 x1 x2 x3 x4 y0 y1 y2 y3 y4 fy
  have q0 := blk_below K0.out b2
  have q1 := blk_below K1.out b2
  have q2 := blk_below K2.out b2
  have hB := hB1.out.trans (b2.mono hB1.out.size)
  have o1 := O1.out.below b2
  have z2 := o2.lt
  clear K0 K1 K2 hS1 hB1 O1 b2
  have K0 := (Below.heap_setCell w2 ⟨w.heap.size + 1 + 1, 2, none⟩ (.slice (some ⟨w1.heap.size, 0, none⟩) p.chunks.length p.chunks.length) w.heap.size (by simp <;> omega)).trans q0
  have K1 := (Below.heap_setCell w2 ⟨w.heap.size + 1 + 1, 2, none⟩ (.slice (some ⟨w1.heap.size, 0, none⟩) p.chunks.length p.chunks.length) (w.heap.size + 1) (by simp)).trans q1
  have K2 : (w2.setCell ⟨w.heap.size + 1 + 1, 2, none⟩ (.slice (some ⟨w1.heap.size, 0, none⟩) p.chunks.length p.chunks.length)).heap[w.heap.size + 1 + 1]? = some (.cells #[.int .i64 p.ind, .slice (some ⟨w.heap.size + 1 + 1 + 1, 0, none⟩) p.rules.length p.rules.length, .slice (some ⟨w1.heap.size, 0, none⟩) p.chunks.length p.chunks.length, .slice none 0 0, .slice none 0 0] 35 (0, 0)) := heap_set q2 2 _
  have hB1 := Lib.hid (hB.setCell (p := ⟨w.heap.size + 1 + 1, 2, none⟩) (by simp <;> omega) (.slice (some ⟨w1.heap.size, 0, none⟩) p.chunks.length p.chunks.length))
  have O1 := Lib.hid (o1.setCell (p := ⟨w.heap.size + 1 + 1, 2, none⟩) (by simp <;> omega) (.slice (some ⟨w1.heap.size, 0, none⟩) p.chunks.length p.chunks.length))
  have O2 := Lib.hid (o2.setCell (p := ⟨w.heap.size + 1 + 1, 2, none⟩) (by simp <;> omega) (.slice (some ⟨w1.heap.size, 0, none⟩) p.chunks.length p.chunks.length))
  have hS1 : (w2.setCell ⟨w.heap.size + 1 + 1, 2, none⟩ (.slice (some ⟨w1.heap.size, 0, none⟩) p.chunks.length p.chunks.length)).heap.size = w2.heap.size := by simp [World.setCell]
  replace hS1 := Lib.hid hS1
  replace K0 := Lib.hid K0
  replace K1 := Lib.hid K1
  replace K2 := Lib.hid K2
  obtain ⟨x0, x1, x2, x3, x4⟩ := blk5 q0
  obtain ⟨y0, y1, y2, y3, y4⟩ := blk5 q2
  have fy := frz q2
  clear q0 q1 q2 hB o1 o2
  go_wp2_with fail
  refine (Span.to_any (h.out.below hB1.out).spans (by omega)).mono ?_
  rintro e w3 ⟨rfl, o3, b3⟩
  rw [hS1.out]
  rw [hS1.out] at o3
  clear x0 x1 x2 x3 x4 y0 y1 y2 y3 y4 fy
  have q0 := blk_below K0.out b3
  have q1 := blk_below K1.out b3
  have q2 := blk_below K2.out b3
  have hB := hB1.out.trans (b3.mono hB1.out.size)
  have o1 := O1.out.below b3
  have o2 := O2.out.below b3
  have z3 := o3.lt
  clear K0 K1 K2 hS1 hB1 O1 O2 b3
  have K0 := (Below.heap_setCell w3 ⟨w.heap.size + 1 + 1, 3, none⟩ (.slice (some ⟨w2.heap.size, 0, none⟩) p.spans.length p.spans.length) w.heap.size (by simp <;> omega)).trans q0
  have K1 := (Below.heap_setCell w3 ⟨w.heap.size + 1 + 1, 3, none⟩ (.slice (some ⟨w2.heap.size, 0, none⟩) p.spans.length p.spans.length) (w.heap.size + 1) (by simp)).trans q1
  have K2 : (w3.setCell ⟨w.heap.size + 1 + 1, 3, none⟩ (.slice (some ⟨w2.heap.size, 0, none⟩) p.spans.length p.spans.length)).heap[w.heap.size + 1 + 1]? = some (.cells #[.int .i64 p.ind, .slice (some ⟨w.heap.size + 1 + 1 + 1, 0, none⟩) p.rules.length p.rules.length, .slice (some ⟨w1.heap.size, 0, none⟩) p.chunks.length p.chunks.length, .slice (some ⟨w2.heap.size, 0, none⟩) p.spans.length p.spans.length, .slice none 0 0] 35 (0, 0)) := heap_set q2 3 _
  have hB1 := Lib.hid (hB.setCell (p := ⟨w.heap.size + 1 + 1, 3, none⟩) (by simp <;> omega) (.slice (some ⟨w2.heap.size, 0, none⟩) p.spans.length p.spans.length))
  have O1 := Lib.hid (o1.setCell (p := ⟨w.heap.size + 1 + 1, 3, none⟩) (by simp <;> omega) (.slice (some ⟨w2.heap.size, 0, none⟩) p.spans.length p.spans.length))
  have O2 := Lib.hid (o2.setCell (p := ⟨w.heap.size + 1 + 1, 3, none⟩) (by simp <;> omega) (.slice (some ⟨w2.heap.size, 0, none⟩) p.spans.length p.spans.length))
  have O3 := Lib.hid (o3.setCell (p := ⟨w.heap.size + 1 + 1, 3, none⟩) (by simp <;> omega) (.slice (some ⟨w2.heap.size, 0, none⟩) p.spans.length p.spans.length))
  have hS1 : (w3.setCell ⟨w.heap.size + 1 + 1, 3, none⟩ (.slice (some ⟨w2.heap.size, 0, none⟩) p.spans.length p.spans.length)).heap.size = w3.heap.size := by simp [World.setCell]
  replace hS1 := Lib.hid hS1
  replace K0 := Lib.hid K0
  replace K1 := Lib.hid K1
  replace K2 := Lib.hid K2
  obtain ⟨x0, x1, x2, x3, x4⟩ := blk5 q0
  obtain ⟨y0, y1, y2, y3, y4⟩ := blk5 q2
  have fy := frz q2
  clear q0 q1 q2 hB o1 o2 o3
  go_wp2_with fail
  refine (Tie.to_any (h.out.below hB1.out).ties (by omega)).mono ?_
  rintro e w4 ⟨rfl, o4, b4⟩
  rw [hS1.out]
  rw [hS1.out] at o4
  clear x0 x1 x2 x3 x4 y0 y1 y2 y3 y4 fy
  have q1 := blk_below K1.out b4
  have q2 := blk_below K2.out b4
  have hB := Lib.hid (hB1.out.trans (b4.mono hB1.out.size))
  have o1 := Lib.hid (O1.out.below b4)
  have o2 := Lib.hid (O2.out.below b4)
  have o3 := Lib.hid (O3.out.below b4)
  have z4 := o4.lt
  replace o4 := Lib.hid o4
  clear K0 K1 K2 hS1 hB1 O1 O2 O3 b4
  obtain ⟨x0, x1, x2, x3, x4⟩ := blk5 q1
  obtain ⟨y0, y1, y2, y3, y4⟩ := blk5 q2
  have fx := frz q1
  have fy := frz q2
  clear q1 q2
  go_wp2
  refine bodyPost_ret (v := pv p.ind (.slice (some ⟨w.heap.size + 1 + 1 + 1, 0, none⟩) p.rules.length p.rules.length) (.slice (some ⟨w1.heap.size, 0, none⟩) p.chunks.length p.chunks.length) (.slice (some ⟨w2.heap.size, 0, none⟩) p.spans.length p.spans.length) (.slice (some ⟨w3.heap.size, 0, none⟩) p.ties.length p.ties.length))
    (by simp [results, Try.results17, go_sem, x0, x1, x2, x3, x4]) rfl ⟨_, _, _, _, rfl, ⟨w.heap.size + 1 + 1 + 1, w1.heap.size, w2.heap.size, w3.heap.size, by omega, z1, z2, z3, by simpa [World.setCell] using z4, ?_, ?_, ?_, ?_⟩, ?_⟩
  · repeat (first | (with_reducible exact o1.out) | refine Own.setCell ?_ (by simp <;> omega) _)
  · repeat (first | (with_reducible exact o2.out) | refine Own.setCell ?_ (by simp <;> omega) _)
  · repeat (first | (with_reducible exact o3.out) | refine Own.setCell ?_ (by simp <;> omega) _)
  · repeat (first | (with_reducible exact o4.out) | refine Own.setCell ?_ (by simp <;> omega) _)
  · repeat (first | (with_reducible exact hB.out) | refine Below.setCell ?_ (by simp <;> omega) _)
set_option maxRecDepth 100000 in
set_option maxHeartbeats 1600000 in
theorem eq_self {p : P} {r c s t r' c' s' t' : Value} {w : World} (h : PRow w p r c s t) (h' : PRow w p r' c' s' t') :
    Calls Try.prog 19 #[pv p.ind r c s t, pv p.ind r' c' s' t'] w fun e w' => e = .returned (.bool true) ∧ Below w.heap.size w w' := by
  obtain ⟨⟨A1, m1, rfl⟩, ⟨A2, m2, rfl⟩, ⟨A3, m3, rfl⟩, ⟨A4, m4, rfl⟩⟩ := h.lits
  obtain ⟨⟨B1, n1, rfl⟩, ⟨B2, n2, rfl⟩, ⟨B3, n3, rfl⟩, ⟨B4, n4, rfl⟩⟩ := h'.lits
  obtain ⟨k0, k1, hsz⟩ := two w (.cells #[.int .i64 p.ind, .slice A1 p.rules.length m1, .slice A2 p.chunks.length m2, .slice A3 p.spans.length m3, .slice A4 p.ties.length m4] 35)
    (.cells #[.int .i64 p.ind, .slice B1 p.rules.length n1, .slice B2 p.chunks.length n2, .slice B3 p.spans.length n3, .slice B4 p.ties.length n4] 35)
  have hbw := below2 w (.cells #[.int .i64 p.ind, .slice A1 p.rules.length m1, .slice A2 p.chunks.length m2, .slice A3 p.spans.length m3, .slice A4 p.ties.length m4] 35)
    (.cells #[.int .i64 p.ind, .slice B1 p.rules.length n1, .slice B2 p.chunks.length n2, .slice B3 p.spans.length n3, .slice B4 p.ties.length n4] 35)
  have d : (p.ind != p.ind) = false := by simp
  replace h := Lib.hid h
  replace h' := Lib.hid h'
  replace hbw := Lib.hid hbw
  replace k0 := Lib.hid k0
  replace k1 := Lib.hid k1
  clear hsz
  go_enter Try.func19, Try.ntmps19
  go_wp2_with fail
  refine (Rule.eq_self (h.out.below hbw.out).rules (h'.out.below hbw.out).rules).mono ?_
  rintro e w1 ⟨rfl, b1⟩
  replace hbw := Lib.hid (hbw.out.trans (b1.mono hbw.out.size))
  replace k0 := blk_below k0.out b1
  replace k1 := blk_below k1.out b1
  clear b1
  obtain ⟨x0, x1, x2, x3, x4⟩ := blk5 k0
  obtain ⟨y0, y1, y2, y3, y4⟩ := blk5 k1
  replace k0 := Lib.hid k0
  replace k1 := Lib.hid k1
  go_wp2_with fail
  refine (Chunk.eq_self (h.out.below hbw.out).chunks (h'.out.below hbw.out).chunks).mono ?_
  rintro e w2 ⟨rfl, b1⟩
  replace hbw := Lib.hid (hbw.out.trans (b1.mono hbw.out.size))
  replace k0 := blk_below k0.out b1
  replace k1 := blk_below k1.out b1
  clear b1 x0 x1 x2 x3 x4 y0 y1 y2 y3 y4
  obtain ⟨x0, x1, x2, x3, x4⟩ := blk5 k0
  obtain ⟨y0, y1, y2, y3, y4⟩ := blk5 k1
  replace k0 := Lib.hid k0
  replace k1 := Lib.hid k1
  go_wp2_with fail
  refine (Span.eq_self (h.out.below hbw.out).spans (h'.out.below hbw.out).spans).mono ?_
  rintro e w3 ⟨rfl, b1⟩
  replace hbw := Lib.hid (hbw.out.trans (b1.mono hbw.out.size))
  replace k0 := blk_below k0.out b1
  replace k1 := blk_below k1.out b1
  clear b1 x0 x1 x2 x3 x4 y0 y1 y2 y3 y4
  obtain ⟨x0, x1, x2, x3, x4⟩ := blk5 k0
  obtain ⟨y0, y1, y2, y3, y4⟩ := blk5 k1
  clear k0 k1
  go_wp2_with fail
  refine (Tie.eq_self (h.out.below hbw.out).ties (h'.out.below hbw.out).ties).mono ?_
  rintro e w4 ⟨rfl, b1⟩
  replace hbw := Lib.hid (hbw.out.trans (b1.mono hbw.out.size))
  clear b1 x0 x1 x2 x3 x4 y0 y1 y2 y3 y4
  go_wp2
  go_ret
  exact ⟨rfl, hbw.out⟩
set_option maxRecDepth 100000 in
set_option maxHeartbeats 1600000 in
theorem mark_any {p : P} {r c s t : Value} {w : World} {lo hi k : Nat} (h : POwn w lo hi p r c s t) (h1 : 1 ≤ k) (hk : k + p.rules.length * 2 + p.chunks.length * 5 + p.spans.length * 3 + p.ties.length * 2 ≤ 1099511627776) :
    Calls Try.prog 30 #[pv p.ind r c s t, .int .i64 k] w fun e w' => e = .returned (.int .i64 ((k + p.rules.length * 2 + p.chunks.length * 5 + p.spans.length * 3 + p.ties.length * 2 : Nat) : Int)) ∧ Betw lo hi w w' := by
  obtain ⟨⟨A1, m1, rfl⟩, ⟨A2, m2, rfl⟩, ⟨A3, m3, rfl⟩, ⟨A4, m4, rfl⟩⟩ := h.row.lits
  obtain ⟨g1, g2, g3, g4, l1, l2, l3, l4, l5, o1, o2, o3, o4⟩ := h
  have z4 := o4.lt
  have hb0 := (Below.refl w.heap.size w).alloc (Nat.le_refl _) (.cells #[.int .i64 p.ind, .slice A1 p.rules.length m1, .slice A2 p.chunks.length m2, .slice A3 p.spans.length m3, .slice A4 p.ties.length m4] 35)
  have hbx := heap_alloc_new w (.cells #[.int .i64 p.ind, .slice A1 p.rules.length m1, .slice A2 p.chunks.length m2, .slice A3 p.spans.length m3, .slice A4 p.ties.length m4] 35)
  have e1 : A1 = some ⟨g1, 0, none⟩ := by have := o1.1; injection this
  have e2 : A2 = some ⟨g2, 0, none⟩ := by have := o2.1; injection this
  have e3 : A3 = some ⟨g3, 0, none⟩ := by have := o3.1; injection this
  have e4 : A4 = some ⟨g4, 0, none⟩ := by have := o4.1; injection this
  subst e1 e2 e3 e4
  have hT := (Betw.refl lo hi w).below hb0
  replace o1 := Lib.hid (own_owns (o1.below hb0))
  replace o2 := Lib.hid (own_owns (o2.below hb0))
  replace o3 := Lib.hid (own_owns (o3.below hb0))
  replace o4 := Lib.hid (own_owns (o4.below hb0))
  replace hbx := Lib.hid hbx
  replace hT := Lib.hid hT
  obtain ⟨K1, hK1⟩ : ∃ K, K = k + p.rules.length * 2 := ⟨_, rfl⟩
  obtain ⟨K2, hK2⟩ : ∃ K, K = K1 + p.chunks.length * 5 := ⟨_, rfl⟩
  obtain ⟨K3, hK3⟩ : ∃ K, K = K2 + p.spans.length * 3 := ⟨_, rfl⟩
  obtain ⟨K4, hK4⟩ : ∃ K, K = K3 + p.ties.length * 2 := ⟨_, rfl⟩
  rw [← hK1, ← hK2, ← hK3, ← hK4] at hk ⊢
  have hk1 : k + p.rules.length * 2 ≤ 1099511627776 := by omega
  have hk2 : K1 + p.chunks.length * 5 ≤ 1099511627776 := by omega
  have hk3 : K2 + p.spans.length * 3 ≤ 1099511627776 := by omega
  have hk4 : K3 + p.ties.length * 2 ≤ 1099511627776 := by omega
  have hp1 : 1 ≤ K1 := by omega
  replace hK1 := Lib.hid hK1
  replace hK2 := Lib.hid hK2
  replace hK3 := Lib.hid hK3
  replace hK4 := Lib.hid hK4
  replace hk1 := Lib.hid hk1
  replace hk2 := Lib.hid hk2
  replace hk3 := Lib.hid hk3
  replace hk4 := Lib.hid hk4
  clear hb0 hk
  go_enter Try.func30, Try.ntmps30
  go_wp2_with fail
  refine (Rule.mark_any o1.out hk1.out).mono ?_
  rintro e w1 ⟨rfl, -, k1⟩
  rw [← hK1.out]
  replace k1 : World.grownBy _ w1 (some g1) := k1
  replace o2 := Lib.hid (owns_kept o2.out k1 (fun q hq e => by injection hq with hq; injection e with e; simp at hq e; omega))
  replace o3 := Lib.hid (owns_kept o3.out k1 (fun q hq e => by injection hq with hq; injection e with e; simp at hq e; omega))
  replace o4 := Lib.hid (owns_kept o4.out k1 (fun q hq e => by injection hq with hq; injection e with e; simp at hq e; omega))
  replace hbx := (k1.block _ (blk_lt hbx.out) (by intro e; injection e with e; omega)).trans hbx.out
  replace hT := Lib.hid (hT.out.grown k1 (fun q hq => by injection hq with hq; omega))
  clear k1
  obtain ⟨x0, x1, x2, x3, x4⟩ := blk5 hbx
  replace hbx := Lib.hid hbx
  go_wp2_with fail
  refine (Chunk.mark_any o2.out hp1 hk2.out).mono ?_
  rintro e w2 ⟨rfl, -, k1⟩
  rw [← hK2.out]
  replace k1 : World.grownBy _ w2 (some g2) := k1
  replace o3 := Lib.hid (owns_kept o3.out k1 (fun q hq e => by injection hq with hq; injection e with e; simp at hq e; omega))
  replace o4 := Lib.hid (owns_kept o4.out k1 (fun q hq e => by injection hq with hq; injection e with e; simp at hq e; omega))
  replace hbx := (k1.block _ (blk_lt hbx.out) (by intro e; injection e with e; omega)).trans hbx.out
  replace hT := Lib.hid (hT.out.grown k1 (fun q hq => by injection hq with hq; omega))
  clear k1 x0 x1 x2 x3 x4
  obtain ⟨x0, x1, x2, x3, x4⟩ := blk5 hbx
  replace hbx := Lib.hid hbx
  go_wp2_with fail
  refine (Span.mark_any o3.out hk3.out).mono ?_
  rintro e w3 ⟨rfl, -, k1⟩
  rw [← hK3.out]
  replace k1 : World.grownBy _ w3 (some g3) := k1
  replace o4 := Lib.hid (owns_kept o4.out k1 (fun q hq e => by injection hq with hq; injection e with e; simp at hq e; omega))
  replace hbx := (k1.block _ (blk_lt hbx.out) (by intro e; injection e with e; omega)).trans hbx.out
  replace hT := Lib.hid (hT.out.grown k1 (fun q hq => by injection hq with hq; omega))
  clear k1 x0 x1 x2 x3 x4
  obtain ⟨x0, x1, x2, x3, x4⟩ := blk5 hbx
  clear hbx
  go_wp2_with fail
  refine (Tie.mark_any o4.out hk4.out).mono ?_
  rintro e w4 ⟨rfl, -, k1⟩
  rw [← hK4.out]
  replace k1 : World.grownBy _ w4 (some g4) := k1
  replace hT := Lib.hid (hT.out.grown k1 (fun q hq => by injection hq with hq; omega))
  clear k1 x0 x1 x2 x3 x4
  go_wp2
  go_ret
  exact ⟨rfl, hT.out⟩
end Go.Proofs.Ytlakellmdcdaaaa.Piece
