/-
  The laws' piece that came in reads as a piece.
  Conditions: none beyond the reading.
-/
import Derived.Test.YtlakellmdcdaaaaRecArgs
import Derived.Test.YtlakellmdcdaaaaPiece
import Derived.Lib.SmallJoins
namespace Go.Proofs.Ytlakellmdcdaaaa.Piece
open Go.RowKit Go.Proofs.Ytlakellmdcdaaaa.Row Go.Proofs.Ytlakellmdcdaaaa.Args Go.Proofs.Ytlakellmdcdaaaa.Recs Go.Joins Go.ChangeShapes Go.WideShapes Go.Deep
section
variable {H : Type} {enc : TypeId × Value → H} {Pr : Program} {w : World} {base : Nat} {r : Reach}
theorem row_recs_at {α : Type} {f : α → List Value} {s : Nat} {Q : α → Prop} {t e : TypeId} {v : Value} {fuel : Nat} {y : DataW H × List MemPlace} (ht : Pr.underlying t = some (.slice e)) (hC : Pr.cellsOf e = s) (hs : 0 < s) (hfl : ∀ x, (f x).length = s)
    (hdec : ∀ n cs y, cs.length = s → DataW.trod enc Pr w 0 (fun _ => true) true n e cs = some y → ∃ x, cs = f x ∧ Q x)
    (h : DataW.trod enc Pr w 0 (fun _ => true) true fuel t [v] = some y) : ∃ xs : List α, Row w v s xs.length (xs.flatMap f) ∧ ∀ x ∈ xs, Q x := by
  rcases open_slice ht h with ⟨hcs, _⟩ | ⟨a, len, cap, m, n, D, Pl, hcs, _, hl, hm, hmm, _, hi⟩
  · simp at hcs
    subst hcs
    exact ⟨[], Row.nil_ w s, by simp⟩
  · simp at hcs
    subst hcs
    have hlm : len ≤ m := by rw [hmm]; split <;> omega
    have key : ∀ i : Fin len, ∃ x, Q x ∧ ∀ j u, (f x)[j]? = some u → w.cell? (a.add (i.1 * s + j)) = some u := fun i => by
      obtain ⟨cs', hc, ht'⟩ := hi i.1 (by have := i.2; omega)
      obtain ⟨_, hcl, hat⟩ := World.cells?_some hc
      obtain ⟨x, rfl, hq⟩ := hdec _ _ _ (by omega) ht'
      refine ⟨x, hq, fun j u hu => ?_⟩
      have hj : j < s := by have := (List.getElem?_eq_some_iff.1 hu).1; rw [hfl] at this; exact this
      rw [hC] at hat
      rw [← Go.Deep.add_add, hat j hj, hu]
    obtain ⟨g, hg⟩ := Classical.axiomOfChoice key
    have hlo : (List.ofFn g).length = len := List.length_ofFn
    refine ⟨List.ofFn g, ?_, fun x hx => ?_⟩
    · have hcell : ∀ j u, ((List.ofFn g).flatMap f)[j]? = some u → w.cell? (a.add j) = some u := fun j u hu => by
        have hj : j < len * s := by have := (List.getElem?_eq_some_iff.1 hu).1; rw [flat_len hfl, hlo] at this; exact this
        have hq : j / s < len := Nat.div_lt_of_lt_mul (by rw [Nat.mul_comm]; exact hj)
        have hr : j % s < s := Nat.mod_lt _ hs
        have e : j / s * s + j % s = j := by rw [Nat.mul_comm]; exact Nat.div_add_mod j s
        rw [← e, flat_at hfl _ _ _ (by rw [hlo]; exact hq) hr] at hu
        rw [← e]
        exact (hg ⟨j / s, hq⟩).2 _ _ (by simpa using hu)
      have := row_of_cells (w := w) (cap := cap) (by rw [flat_len hfl]) hs (by rw [hlo]; exact hl) hm hcell
      rw [hlo] at this ⊢
      exact this
    · obtain ⟨i, rfl⟩ := List.mem_ofFn.1 hx
      exact (hg i).1
theorem dec_rule {n : Nat} {cs : List Value} {y : DataW H × List MemPlace} (hl : cs.length = 2) (h : DataW.trod enc Try.prog w 0 (fun _ => true) true n 115 cs = some y) : ∃ x : Rule.T, cs = x.cells ∧ True := by
  obtain ⟨m, hf⟩ := fields_of Try.underlying115 (by kernel_rfl) hl h
  match cs, hl with
  | [c0, c1], _ =>
    obtain ⟨v0, y0, e0, t0⟩ := hf 0 _ rfl
    obtain ⟨v1, y1, e1, t1⟩ := hf 1 _ rfl
    obtain ⟨k0, g0, -, -⟩ := DataW.trod_int Try.underlying3 t0
    obtain ⟨k1, g1, -, -⟩ := DataW.trod_int Try.underlying3 t1
    simp at e0 e1 g0 g1
    subst e0 e1 g0 g1
    exact ⟨⟨k0, k1⟩, rfl, trivial⟩
theorem dec_tie {n : Nat} {cs : List Value} {y : DataW H × List MemPlace} (hl : cs.length = 2) (h : DataW.trod enc Try.prog w 0 (fun _ => true) true n 120 cs = some y) : ∃ x : Tie.T, cs = x.cells ∧ True := by
  obtain ⟨m, hf⟩ := fields_of Try.underlying120 (by kernel_rfl) hl h
  match cs, hl with
  | [c0, c1], _ =>
    obtain ⟨v0, y0, e0, t0⟩ := hf 0 _ rfl
    obtain ⟨v1, y1, e1, t1⟩ := hf 1 _ rfl
    obtain ⟨k0, g0, -, -⟩ := DataW.trod_int Try.underlying3 t0
    obtain ⟨k1, g1, -, -⟩ := DataW.trod_int Try.underlying3 t1
    simp at e0 e1 g0 g1
    subst e0 e1 g0 g1
    exact ⟨⟨k0, k1⟩, rfl, trivial⟩
theorem dec_span {n : Nat} {cs : List Value} {y : DataW H × List MemPlace} (hl : cs.length = 3) (h : DataW.trod enc Try.prog w 0 (fun _ => true) true n 118 cs = some y) : ∃ x : Span.T, cs = x.cells ∧ True := by
  obtain ⟨m, hf⟩ := fields_of Try.underlying118 (by kernel_rfl) hl h
  match cs, hl with
  | [c0, c1, c2], _ =>
    obtain ⟨v0, y0, e0, t0⟩ := hf 0 _ rfl
    obtain ⟨v1, y1, e1, t1⟩ := hf 1 _ rfl
    obtain ⟨v2, y2, e2, t2⟩ := hf 2 _ rfl
    obtain ⟨k0, g0, -, -⟩ := DataW.trod_int Try.underlying3 t0
    obtain ⟨k1, g1, -, -⟩ := DataW.trod_int Try.underlying3 t1
    obtain ⟨k2, g2, -, -⟩ := DataW.trod_int Try.underlying3 t2
    simp at e0 e1 e2 g0 g1 g2
    subst e0 e1 e2 g0 g1 g2
    exact ⟨⟨k0, k1, k2⟩, rfl, trivial⟩
theorem cellsStr : Try.prog.cellsOf 9 = 1 := by kernel_rfl
theorem cellsSplit : Try.prog.cellsOf 111 = 4 := by kernel_rfl
set_option maxRecDepth 100000 in
theorem dec_chunk {n : Nat} {cs : List Value} {y : DataW H × List MemPlace} (hl : cs.length = 5) (h : DataW.trod enc Try.prog w 0 (fun _ => true) true n 113 cs = some y) : ∃ x : Chunk.T, cs = x.cells ∧ x.t.size ≤ maxLen := by
  obtain ⟨ys, m, _, _, _, hyl, hf⟩ := DataW.trod_struct Try.underlying113 h
  match cs, hl, ys, hyl with
  | [c0, c1, c2, c3, c4], _, [y0, y1], _ =>
    have h0 : DataW.trod enc Try.prog w 0 (fun _ => true) true m 9 (([c0, c1, c2, c3, c4].drop 0).take (Try.prog.cellsOf 9)) = some y0 := hf 0 _ rfl
    have h1 : DataW.trod enc Try.prog w 0 (fun _ => true) true m 111 (([c0, c1, c2, c3, c4].drop 1).take (Try.prog.cellsOf 111)) = some y1 := hf 1 _ rfl
    rw [cellsStr] at h0
    rw [cellsSplit] at h1
    simp only [List.drop_zero, List.take_succ_cons, List.take_zero, List.drop_succ_cons] at h0 h1
    obtain ⟨t, g0, -, hs⟩ := DataW.trod_string Try.underlying9 h0
    obtain ⟨m2, hf2⟩ := fields_of Try.underlying111 (by kernel_rfl) rfl h1
    obtain ⟨v1, z1, e1, t1⟩ := hf2 0 _ rfl
    obtain ⟨v2, z2, e2, t2⟩ := hf2 1 _ rfl
    obtain ⟨v3, z3, e3, t3⟩ := hf2 2 _ rfl
    obtain ⟨v4, z4, e4, t4⟩ := hf2 3 _ rfl
    obtain ⟨k1, g1, -, -⟩ := DataW.trod_int Try.underlying3 t1
    obtain ⟨k2, g2, -, -⟩ := DataW.trod_int Try.underlying3 t2
    obtain ⟨k3, g3, -⟩ := DataW.trod_bool Try.underlying4 t3
    obtain ⟨k4, g4, -, -⟩ := DataW.trod_int Try.underlying3 t4
    simp at e1 e2 e3 e4 g0 g1 g2 g3 g4
    subst e1 e2 e3 e4 g0 g1 g2 g3 g4
    exact ⟨⟨t, k1, k2, k3, k4⟩, rfl, hs⟩
theorem cRule : Try.prog.cellsOf 115 = 2 := by kernel_rfl
theorem cChunk : Try.prog.cellsOf 113 = 5 := by kernel_rfl
theorem cSpan : Try.prog.cellsOf 118 = 3 := by kernel_rfl
theorem cTie : Try.prog.cellsOf 120 = 2 := by kernel_rfl
theorem cPiece : Try.prog.cellsOf 27 = 5 := by kernel_rfl
theorem open_agg5 {held : Bool} {spare : Nat → Bool} {b1 b0 : Nat} {t : TypeId} {f0 f1 f2 f3 f4 : Field} {v : Value} {d : DataW H} {p : List MemPlace} (hs : Pr.underlying t = some (.struct #[f0, f1, f2, f3, f4])) (hone : oneCellFields Pr #[f0, f1, f2, f3, f4] = true) (hC : Pr.cellsOf t = 5)
    (hv : Value.okWide Pr w r b0 t v) (h : DataW.Trod enc Pr w b1 spare held t v d p) :
    ∃ (v0 v1 v2 v3 v4 : Value) (y0 y1 y2 y3 y4 : DataW H × List MemPlace) (n : Nat), v = .agg #[v0, v1, v2, v3, v4] ∧
      DataW.trod enc Pr w b1 spare held n f0.type [v0] = some y0 ∧ DataW.trod enc Pr w b1 spare held n f1.type [v1] = some y1 ∧ DataW.trod enc Pr w b1 spare held n f2.type [v2] = some y2 ∧ DataW.trod enc Pr w b1 spare held n f3.type [v3] = some y3 ∧ DataW.trod enc Pr w b1 spare held n f4.type [v4] = some y4 := by
  obtain ⟨cs, rfl, hsz⟩ := okWide_struct hs hv
  obtain ⟨l⟩ := cs
  match l, hsz.trans hC with
  | [c0, c1, c2, c3, c4], _ =>
    obtain ⟨fuel, hf⟩ := h
    obtain ⟨xs, n, _, hx, _, hlen, hg⟩ := DataW.trod_struct hs hf
    obtain ⟨o0, k0⟩ := hone_of hone 0 f0 rfl
    obtain ⟨o1, k1⟩ := hone_of hone 1 f1 rfl
    obtain ⟨o2, k2⟩ := hone_of hone 2 f2 rfl
    obtain ⟨o3, k3⟩ := hone_of hone 3 f3 rfl
    obtain ⟨o4, k4⟩ := hone_of hone 4 f4 rfl
    match xs, hlen with
    | [y0, y1, y2, y3, y4], _ =>
      exact ⟨c0, c1, c2, c3, c4, y0, y1, y2, y3, y4, n, rfl, by simpa [Value.cells, o0, k0] using hg 0 f0 rfl, by simpa [Value.cells, o1, k1] using hg 1 f1 rfl, by simpa [Value.cells, o2, k2] using hg 2 f2 rfl, by simpa [Value.cells, o3, k3] using hg 3 f3 rfl, by simpa [Value.cells, o4, k4] using hg 4 f4 rfl⟩
set_option maxRecDepth 100000 in
/-- the argument opened -/
theorem row_piece {v : Value} {d : DataW H} {q : List MemPlace} (ho : Value.okWide Try.prog w r base 27 v) (h : DataW.Trod enc Try.prog w 0 (fun _ => true) true 27 v d q) :
    ∃ (p : P) (vr vc vs vt : Value), v = pv p.ind vr vc vs vt ∧ PRow w p vr vc vs vt ∧ ∀ x ∈ p.chunks, x.t.size ≤ maxLen := by
  obtain ⟨v0, v1, v2, v3, v4, y0, y1, y2, y3, y4, n, rfl, h0, h1, h2, h3, h4⟩ := open_agg5 Try.underlying27 (by kernel_rfl) cPiece ho h
  obtain ⟨i, g0, -, -⟩ := DataW.trod_int Try.underlying3 h0
  simp at g0
  subst g0
  obtain ⟨rs, hr, -⟩ := row_recs_at Try.underlying22 cRule (by omega) Rule.cells_len (fun _ _ _ hl h => dec_rule hl h) h1
  obtain ⟨cs, hc, hq⟩ := row_recs_at Try.underlying23 cChunk (by omega) Chunk.cells_len (fun _ _ _ hl h => dec_chunk hl h) h2
  obtain ⟨ss, hs, -⟩ := row_recs_at Try.underlying24 cSpan (by omega) Span.cells_len (fun _ _ _ hl h => dec_span hl h) h3
  obtain ⟨ts, ht, -⟩ := row_recs_at Try.underlying25 cTie (by omega) Tie.cells_len (fun _ _ _ hl h => dec_tie hl h) h4
  exact ⟨⟨i, rs, cs, ss, ts⟩, _, _, _, _, rfl, ⟨hr, hc, hs, ht⟩, hq⟩
end
end Go.Proofs.Ytlakellmdcdaaaa.Piece
