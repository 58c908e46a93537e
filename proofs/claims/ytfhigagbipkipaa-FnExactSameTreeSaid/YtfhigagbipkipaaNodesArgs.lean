/-
  A slice of the laws' nodes that came in reads as a list of nodes.
  Conditions: none beyond the reading.
-/
import Derived.Test.YtfhigagbipkipaaRecArgs
import Derived.Test.YtfhigagbipkipaaNodes
namespace Go.Proofs.Ytfhigagbipkipaa.Nodes
open Go.RowKit Go.Proofs.Ytfhigagbipkipaa.Row Go.Proofs.Ytfhigagbipkipaa.Args Go.Proofs.Ytfhigagbipkipaa.Ints Go.Deep
section
variable {H : Type} {enc : TypeId × Value → H} {w : World} {base : Nat} {r : Reach}
theorem cellsI : Try.prog.cellsOf 3 = 1 := by kernel_rfl
theorem cellsNode : Try.prog.cellsOf 65 = 4 := by kernel_rfl
set_option maxRecDepth 100000 in
theorem dec_node {n : Nat} {cs : List Value} {y : DataW H × List MemPlace} (hl : cs.length = 4) (h : DataW.trod enc Try.prog w 0 (fun _ => true) true n 65 cs = some y) : ∃ x : N, cs = x.cells ∧ (VRow w x ∧ x.t.size ≤ maxLen) := by
  obtain ⟨m, hf⟩ := fields_of Try.underlying65 (by kernel_rfl) hl h
  match cs, hl with
  | [c0, c1, c2, c3], _ =>
    obtain ⟨v0, y0, e0, t0⟩ := hf 0 _ rfl
    obtain ⟨v1, y1, e1, t1⟩ := hf 1 _ rfl
    obtain ⟨v2, y2, e2, t2⟩ := hf 2 _ rfl
    obtain ⟨v3, y3, e3, t3⟩ := hf 3 _ rfl
    obtain ⟨k, g0, -, -⟩ := DataW.trod_int Try.underlying3 t0
    obtain ⟨t, g1, -, hs⟩ := DataW.trod_string Try.underlying9 t1
    obtain ⟨xs, hx, -⟩ := row_ints_at Try.underlying49 Try.underlying3 cellsI t2
    obtain ⟨b, g3, -⟩ := DataW.trod_bool Try.underlying4 t3
    simp at e0 e1 e2 e3 g0 g1 g3
    subst e0 e1 e2 e3 g0 g1 g3
    exact ⟨⟨k, t, c2, xs, b⟩, rfl, hx, hs⟩
theorem row_nodes {v : Value} {d : DataW H} {p : List MemPlace} (ho : Value.okWide Try.prog w r base 33 v) (h : DataW.Trod enc Try.prog w 0 (fun _ => true) true 33 v d p) :
    ∃ xs : List N, NRow w v xs ∧ ∀ x ∈ xs, x.t.size ≤ maxLen := by
  obtain ⟨xs, hx, hq⟩ := row_recs Try.underlying33 cellsNode (by omega) cells_len (fun _ _ _ hl h => dec_node hl h) ho h
  exact ⟨xs, ⟨hx, fun x hx => (hq x hx).1⟩, fun x hx => (hq x hx).2⟩
end
end Go.Proofs.Ytfhigagbipkipaa.Nodes
