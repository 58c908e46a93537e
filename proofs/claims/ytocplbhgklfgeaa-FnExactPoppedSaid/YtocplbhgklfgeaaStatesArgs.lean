/-
  A slice of the laws' states that came in reads as a list of states.
  Conditions: none beyond the reading.
-/
import Derived.Test.YtocplbhgklfgeaaRecArgs
import Derived.Test.YtocplbhgklfgeaaStates
namespace Go.Proofs.Ytocplbhgklfgeaa.States
open Go.RowKit Go.Proofs.Ytocplbhgklfgeaa.Row Go.Proofs.Ytocplbhgklfgeaa.Args Go.Proofs.Ytocplbhgklfgeaa.Ints Go.Deep
section
variable {H : Type} {enc : TypeId × Value → H} {w : World} {base : Nat} {r : Reach}
theorem cellsI : Try.prog.cellsOf 3 = 1 := by kernel_rfl
theorem cellsState : Try.prog.cellsOf 25 = 2 := by kernel_rfl
theorem dec_state {n : Nat} {cs : List Value} {y : DataW H × List MemPlace} (hl : cs.length = 2) (h : DataW.trod enc Try.prog w 0 (fun _ => true) true n 25 cs = some y) : ∃ x : S, cs = x.cells ∧ VRow w x := by
  obtain ⟨m, hf⟩ := fields_of Try.underlying25 (by kernel_rfl) hl h
  match cs, hl with
  | [c0, c1], _ =>
    obtain ⟨v0, y0, e0, t0⟩ := hf 0 _ rfl
    obtain ⟨v1, y1, e1, t1⟩ := hf 1 _ rfl
    obtain ⟨xs, hx, -⟩ := row_ints_at Try.underlying23 Try.underlying3 cellsI t0
    obtain ⟨k, g1, -, -⟩ := DataW.trod_int Try.underlying3 t1
    simp at e0 e1 g1
    subst e0 e1 g1
    exact ⟨⟨c0, xs, k⟩, rfl, hx⟩
theorem row_states {v : Value} {d : DataW H} {p : List MemPlace} (ho : Value.okWide Try.prog w r base 22 v) (h : DataW.Trod enc Try.prog w 0 (fun _ => true) true 22 v d p) :
    ∃ xs : List S, SRow w v xs :=
  row_recs Try.underlying22 cellsState (by omega) cells_len (fun _ _ _ hl h => dec_state hl h) ho h
end
end Go.Proofs.Ytocplbhgklfgeaa.States
