/-
  A slice of the laws' signs that came in reads as a list of signs.
  Conditions: none beyond the reading.
-/
import Derived.Test.YtfhigagbipkipaaRecArgs
import Derived.Test.YtfhigagbipkipaaSign
namespace Go.Proofs.Ytfhigagbipkipaa.Sign
open Go.RowKit Go.Proofs.Ytfhigagbipkipaa.Row Go.Proofs.Ytfhigagbipkipaa.Args Go.Deep
section
variable {H : Type} {enc : TypeId × Value → H} {w : World} {base : Nat} {r : Reach}
theorem dec_sign {spare : Nat → Bool} {held : Bool} {n : Nat} {cs : List Value} {y : DataW H × List MemPlace} (hl : cs.length = 4) (h : DataW.trod enc Try.prog w base spare held n 58 cs = some y) : ∃ x : Sign, cs = x.cells ∧ x.t.size ≤ maxLen := by
  obtain ⟨m, hf⟩ := fields_of Try.underlying58 (by kernel_rfl) hl h
  match cs, hl with
  | [c0, c1, c2, c3], _ =>
    obtain ⟨v0, y0, e0, t0⟩ := hf 0 _ rfl
    obtain ⟨v1, y1, e1, t1⟩ := hf 1 _ rfl
    obtain ⟨v2, y2, e2, t2⟩ := hf 2 _ rfl
    obtain ⟨v3, y3, e3, t3⟩ := hf 3 _ rfl
    obtain ⟨k, g0, -, -⟩ := DataW.trod_int Try.underlying3 t0
    obtain ⟨t, g1, -, hs⟩ := DataW.trod_string Try.underlying9 t1
    obtain ⟨a, g2, -, -⟩ := DataW.trod_int Try.underlying3 t2
    obtain ⟨b, g3, -⟩ := DataW.trod_bool Try.underlying4 t3
    simp at e0 e1 e2 e3 g0 g1 g2 g3
    subst e0 e1 e2 e3 g0 g1 g2 g3
    exact ⟨⟨k, t, a, b⟩, rfl, hs⟩
theorem cellsSign : Try.prog.cellsOf 58 = 4 := by kernel_rfl
theorem row_signs {v : Value} {d : DataW H} {p : List MemPlace} (ho : Value.okWide Try.prog w r base 22 v) (h : DataW.Trod enc Try.prog w 0 (fun _ => true) true 22 v d p) :
    ∃ xs : List Sign, Row w v 4 xs.length (signs xs) ∧ ∀ x ∈ xs, x.t.size ≤ maxLen :=
  row_recs Try.underlying22 cellsSign (by omega) cells_len (fun _ _ _ hl h => dec_sign hl h) ho h
end
end Go.Proofs.Ytfhigagbipkipaa.Sign
