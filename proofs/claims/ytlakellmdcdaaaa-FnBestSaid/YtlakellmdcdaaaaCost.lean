/-
  The contracts of laws.toCost, impl.CostLess and spec.CostLess.
  Conditions: none.
-/
import Derived.Test.YtlakellmdcdaaaaChecked
import Derived.WalkKit
import Derived.ProofKit
import Derived.WalkLawsBesides
import Derived.WalkSpells
namespace Go.Proofs.Ytlakellmdcdaaaa.Cost
open Go.RowKit
abbrev cost (a b : Int) : Value := .agg #[.int .i64 a, .int .i64 b]
def less (a b c d : Int) : Bool := decide (a < c) || (a == c && decide (b < d))
set_option maxHeartbeats 400000 in
theorem eq_self (a b : Int) (w : World) :
    Calls Try.prog 44 #[cost a b, cost a b] w fun e w' => e = .returned (.bool true) ∧ Below w.heap.size w w' := by
  have d1 : (a != a) = false := by simp
  have d2 : (b != b) = false := by simp
  go_enter Try.func44, Try.ntmps44
  go_wp2
  go_ret
  refine ⟨rfl, ?_⟩
  repeat (first | exact Below.refl _ _ | assumption | refine Below.setCell ?_ (by first | omega | (simp <;> omega)) _ | refine Below.alloc ?_ (by first | omega | (simp <;> omega)) _ | refine Below.drew ?_)
set_option maxHeartbeats 400000 in
theorem spec_less (a b c d : Int) (w : World) :
    Calls Try.prog 50 #[cost a b, cost c d] w fun e w' => e = .returned (.bool (less a b c d)) ∧ Below w.heap.size w w' := by
  go_enter Try.func50, Try.ntmps50
  go_wp2
  all_goals
    go_ret
    refine ⟨by simp_all [less], ?_⟩
    repeat (first | exact Below.refl _ _ | assumption | refine Below.setCell ?_ (by first | omega | (simp <;> omega)) _ | refine Below.alloc ?_ (by first | omega | (simp <;> omega)) _ | refine Below.drew ?_)
set_option maxHeartbeats 400000 in
theorem impl_less (a b c d : Int) (w : World) :
    Calls Try.prog 92 #[cost a b, cost c d] w fun e w' => e = .returned (.bool (less a b c d)) ∧ Below w.heap.size w w' := by
  go_enter Try.func92, Try.ntmps92
  go_wp2
  all_goals
    go_ret
    refine ⟨by simp_all [less], ?_⟩
    repeat (first | exact Below.refl _ _ | assumption | refine Below.setCell ?_ (by first | omega | (simp <;> omega)) _ | refine Below.alloc ?_ (by first | omega | (simp <;> omega)) _ | refine Below.drew ?_)
end Go.Proofs.Ytlakellmdcdaaaa.Cost
