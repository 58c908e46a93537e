/-
  The contracts of laws.toCost, impl.CostLess and spec.CostLess.
  Conditions: none.
-/
import Derived.Test.YtdbjdikkkmfihaaChecked
import Derived.WalkKit
import Derived.ProofKit
import Derived.WalkLawsBesides
import Derived.WalkSpells
namespace Go.Proofs.Ytdbjdikkkmfihaa.Cost
open Go.RowKit
abbrev cost (a b : Int) : Value := .agg #[.int .i64 a, .int .i64 b]
def less (a b c d : Int) : Bool := decide (a < c) || (a == c && decide (b < d))
set_option maxHeartbeats 400000 in
theorem to_any (a b : Int) (w : World) :
    Calls Try.prog 8 #[cost a b] w fun e w' => e = .returned (cost a b) ∧ Below w.heap.size w w' := by
  go_enter Try.func8, Try.ntmps8
  go_wp2
  refine bodyPost_ret (v := cost a b) (by simp [results, Try.results8, go_sem]) rfl ⟨rfl, ?_⟩
  repeat (first | exact Below.refl _ _ | refine Below.setCell ?_ (by simp <;> omega) _ | refine Below.alloc ?_ (by simp <;> omega) _)
set_option maxHeartbeats 400000 in
theorem spec_less (a b c d : Int) (w : World) :
    Calls Try.prog 7 #[cost a b, cost c d] w fun e w' => e = .returned (.bool (less a b c d)) ∧ Below w.heap.size w w' := by
  go_enter Try.func7, Try.ntmps7
  go_wp2
  all_goals
    go_ret
    refine ⟨by simp_all [less], ?_⟩
    repeat (first | exact Below.refl _ _ | assumption | refine Below.setCell ?_ (by simp <;> omega) _ | refine Below.alloc ?_ (by simp <;> omega) _ | refine Below.drew ?_)
set_option maxHeartbeats 400000 in
theorem impl_less (a b c d : Int) (w : World) :
    Calls Try.prog 9 #[cost a b, cost c d] w fun e w' => e = .returned (.bool (less a b c d)) ∧ Below w.heap.size w w' := by
  go_enter Try.func9, Try.ntmps9
  go_wp2
  all_goals
    go_ret
    refine ⟨by simp_all [less], ?_⟩
    repeat (first | exact Below.refl _ _ | assumption | refine Below.setCell ?_ (by simp <;> omega) _ | refine Below.alloc ?_ (by simp <;> omega) _ | refine Below.drew ?_)
end Go.Proofs.Ytdbjdikkkmfihaa.Cost
