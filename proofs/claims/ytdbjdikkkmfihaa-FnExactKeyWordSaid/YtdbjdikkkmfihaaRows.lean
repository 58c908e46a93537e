/-
  No cell of these rows narrows 'for every input' (looked for: loops, veiled, ifaces, maps, wideKeys, modest, calm, conditions, laid).
  DERIVED. THE GIVEN ROWS OF THIS SEAT. 4 by the template 'for every input the law returns true; each argument reads behind the call as it read before'; 0 by the template 'total and deterministic' (their statements: YtdbjdikkkmfihaaTotals.lean).
  GIVEN WITH THE SEED: the statements are not yours to turn. If you find one false, say at which input.
  Laid BY PROGRAM, IN A SANDBOX (cutbox-rows.mjs): the forced cells as the released guide's own fill.sh prints them over the translation efdbafc69380748f… (all of the seat's roots in one cut). By AI agents, Wed Nov 11 2026. No macro, syntax, notation, axiom, sorry.
-/
import Derived.Test.YtdbjdikkkmfihaaChecked
import GoSem.Claim
import GoSem.ClaimJoined
import GoSem.ClaimMapViews
import Derived.JoinedTies
import Derived.KernelRfl
namespace Go.Proofs.Ytdbjdikkkmfihaa
/- THE CELL 'sum', in the pinned program and in every row, IS THE sha256 OF THE DUMP (.gsa) THAT YtdbjdikkkmfihaaProg.lean LOADS. Nothing in Lean hashes anything: it is a label: what it is worth is what the hold of that sum in a sandbox is worth. -/
noncomputable def Try.pinned : Pinned := { name := "ytdbjdikkkmfihaa", sum := "efdbafc69380748f75f6f382c33840a140d77730ca5927433dafc1e11c5979cf", checked := Try.checked }
namespace Rows
def none {H : Type} : Left H := { results := [], args := [] }

/-- 'laws.FnExactConstants': WHATEVER THE INPUT: true; the input reads as it did. -/
def fnExactConstantsSpec : ChangeSpec := { name := "fnExactConstants", fn := fun _ => fun
  | [] => { results := [.lit (.bool true)], args := [] }
  | _ => none }
def fnExactConstantsRow : OpenClaim := { program := "ytdbjdikkkmfihaa", sum := "efdbafc69380748f75f6f382c33840a140d77730ca5927433dafc1e11c5979cf", func := "loop.example/g00459/laws.FnExactConstants", spec := "fnExactConstants", apart := false }
def FnExactConstantsSaid : Prop := fnExactConstantsRow.holds Try.pinned (OpenSpec.ofChange fnExactConstantsSpec)

/-- ITS FALSE NEIGHBOUR: 'it returns false'. Refute it at one input. -/
def fnExactConstantsWrong : ChangeSpec := { name := "fnExactConstants", fn := fun _ => fun
  | [] => { results := [.lit (.bool false)], args := [] }
  | _ => none }
def FnExactConstantsWrongFalsely : Prop := fnExactConstantsRow.holds Try.pinned (OpenSpec.ofChange fnExactConstantsWrong)

/-- 'laws.FnExactCostLess': WHATEVER THE INPUT: true; the input reads as it did. -/
def fnExactCostLessSpec : ChangeSpec := { name := "fnExactCostLess", fn := fun _ => fun
  | [d1, d2] => { results := [.lit (.bool true)], args := [d1, d2] }
  | _ => none }
def fnExactCostLessRow : OpenClaim := { program := "ytdbjdikkkmfihaa", sum := "efdbafc69380748f75f6f382c33840a140d77730ca5927433dafc1e11c5979cf", func := "loop.example/g00459/laws.FnExactCostLess", spec := "fnExactCostLess", apart := false }
def FnExactCostLessSaid : Prop := fnExactCostLessRow.holds Try.pinned (OpenSpec.ofChange fnExactCostLessSpec)

/-- ITS FALSE NEIGHBOUR: 'it returns false'. Refute it at one input. -/
def fnExactCostLessWrong : ChangeSpec := { name := "fnExactCostLess", fn := fun _ => fun
  | [d1, d2] => { results := [.lit (.bool false)], args := [d1, d2] }
  | _ => none }
def FnExactCostLessWrongFalsely : Prop := fnExactCostLessRow.holds Try.pinned (OpenSpec.ofChange fnExactCostLessWrong)

/-- 'laws.FnExactKeyWord': WHATEVER THE INPUT: true; the input reads as it did. -/
def fnExactKeyWordSpec : ChangeSpec := { name := "fnExactKeyWord", fn := fun _ => fun
  | [d] => { results := [.lit (.bool true)], args := [d] }
  | _ => none }
def fnExactKeyWordRow : OpenClaim := { program := "ytdbjdikkkmfihaa", sum := "efdbafc69380748f75f6f382c33840a140d77730ca5927433dafc1e11c5979cf", func := "loop.example/g00459/laws.FnExactKeyWord", spec := "fnExactKeyWord", apart := false }
def FnExactKeyWordSaid : Prop := fnExactKeyWordRow.holds Try.pinned (OpenSpec.ofChange fnExactKeyWordSpec)

/-- ITS FALSE NEIGHBOUR: 'it returns false'. Refute it at one input. -/
def fnExactKeyWordWrong : ChangeSpec := { name := "fnExactKeyWord", fn := fun _ => fun
  | [d] => { results := [.lit (.bool false)], args := [d] }
  | _ => none }
def FnExactKeyWordWrongFalsely : Prop := fnExactKeyWordRow.holds Try.pinned (OpenSpec.ofChange fnExactKeyWordWrong)

/-- 'laws.FnExactSumMore': WHATEVER THE INPUT: true; the input reads as it did. -/
def fnExactSumMoreSpec : ChangeSpec := { name := "fnExactSumMore", fn := fun _ => fun
  | [d1, d2] => { results := [.lit (.bool true)], args := [d1, d2] }
  | _ => none }
def fnExactSumMoreRow : OpenClaim := { program := "ytdbjdikkkmfihaa", sum := "efdbafc69380748f75f6f382c33840a140d77730ca5927433dafc1e11c5979cf", func := "loop.example/g00459/laws.FnExactSumMore", spec := "fnExactSumMore", apart := false }
def FnExactSumMoreSaid : Prop := fnExactSumMoreRow.holds Try.pinned (OpenSpec.ofChange fnExactSumMoreSpec)

/-- ITS FALSE NEIGHBOUR: 'it returns false'. Refute it at one input. -/
def fnExactSumMoreWrong : ChangeSpec := { name := "fnExactSumMore", fn := fun _ => fun
  | [d1, d2] => { results := [.lit (.bool false)], args := [d1, d2] }
  | _ => none }
def FnExactSumMoreWrongFalsely : Prop := fnExactSumMoreRow.holds Try.pinned (OpenSpec.ofChange fnExactSumMoreWrong)

/- THE SECOND FORM. 'bulk': how many values and letters a reading holds, each counted each time it is reached (what is shared counts as often as it is met; a slice's spare places count too). A statement '..UptoSaid' is the law's where the arguments, and the package variables that the reading takes, are together of bulk at most 1048576: NARROWER than '..Said'. Prove '..Said' where nothing that the law and all that it calls make is longer than what came in: it says more and counts as full. Else prove '..UptoSaid'. A law counts once. -/
mutual
def uptoBulk {H : Type} : DataW H → Nat
  | .lit (.string bytes) => bytes.length + 1
  | .lit _ => 1
  | .nil => 1
  | .ptr d => uptoBulk d + 1
  | .slice elems spare => uptoBulkAll elems + uptoBulkAll spare + 1
  | .agg parts => uptoBulkAll parts + 1
  | .iface _ d => uptoBulk d + 1
  | .map entries => uptoBulkEntries entries + 1
  | .held _ => 1
def uptoBulkAll {H : Type} : List (DataW H) → Nat
  | [] => 0
  | d :: r => uptoBulk d + uptoBulkAll r
def uptoBulkEntries {H : Type} : List (Lit × DataW H) → Nat
  | [] => 0
  | x :: r => uptoBulkEntry x + uptoBulkEntries r
def uptoBulkEntry {H : Type} : Lit × DataW H → Nat
  | (.string bytes, d) => bytes.length + uptoBulk d + 1
  | (_, d) => uptoBulk d + 1
 end
def uptoSmall : (H : Type) → List (DataW H) → Bool := fun _ ds => decide (uptoBulkAll ds ≤ 1048576)
def OpenSpec.upto (s : _root_.Go.ChangeSpec) : _root_.Go.OpenSpec := { _root_.Go.OpenSpec.ofChange s with cond := some uptoSmall }

/-- 'laws.FnExactConstants', WHERE WHAT IT READS IS OF BULK AT MOST 1048576: true; the input reads as it did. -/
def fnExactConstantsUptoRow : OpenClaim := { program := "ytdbjdikkkmfihaa", sum := "efdbafc69380748f75f6f382c33840a140d77730ca5927433dafc1e11c5979cf", func := "loop.example/g00459/laws.FnExactConstants", spec := "fnExactConstants", apart := false, narrowed := true }
def FnExactConstantsUptoSaid : Prop := fnExactConstantsUptoRow.holds Try.pinned (OpenSpec.upto fnExactConstantsSpec)

/-- 'laws.FnExactCostLess', WHERE WHAT IT READS IS OF BULK AT MOST 1048576: true; the input reads as it did. -/
def fnExactCostLessUptoRow : OpenClaim := { program := "ytdbjdikkkmfihaa", sum := "efdbafc69380748f75f6f382c33840a140d77730ca5927433dafc1e11c5979cf", func := "loop.example/g00459/laws.FnExactCostLess", spec := "fnExactCostLess", apart := false, narrowed := true }
def FnExactCostLessUptoSaid : Prop := fnExactCostLessUptoRow.holds Try.pinned (OpenSpec.upto fnExactCostLessSpec)

/-- 'laws.FnExactKeyWord', WHERE WHAT IT READS IS OF BULK AT MOST 1048576: true; the input reads as it did. -/
def fnExactKeyWordUptoRow : OpenClaim := { program := "ytdbjdikkkmfihaa", sum := "efdbafc69380748f75f6f382c33840a140d77730ca5927433dafc1e11c5979cf", func := "loop.example/g00459/laws.FnExactKeyWord", spec := "fnExactKeyWord", apart := false, narrowed := true }
def FnExactKeyWordUptoSaid : Prop := fnExactKeyWordUptoRow.holds Try.pinned (OpenSpec.upto fnExactKeyWordSpec)

/-- 'laws.FnExactSumMore', WHERE WHAT IT READS IS OF BULK AT MOST 1048576: true; the input reads as it did. -/
def fnExactSumMoreUptoRow : OpenClaim := { program := "ytdbjdikkkmfihaa", sum := "efdbafc69380748f75f6f382c33840a140d77730ca5927433dafc1e11c5979cf", func := "loop.example/g00459/laws.FnExactSumMore", spec := "fnExactSumMore", apart := false, narrowed := true }
def FnExactSumMoreUptoSaid : Prop := fnExactSumMoreUptoRow.holds Try.pinned (OpenSpec.upto fnExactSumMoreSpec)

end Rows
end Go.Proofs.Ytdbjdikkkmfihaa
