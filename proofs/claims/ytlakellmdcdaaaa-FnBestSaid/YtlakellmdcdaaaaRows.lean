/-
  No cell of these rows narrows 'for every input' (looked for: loops, veiled, ifaces, maps, wideKeys, modest, calm, conditions, laid).
  DERIVED. THE GIVEN ROWS OF THIS SEAT. 12 by the template 'for every input the law returns true; each argument reads behind the call as it read before'; 0 by the template 'total and deterministic' (their statements: YtlakellmdcdaaaaTotals.lean).
  GIVEN WITH THE SEED: the statements are not yours to turn. If you find one false, say at which input.
  Laid BY PROGRAM, IN A SANDBOX (cutbox-rows.mjs): the forced cells as the released guide's own fill.sh prints them over the translation e00ae9ba26a61257… (all of the seat's roots in one cut). By AI agents, Wed Nov 11 2026. No macro, syntax, notation, axiom, sorry.
-/
import Derived.Test.YtlakellmdcdaaaaChecked
import GoSem.Claim
import GoSem.ClaimJoined
import GoSem.ClaimMapViews
import Derived.JoinedTies
import Derived.KernelRfl
namespace Go.Proofs.Ytlakellmdcdaaaa
/- THE CELL 'sum', in the pinned program and in every row, IS THE sha256 OF THE DUMP (.gsa) THAT YtlakellmdcdaaaaProg.lean LOADS. Nothing in Lean hashes anything: it is a label: what it is worth is what the hold of that sum in a sandbox is worth. -/
noncomputable def Try.pinned : Pinned := { name := "ytlakellmdcdaaaa", sum := "e00ae9ba26a61257454f3b39687d29a1784b5c89523041aaf2fb8f4d587a63d2", checked := Try.checked }
namespace Rows
def none {H : Type} : Left H := { results := [], args := [] }

/-- 'laws.FnExactCountOf': WHATEVER THE INPUT: true; the input reads as it did. -/
def fnExactCountOfSpec : ChangeSpec := { name := "fnExactCountOf", fn := fun _ => fun
  | [d] => { results := [.lit (.bool true)], args := [d] }
  | _ => none }
def fnExactCountOfRow : OpenClaim := { program := "ytlakellmdcdaaaa", sum := "e00ae9ba26a61257454f3b39687d29a1784b5c89523041aaf2fb8f4d587a63d2", func := "loop.example/g00459/laws.FnExactCountOf", spec := "fnExactCountOf", apart := false }
def FnExactCountOfSaid : Prop := fnExactCountOfRow.holds Try.pinned (OpenSpec.ofChange fnExactCountOfSpec)

/-- ITS FALSE NEIGHBOUR: 'it returns false'. Refute it at one input. -/
def fnExactCountOfWrong : ChangeSpec := { name := "fnExactCountOf", fn := fun _ => fun
  | [d] => { results := [.lit (.bool false)], args := [d] }
  | _ => none }
def FnExactCountOfWrongFalsely : Prop := fnExactCountOfRow.holds Try.pinned (OpenSpec.ofChange fnExactCountOfWrong)

/-- 'laws.FnExactValuesOk': WHATEVER THE INPUT: true; the input reads as it did. -/
def fnExactValuesOkSpec : ChangeSpec := { name := "fnExactValuesOk", fn := fun _ => fun
  | [d1, d2] => { results := [.lit (.bool true)], args := [d1, d2] }
  | _ => none }
def fnExactValuesOkRow : OpenClaim := { program := "ytlakellmdcdaaaa", sum := "e00ae9ba26a61257454f3b39687d29a1784b5c89523041aaf2fb8f4d587a63d2", func := "loop.example/g00459/laws.FnExactValuesOk", spec := "fnExactValuesOk", apart := false }
def FnExactValuesOkSaid : Prop := fnExactValuesOkRow.holds Try.pinned (OpenSpec.ofChange fnExactValuesOkSpec)

/-- ITS FALSE NEIGHBOUR: 'it returns false'. Refute it at one input. -/
def fnExactValuesOkWrong : ChangeSpec := { name := "fnExactValuesOk", fn := fun _ => fun
  | [d1, d2] => { results := [.lit (.bool false)], args := [d1, d2] }
  | _ => none }
def FnExactValuesOkWrongFalsely : Prop := fnExactValuesOkRow.holds Try.pinned (OpenSpec.ofChange fnExactValuesOkWrong)

/-- 'laws.FnExactTiesHold': WHATEVER THE INPUT: true; the input reads as it did. -/
def fnExactTiesHoldSpec : ChangeSpec := { name := "fnExactTiesHold", fn := fun _ => fun
  | [d1, d2] => { results := [.lit (.bool true)], args := [d1, d2] }
  | _ => none }
def fnExactTiesHoldRow : OpenClaim := { program := "ytlakellmdcdaaaa", sum := "e00ae9ba26a61257454f3b39687d29a1784b5c89523041aaf2fb8f4d587a63d2", func := "loop.example/g00459/laws.FnExactTiesHold", spec := "fnExactTiesHold", apart := false }
def FnExactTiesHoldSaid : Prop := fnExactTiesHoldRow.holds Try.pinned (OpenSpec.ofChange fnExactTiesHoldSpec)

/-- ITS FALSE NEIGHBOUR: 'it returns false'. Refute it at one input. -/
def fnExactTiesHoldWrong : ChangeSpec := { name := "fnExactTiesHold", fn := fun _ => fun
  | [d1, d2] => { results := [.lit (.bool false)], args := [d1, d2] }
  | _ => none }
def FnExactTiesHoldWrongFalsely : Prop := fnExactTiesHoldRow.holds Try.pinned (OpenSpec.ofChange fnExactTiesHoldWrong)

/-- 'laws.FnExactPieceOk': WHATEVER THE INPUT: true; the input reads as it did. -/
def fnExactPieceOkSpec : ChangeSpec := { name := "fnExactPieceOk", fn := fun _ => fun
  | [d] => { results := [.lit (.bool true)], args := [d] }
  | _ => none }
def fnExactPieceOkRow : OpenClaim := { program := "ytlakellmdcdaaaa", sum := "e00ae9ba26a61257454f3b39687d29a1784b5c89523041aaf2fb8f4d587a63d2", func := "loop.example/g00459/laws.FnExactPieceOk", spec := "fnExactPieceOk", apart := false }
def FnExactPieceOkSaid : Prop := fnExactPieceOkRow.holds Try.pinned (OpenSpec.ofChange fnExactPieceOkSpec)

/-- ITS FALSE NEIGHBOUR: 'it returns false'. Refute it at one input. -/
def fnExactPieceOkWrong : ChangeSpec := { name := "fnExactPieceOk", fn := fun _ => fun
  | [d] => { results := [.lit (.bool false)], args := [d] }
  | _ => none }
def FnExactPieceOkWrongFalsely : Prop := fnExactPieceOkRow.holds Try.pinned (OpenSpec.ofChange fnExactPieceOkWrong)

/-- 'laws.FnExactAllSplit': WHATEVER THE INPUT: true; the input reads as it did. -/
def fnExactAllSplitSpec : ChangeSpec := { name := "fnExactAllSplit", fn := fun _ => fun
  | [d] => { results := [.lit (.bool true)], args := [d] }
  | _ => none }
def fnExactAllSplitRow : OpenClaim := { program := "ytlakellmdcdaaaa", sum := "e00ae9ba26a61257454f3b39687d29a1784b5c89523041aaf2fb8f4d587a63d2", func := "loop.example/g00459/laws.FnExactAllSplit", spec := "fnExactAllSplit", apart := false }
def FnExactAllSplitSaid : Prop := fnExactAllSplitRow.holds Try.pinned (OpenSpec.ofChange fnExactAllSplitSpec)

/-- ITS FALSE NEIGHBOUR: 'it returns false'. Refute it at one input. -/
def fnExactAllSplitWrong : ChangeSpec := { name := "fnExactAllSplit", fn := fun _ => fun
  | [d] => { results := [.lit (.bool false)], args := [d] }
  | _ => none }
def FnExactAllSplitWrongFalsely : Prop := fnExactAllSplitRow.holds Try.pinned (OpenSpec.ofChange fnExactAllSplitWrong)

/-- 'laws.FnExactSplitsAt': WHATEVER THE INPUT: true; the input reads as it did. -/
def fnExactSplitsAtSpec : ChangeSpec := { name := "fnExactSplitsAt", fn := fun _ => fun
  | [d1, d2, d3] => { results := [.lit (.bool true)], args := [d1, d2, d3] }
  | _ => none }
def fnExactSplitsAtRow : OpenClaim := { program := "ytlakellmdcdaaaa", sum := "e00ae9ba26a61257454f3b39687d29a1784b5c89523041aaf2fb8f4d587a63d2", func := "loop.example/g00459/laws.FnExactSplitsAt", spec := "fnExactSplitsAt", apart := false }
def FnExactSplitsAtSaid : Prop := fnExactSplitsAtRow.holds Try.pinned (OpenSpec.ofChange fnExactSplitsAtSpec)

/-- ITS FALSE NEIGHBOUR: 'it returns false'. Refute it at one input. -/
def fnExactSplitsAtWrong : ChangeSpec := { name := "fnExactSplitsAt", fn := fun _ => fun
  | [d1, d2, d3] => { results := [.lit (.bool false)], args := [d1, d2, d3] }
  | _ => none }
def FnExactSplitsAtWrongFalsely : Prop := fnExactSplitsAtRow.holds Try.pinned (OpenSpec.ofChange fnExactSplitsAtWrong)

/-- 'laws.FnExactNextOf': WHATEVER THE INPUT: true; the input reads as it did. -/
def fnExactNextOfSpec : ChangeSpec := { name := "fnExactNextOf", fn := fun _ => fun
  | [d1, d2] => { results := [.lit (.bool true)], args := [d1, d2] }
  | _ => none }
def fnExactNextOfRow : OpenClaim := { program := "ytlakellmdcdaaaa", sum := "e00ae9ba26a61257454f3b39687d29a1784b5c89523041aaf2fb8f4d587a63d2", func := "loop.example/g00459/laws.FnExactNextOf", spec := "fnExactNextOf", apart := false }
def FnExactNextOfSaid : Prop := fnExactNextOfRow.holds Try.pinned (OpenSpec.ofChange fnExactNextOfSpec)

/-- ITS FALSE NEIGHBOUR: 'it returns false'. Refute it at one input. -/
def fnExactNextOfWrong : ChangeSpec := { name := "fnExactNextOf", fn := fun _ => fun
  | [d1, d2] => { results := [.lit (.bool false)], args := [d1, d2] }
  | _ => none }
def FnExactNextOfWrongFalsely : Prop := fnExactNextOfRow.holds Try.pinned (OpenSpec.ofChange fnExactNextOfWrong)

/-- 'laws.FnExactRender': WHATEVER THE INPUT: true; the input reads as it did. -/
def fnExactRenderSpec : ChangeSpec := { name := "fnExactRender", fn := fun _ => fun
  | [d1, d2] => { results := [.lit (.bool true)], args := [d1, d2] }
  | _ => none }
def fnExactRenderRow : OpenClaim := { program := "ytlakellmdcdaaaa", sum := "e00ae9ba26a61257454f3b39687d29a1784b5c89523041aaf2fb8f4d587a63d2", func := "loop.example/g00459/laws.FnExactRender", spec := "fnExactRender", inPlace := ["internal/abi.NoEscape", "internal/bytealg.MakeNoZero"], apart := false }
def FnExactRenderSaid : Prop := fnExactRenderRow.holds Try.pinned (OpenSpec.ofChange fnExactRenderSpec)

/-- ITS FALSE NEIGHBOUR: 'it returns false'. Refute it at one input. -/
def fnExactRenderWrong : ChangeSpec := { name := "fnExactRender", fn := fun _ => fun
  | [d1, d2] => { results := [.lit (.bool false)], args := [d1, d2] }
  | _ => none }
def FnExactRenderWrongFalsely : Prop := fnExactRenderRow.holds Try.pinned (OpenSpec.ofChange fnExactRenderWrong)

/-- 'laws.FnExactCostOf': WHATEVER THE INPUT: true; the input reads as it did. -/
def fnExactCostOfSpec : ChangeSpec := { name := "fnExactCostOf", fn := fun _ => fun
  | [d1, d2, d3] => { results := [.lit (.bool true)], args := [d1, d2, d3] }
  | _ => none }
def fnExactCostOfRow : OpenClaim := { program := "ytlakellmdcdaaaa", sum := "e00ae9ba26a61257454f3b39687d29a1784b5c89523041aaf2fb8f4d587a63d2", func := "loop.example/g00459/laws.FnExactCostOf", spec := "fnExactCostOf", inPlace := ["internal/abi.NoEscape", "internal/bytealg.MakeNoZero"], apart := false }
def FnExactCostOfSaid : Prop := fnExactCostOfRow.holds Try.pinned (OpenSpec.ofChange fnExactCostOfSpec)

/-- ITS FALSE NEIGHBOUR: 'it returns false'. Refute it at one input. -/
def fnExactCostOfWrong : ChangeSpec := { name := "fnExactCostOf", fn := fun _ => fun
  | [d1, d2, d3] => { results := [.lit (.bool false)], args := [d1, d2, d3] }
  | _ => none }
def FnExactCostOfWrongFalsely : Prop := fnExactCostOfRow.holds Try.pinned (OpenSpec.ofChange fnExactCostOfWrong)

/-- 'laws.FnExactBestOf': WHATEVER THE INPUT: true; the input reads as it did. -/
def fnExactBestOfSpec : ChangeSpec := { name := "fnExactBestOf", fn := fun _ => fun
  | [d1, d2] => { results := [.lit (.bool true)], args := [d1, d2] }
  | _ => none }
def fnExactBestOfRow : OpenClaim := { program := "ytlakellmdcdaaaa", sum := "e00ae9ba26a61257454f3b39687d29a1784b5c89523041aaf2fb8f4d587a63d2", func := "loop.example/g00459/laws.FnExactBestOf", spec := "fnExactBestOf", inPlace := ["internal/abi.NoEscape", "internal/bytealg.MakeNoZero"], apart := false }
def FnExactBestOfSaid : Prop := fnExactBestOfRow.holds Try.pinned (OpenSpec.ofChange fnExactBestOfSpec)

/-- ITS FALSE NEIGHBOUR: 'it returns false'. Refute it at one input. -/
def fnExactBestOfWrong : ChangeSpec := { name := "fnExactBestOf", fn := fun _ => fun
  | [d1, d2] => { results := [.lit (.bool false)], args := [d1, d2] }
  | _ => none }
def FnExactBestOfWrongFalsely : Prop := fnExactBestOfRow.holds Try.pinned (OpenSpec.ofChange fnExactBestOfWrong)

/-- 'laws.FnBest': WHATEVER THE INPUT: true; the input reads as it did. -/
def fnBestSpec : ChangeSpec := { name := "fnBest", fn := fun _ => fun
  | [d] => { results := [.lit (.bool true)], args := [d] }
  | _ => none }
def fnBestRow : OpenClaim := { program := "ytlakellmdcdaaaa", sum := "e00ae9ba26a61257454f3b39687d29a1784b5c89523041aaf2fb8f4d587a63d2", func := "loop.example/g00459/laws.FnBest", spec := "fnBest", inPlace := ["internal/abi.NoEscape", "internal/bytealg.MakeNoZero"], apart := false }
def FnBestSaid : Prop := fnBestRow.holds Try.pinned (OpenSpec.ofChange fnBestSpec)

/-- ITS FALSE NEIGHBOUR: 'it returns false'. Refute it at one input. -/
def fnBestWrong : ChangeSpec := { name := "fnBest", fn := fun _ => fun
  | [d] => { results := [.lit (.bool false)], args := [d] }
  | _ => none }
def FnBestWrongFalsely : Prop := fnBestRow.holds Try.pinned (OpenSpec.ofChange fnBestWrong)

/-- 'laws.FnPieces': WHATEVER THE INPUT: true; the input reads as it did. -/
def fnPiecesSpec : ChangeSpec := { name := "fnPieces", fn := fun _ => fun
  | [d] => { results := [.lit (.bool true)], args := [d] }
  | _ => none }
def fnPiecesRow : OpenClaim := { program := "ytlakellmdcdaaaa", sum := "e00ae9ba26a61257454f3b39687d29a1784b5c89523041aaf2fb8f4d587a63d2", func := "loop.example/g00459/laws.FnPieces", spec := "fnPieces", apart := false }
def FnPiecesSaid : Prop := fnPiecesRow.holds Try.pinned (OpenSpec.ofChange fnPiecesSpec)

/-- ITS FALSE NEIGHBOUR: 'it returns false'. Refute it at one input. -/
def fnPiecesWrong : ChangeSpec := { name := "fnPieces", fn := fun _ => fun
  | [d] => { results := [.lit (.bool false)], args := [d] }
  | _ => none }
def FnPiecesWrongFalsely : Prop := fnPiecesRow.holds Try.pinned (OpenSpec.ofChange fnPiecesWrong)

/- THE SECOND FORM. 'bulk': how many values and letters a reading holds, each counted each time it is reached (what is shared counts as often as it is met; a slice's spare places count too). A statement '..UptoSaid' is the law's where the arguments, and the package variables that the reading takes, are together of bulk at most 1048576: NARROWER than '..Said'. Prove '..Said' where nothing that the law and all that it calls make is longer than what came in: it says more and counts as full. Else prove '..UptoSaid'. A law counts once. -/
mutual
def uptoBulk {H : Type} : DataW H → Nat
  | .lit (.string bytes) => bytes.length + 1
  | .lit _ => 1
  | .nil => 1
  | .ptr d => uptoBulk d + 1
  | .slice elems spare => uptoBulkAll elems + uptoBulkAll spare + 1
  | .agg parts => uptoBulkAll parts + 1
  | .iface _ d => uptoBulk d + 1
  | .map entries => uptoBulkEntries entries + 1
  | .held _ => 1
def uptoBulkAll {H : Type} : List (DataW H) → Nat
  | [] => 0
  | d :: r => uptoBulk d + uptoBulkAll r
def uptoBulkEntries {H : Type} : List (Lit × DataW H) → Nat
  | [] => 0
  | x :: r => uptoBulkEntry x + uptoBulkEntries r
def uptoBulkEntry {H : Type} : Lit × DataW H → Nat
  | (.string bytes, d) => bytes.length + uptoBulk d + 1
  | (_, d) => uptoBulk d + 1
 end
def uptoSmall : (H : Type) → List (DataW H) → Bool := fun _ ds => decide (uptoBulkAll ds ≤ 1048576)
def OpenSpec.upto (s : _root_.Go.ChangeSpec) : _root_.Go.OpenSpec := { _root_.Go.OpenSpec.ofChange s with cond := some uptoSmall }

/-- 'laws.FnExactCountOf', WHERE WHAT IT READS IS OF BULK AT MOST 1048576: true; the input reads as it did. -/
def fnExactCountOfUptoRow : OpenClaim := { program := "ytlakellmdcdaaaa", sum := "e00ae9ba26a61257454f3b39687d29a1784b5c89523041aaf2fb8f4d587a63d2", func := "loop.example/g00459/laws.FnExactCountOf", spec := "fnExactCountOf", apart := false, narrowed := true }
def FnExactCountOfUptoSaid : Prop := fnExactCountOfUptoRow.holds Try.pinned (OpenSpec.upto fnExactCountOfSpec)

/-- 'laws.FnExactValuesOk', WHERE WHAT IT READS IS OF BULK AT MOST 1048576: true; the input reads as it did. -/
def fnExactValuesOkUptoRow : OpenClaim := { program := "ytlakellmdcdaaaa", sum := "e00ae9ba26a61257454f3b39687d29a1784b5c89523041aaf2fb8f4d587a63d2", func := "loop.example/g00459/laws.FnExactValuesOk", spec := "fnExactValuesOk", apart := false, narrowed := true }
def FnExactValuesOkUptoSaid : Prop := fnExactValuesOkUptoRow.holds Try.pinned (OpenSpec.upto fnExactValuesOkSpec)

/-- 'laws.FnExactTiesHold', WHERE WHAT IT READS IS OF BULK AT MOST 1048576: true; the input reads as it did. -/
def fnExactTiesHoldUptoRow : OpenClaim := { program := "ytlakellmdcdaaaa", sum := "e00ae9ba26a61257454f3b39687d29a1784b5c89523041aaf2fb8f4d587a63d2", func := "loop.example/g00459/laws.FnExactTiesHold", spec := "fnExactTiesHold", apart := false, narrowed := true }
def FnExactTiesHoldUptoSaid : Prop := fnExactTiesHoldUptoRow.holds Try.pinned (OpenSpec.upto fnExactTiesHoldSpec)

/-- 'laws.FnExactPieceOk', WHERE WHAT IT READS IS OF BULK AT MOST 1048576: true; the input reads as it did. -/
def fnExactPieceOkUptoRow : OpenClaim := { program := "ytlakellmdcdaaaa", sum := "e00ae9ba26a61257454f3b39687d29a1784b5c89523041aaf2fb8f4d587a63d2", func := "loop.example/g00459/laws.FnExactPieceOk", spec := "fnExactPieceOk", apart := false, narrowed := true }
def FnExactPieceOkUptoSaid : Prop := fnExactPieceOkUptoRow.holds Try.pinned (OpenSpec.upto fnExactPieceOkSpec)

/-- 'laws.FnExactAllSplit', WHERE WHAT IT READS IS OF BULK AT MOST 1048576: true; the input reads as it did. -/
def fnExactAllSplitUptoRow : OpenClaim := { program := "ytlakellmdcdaaaa", sum := "e00ae9ba26a61257454f3b39687d29a1784b5c89523041aaf2fb8f4d587a63d2", func := "loop.example/g00459/laws.FnExactAllSplit", spec := "fnExactAllSplit", apart := false, narrowed := true }
def FnExactAllSplitUptoSaid : Prop := fnExactAllSplitUptoRow.holds Try.pinned (OpenSpec.upto fnExactAllSplitSpec)

/-- 'laws.FnExactSplitsAt', WHERE WHAT IT READS IS OF BULK AT MOST 1048576: true; the input reads as it did. -/
def fnExactSplitsAtUptoRow : OpenClaim := { program := "ytlakellmdcdaaaa", sum := "e00ae9ba26a61257454f3b39687d29a1784b5c89523041aaf2fb8f4d587a63d2", func := "loop.example/g00459/laws.FnExactSplitsAt", spec := "fnExactSplitsAt", apart := false, narrowed := true }
def FnExactSplitsAtUptoSaid : Prop := fnExactSplitsAtUptoRow.holds Try.pinned (OpenSpec.upto fnExactSplitsAtSpec)

/-- 'laws.FnExactNextOf', WHERE WHAT IT READS IS OF BULK AT MOST 1048576: true; the input reads as it did. -/
def fnExactNextOfUptoRow : OpenClaim := { program := "ytlakellmdcdaaaa", sum := "e00ae9ba26a61257454f3b39687d29a1784b5c89523041aaf2fb8f4d587a63d2", func := "loop.example/g00459/laws.FnExactNextOf", spec := "fnExactNextOf", apart := false, narrowed := true }
def FnExactNextOfUptoSaid : Prop := fnExactNextOfUptoRow.holds Try.pinned (OpenSpec.upto fnExactNextOfSpec)

/-- 'laws.FnExactRender', WHERE WHAT IT READS IS OF BULK AT MOST 1048576: true; the input reads as it did. -/
def fnExactRenderUptoRow : OpenClaim := { program := "ytlakellmdcdaaaa", sum := "e00ae9ba26a61257454f3b39687d29a1784b5c89523041aaf2fb8f4d587a63d2", func := "loop.example/g00459/laws.FnExactRender", spec := "fnExactRender", inPlace := ["internal/abi.NoEscape", "internal/bytealg.MakeNoZero"], apart := false, narrowed := true }
def FnExactRenderUptoSaid : Prop := fnExactRenderUptoRow.holds Try.pinned (OpenSpec.upto fnExactRenderSpec)

/-- 'laws.FnExactCostOf', WHERE WHAT IT READS IS OF BULK AT MOST 1048576: true; the input reads as it did. -/
def fnExactCostOfUptoRow : OpenClaim := { program := "ytlakellmdcdaaaa", sum := "e00ae9ba26a61257454f3b39687d29a1784b5c89523041aaf2fb8f4d587a63d2", func := "loop.example/g00459/laws.FnExactCostOf", spec := "fnExactCostOf", inPlace := ["internal/abi.NoEscape", "internal/bytealg.MakeNoZero"], apart := false, narrowed := true }
def FnExactCostOfUptoSaid : Prop := fnExactCostOfUptoRow.holds Try.pinned (OpenSpec.upto fnExactCostOfSpec)

/-- 'laws.FnExactBestOf', WHERE WHAT IT READS IS OF BULK AT MOST 1048576: true; the input reads as it did. -/
def fnExactBestOfUptoRow : OpenClaim := { program := "ytlakellmdcdaaaa", sum := "e00ae9ba26a61257454f3b39687d29a1784b5c89523041aaf2fb8f4d587a63d2", func := "loop.example/g00459/laws.FnExactBestOf", spec := "fnExactBestOf", inPlace := ["internal/abi.NoEscape", "internal/bytealg.MakeNoZero"], apart := false, narrowed := true }
def FnExactBestOfUptoSaid : Prop := fnExactBestOfUptoRow.holds Try.pinned (OpenSpec.upto fnExactBestOfSpec)

/-- 'laws.FnBest', WHERE WHAT IT READS IS OF BULK AT MOST 1048576: true; the input reads as it did. -/
def fnBestUptoRow : OpenClaim := { program := "ytlakellmdcdaaaa", sum := "e00ae9ba26a61257454f3b39687d29a1784b5c89523041aaf2fb8f4d587a63d2", func := "loop.example/g00459/laws.FnBest", spec := "fnBest", inPlace := ["internal/abi.NoEscape", "internal/bytealg.MakeNoZero"], apart := false, narrowed := true }
def FnBestUptoSaid : Prop := fnBestUptoRow.holds Try.pinned (OpenSpec.upto fnBestSpec)

/-- 'laws.FnPieces', WHERE WHAT IT READS IS OF BULK AT MOST 1048576: true; the input reads as it did. -/
def fnPiecesUptoRow : OpenClaim := { program := "ytlakellmdcdaaaa", sum := "e00ae9ba26a61257454f3b39687d29a1784b5c89523041aaf2fb8f4d587a63d2", func := "loop.example/g00459/laws.FnPieces", spec := "fnPieces", apart := false, narrowed := true }
def FnPiecesUptoSaid : Prop := fnPiecesUptoRow.holds Try.pinned (OpenSpec.upto fnPiecesSpec)

end Rows
end Go.Proofs.Ytlakellmdcdaaaa
