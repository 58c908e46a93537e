/-
  No cell of these rows narrows 'for every input' (looked for: loops, veiled, ifaces, maps, wideKeys, modest, calm, conditions, laid).
  DERIVED. THE GIVEN ROWS OF THIS SEAT. 9 by the template 'for every input the law returns true; each argument reads behind the call as it read before'; 0 by the template 'total and deterministic' (their statements: YtfcifkanckgchaaTotals.lean).
  GIVEN WITH THE SEED: the statements are not yours to turn. If you find one false, say at which input.
  Laid BY PROGRAM, IN A SANDBOX (cutbox-rows.mjs): the forced cells as the released guide's own fill.sh prints them over the translation d41d82f652ff2257… (all of the seat's roots in one cut). By AI agents, Wed Nov 11 2026. No macro, syntax, notation, axiom, sorry.
-/
import Derived.Test.YtfcifkanckgchaaChecked
import GoSem.Claim
import GoSem.ClaimJoined
import GoSem.ClaimMapViews
import Derived.JoinedTies
import Derived.KernelRfl
namespace Go.Proofs.Ytfcifkanckgchaa
/- THE CELL 'sum', in the pinned program and in every row, IS THE sha256 OF THE DUMP (.gsa) THAT YtfcifkanckgchaaProg.lean LOADS. Nothing in Lean hashes anything: it is a label: what it is worth is what the hold of that sum in a sandbox is worth. -/
noncomputable def Try.pinned : Pinned := { name := "ytfcifkanckgchaa", sum := "d41d82f652ff2257e13fb53ff0806bbddaff51a6a1e59b3bc43089d04f9578d2", checked := Try.checked }
namespace Rows
def none {H : Type} : Left H := { results := [], args := [] }

/-- 'laws.FnExactSameSigns': WHATEVER THE INPUT: true; the input reads as it did. -/
def fnExactSameSignsSpec : ChangeSpec := { name := "fnExactSameSigns", fn := fun _ => fun
  | [d1, d2] => { results := [.lit (.bool true)], args := [d1, d2] }
  | _ => none }
def fnExactSameSignsRow : OpenClaim := { program := "ytfcifkanckgchaa", sum := "d41d82f652ff2257e13fb53ff0806bbddaff51a6a1e59b3bc43089d04f9578d2", func := "loop.example/g00459/laws.FnExactSameSigns", spec := "fnExactSameSigns", unfollowed := true, recurses := true, apart := false }
def FnExactSameSignsSaid : Prop := fnExactSameSignsRow.holds Try.pinned (OpenSpec.ofChange fnExactSameSignsSpec)

/-- ITS FALSE NEIGHBOUR: 'it returns false'. Refute it at one input. -/
def fnExactSameSignsWrong : ChangeSpec := { name := "fnExactSameSigns", fn := fun _ => fun
  | [d1, d2] => { results := [.lit (.bool false)], args := [d1, d2] }
  | _ => none }
def FnExactSameSignsWrongFalsely : Prop := fnExactSameSignsRow.holds Try.pinned (OpenSpec.ofChange fnExactSameSignsWrong)

/-- 'laws.FnExactStateLess': WHATEVER THE INPUT: true; the input reads as it did. -/
def fnExactStateLessSpec : ChangeSpec := { name := "fnExactStateLess", fn := fun _ => fun
  | [d1, d2] => { results := [.lit (.bool true)], args := [d1, d2] }
  | _ => none }
def fnExactStateLessRow : OpenClaim := { program := "ytfcifkanckgchaa", sum := "d41d82f652ff2257e13fb53ff0806bbddaff51a6a1e59b3bc43089d04f9578d2", func := "loop.example/g00459/laws.FnExactStateLess", spec := "fnExactStateLess", apart := false }
def FnExactStateLessSaid : Prop := fnExactStateLessRow.holds Try.pinned (OpenSpec.ofChange fnExactStateLessSpec)

/-- ITS FALSE NEIGHBOUR: 'it returns false'. Refute it at one input. -/
def fnExactStateLessWrong : ChangeSpec := { name := "fnExactStateLess", fn := fun _ => fun
  | [d1, d2] => { results := [.lit (.bool false)], args := [d1, d2] }
  | _ => none }
def FnExactStateLessWrongFalsely : Prop := fnExactStateLessRow.holds Try.pinned (OpenSpec.ofChange fnExactStateLessWrong)

/-- 'laws.FnExactFlat': WHATEVER THE INPUT: true; the input reads as it did. -/
def fnExactFlatSpec : ChangeSpec := { name := "fnExactFlat", fn := fun _ => fun
  | [d] => { results := [.lit (.bool true)], args := [d] }
  | _ => none }
def fnExactFlatRow : OpenClaim := { program := "ytfcifkanckgchaa", sum := "d41d82f652ff2257e13fb53ff0806bbddaff51a6a1e59b3bc43089d04f9578d2", func := "loop.example/g00459/laws.FnExactFlat", spec := "fnExactFlat", inPlace := ["internal/abi.NoEscape"], apart := false }
def FnExactFlatSaid : Prop := fnExactFlatRow.holds Try.pinned (OpenSpec.ofChange fnExactFlatSpec)

/-- ITS FALSE NEIGHBOUR: 'it returns false'. Refute it at one input. -/
def fnExactFlatWrong : ChangeSpec := { name := "fnExactFlat", fn := fun _ => fun
  | [d] => { results := [.lit (.bool false)], args := [d] }
  | _ => none }
def FnExactFlatWrongFalsely : Prop := fnExactFlatRow.holds Try.pinned (OpenSpec.ofChange fnExactFlatWrong)

/-- 'laws.FnExactMarkOk': WHATEVER THE INPUT: true; the input reads as it did. -/
def fnExactMarkOkSpec : ChangeSpec := { name := "fnExactMarkOk", fn := fun _ => fun
  | [d] => { results := [.lit (.bool true)], args := [d] }
  | _ => none }
def fnExactMarkOkRow : OpenClaim := { program := "ytfcifkanckgchaa", sum := "d41d82f652ff2257e13fb53ff0806bbddaff51a6a1e59b3bc43089d04f9578d2", func := "loop.example/g00459/laws.FnExactMarkOk", spec := "fnExactMarkOk", inPlace := ["internal/bytealg.IndexByteString", "internal/bytealg.IndexString"], named := ["internal/bytealg.MaxLen"], apart := false }
def FnExactMarkOkSaid : Prop := fnExactMarkOkRow.holds Try.pinned (OpenSpec.ofChange fnExactMarkOkSpec)

/-- ITS FALSE NEIGHBOUR: 'it returns false'. Refute it at one input. -/
def fnExactMarkOkWrong : ChangeSpec := { name := "fnExactMarkOk", fn := fun _ => fun
  | [d] => { results := [.lit (.bool false)], args := [d] }
  | _ => none }
def FnExactMarkOkWrongFalsely : Prop := fnExactMarkOkRow.holds Try.pinned (OpenSpec.ofChange fnExactMarkOkWrong)

/-- 'laws.FnExactSameWords': WHATEVER THE INPUT: true; the input reads as it did. -/
def fnExactSameWordsSpec : ChangeSpec := { name := "fnExactSameWords", fn := fun _ => fun
  | [d1, d2] => { results := [.lit (.bool true)], args := [d1, d2] }
  | _ => none }
def fnExactSameWordsRow : OpenClaim := { program := "ytfcifkanckgchaa", sum := "d41d82f652ff2257e13fb53ff0806bbddaff51a6a1e59b3bc43089d04f9578d2", func := "loop.example/g00459/laws.FnExactSameWords", spec := "fnExactSameWords", unfollowed := true, recurses := true, apart := false }
def FnExactSameWordsSaid : Prop := fnExactSameWordsRow.holds Try.pinned (OpenSpec.ofChange fnExactSameWordsSpec)

/-- ITS FALSE NEIGHBOUR: 'it returns false'. Refute it at one input. -/
def fnExactSameWordsWrong : ChangeSpec := { name := "fnExactSameWords", fn := fun _ => fun
  | [d1, d2] => { results := [.lit (.bool false)], args := [d1, d2] }
  | _ => none }
def FnExactSameWordsWrongFalsely : Prop := fnExactSameWordsRow.holds Try.pinned (OpenSpec.ofChange fnExactSameWordsWrong)

/-- 'laws.FnExactNotesIn': WHATEVER THE INPUT: true; the input reads as it did. -/
def fnExactNotesInSpec : ChangeSpec := { name := "fnExactNotesIn", fn := fun _ => fun
  | [d] => { results := [.lit (.bool true)], args := [d] }
  | _ => none }
def fnExactNotesInRow : OpenClaim := { program := "ytfcifkanckgchaa", sum := "d41d82f652ff2257e13fb53ff0806bbddaff51a6a1e59b3bc43089d04f9578d2", func := "loop.example/g00459/laws.FnExactNotesIn", spec := "fnExactNotesIn", apart := false }
def FnExactNotesInSaid : Prop := fnExactNotesInRow.holds Try.pinned (OpenSpec.ofChange fnExactNotesInSpec)

/-- ITS FALSE NEIGHBOUR: 'it returns false'. Refute it at one input. -/
def fnExactNotesInWrong : ChangeSpec := { name := "fnExactNotesIn", fn := fun _ => fun
  | [d] => { results := [.lit (.bool false)], args := [d] }
  | _ => none }
def FnExactNotesInWrongFalsely : Prop := fnExactNotesInRow.holds Try.pinned (OpenSpec.ofChange fnExactNotesInWrong)

/-- 'laws.FnExactSameTree': WHATEVER THE INPUT: true; the input reads as it did. -/
def fnExactSameTreeSpec : ChangeSpec := { name := "fnExactSameTree", fn := fun _ => fun
  | [d1, d2] => { results := [.lit (.bool true)], args := [d1, d2] }
  | _ => none }
def fnExactSameTreeRow : OpenClaim := { program := "ytfcifkanckgchaa", sum := "d41d82f652ff2257e13fb53ff0806bbddaff51a6a1e59b3bc43089d04f9578d2", func := "loop.example/g00459/laws.FnExactSameTree", spec := "fnExactSameTree", unfollowed := true, recurses := true, apart := false }
def FnExactSameTreeSaid : Prop := fnExactSameTreeRow.holds Try.pinned (OpenSpec.ofChange fnExactSameTreeSpec)

/-- ITS FALSE NEIGHBOUR: 'it returns false'. Refute it at one input. -/
def fnExactSameTreeWrong : ChangeSpec := { name := "fnExactSameTree", fn := fun _ => fun
  | [d1, d2] => { results := [.lit (.bool false)], args := [d1, d2] }
  | _ => none }
def FnExactSameTreeWrongFalsely : Prop := fnExactSameTreeRow.holds Try.pinned (OpenSpec.ofChange fnExactSameTreeWrong)

/-- 'laws.FnExactPlaceOf': WHATEVER THE INPUT: true; the input reads as it did. -/
def fnExactPlaceOfSpec : ChangeSpec := { name := "fnExactPlaceOf", fn := fun _ => fun
  | [d1, d2] => { results := [.lit (.bool true)], args := [d1, d2] }
  | _ => none }
def fnExactPlaceOfRow : OpenClaim := { program := "ytfcifkanckgchaa", sum := "d41d82f652ff2257e13fb53ff0806bbddaff51a6a1e59b3bc43089d04f9578d2", func := "loop.example/g00459/laws.FnExactPlaceOf", spec := "fnExactPlaceOf", inPlace := ["internal/bytealg.CountString", "internal/bytealg.IndexByteString", "internal/bytealg.IndexString"], named := ["internal/bytealg.MaxLen"], apart := false }
def FnExactPlaceOfSaid : Prop := fnExactPlaceOfRow.holds Try.pinned (OpenSpec.ofChange fnExactPlaceOfSpec)

/-- ITS FALSE NEIGHBOUR: 'it returns false'. Refute it at one input. -/
def fnExactPlaceOfWrong : ChangeSpec := { name := "fnExactPlaceOf", fn := fun _ => fun
  | [d1, d2] => { results := [.lit (.bool false)], args := [d1, d2] }
  | _ => none }
def FnExactPlaceOfWrongFalsely : Prop := fnExactPlaceOfRow.holds Try.pinned (OpenSpec.ofChange fnExactPlaceOfWrong)

/-- 'laws.FnExactHeapOk': WHATEVER THE INPUT: true; the input reads as it did. -/
def fnExactHeapOkSpec : ChangeSpec := { name := "fnExactHeapOk", fn := fun _ => fun
  | [d] => { results := [.lit (.bool true)], args := [d] }
  | _ => none }
def fnExactHeapOkRow : OpenClaim := { program := "ytfcifkanckgchaa", sum := "d41d82f652ff2257e13fb53ff0806bbddaff51a6a1e59b3bc43089d04f9578d2", func := "loop.example/g00459/laws.FnExactHeapOk", spec := "fnExactHeapOk", apart := false }
def FnExactHeapOkSaid : Prop := fnExactHeapOkRow.holds Try.pinned (OpenSpec.ofChange fnExactHeapOkSpec)

/-- ITS FALSE NEIGHBOUR: 'it returns false'. Refute it at one input. -/
def fnExactHeapOkWrong : ChangeSpec := { name := "fnExactHeapOk", fn := fun _ => fun
  | [d] => { results := [.lit (.bool false)], args := [d] }
  | _ => none }
def FnExactHeapOkWrongFalsely : Prop := fnExactHeapOkRow.holds Try.pinned (OpenSpec.ofChange fnExactHeapOkWrong)

/- THE SECOND FORM. 'bulk': how many values and letters a reading holds, each counted each time it is reached (what is shared counts as often as it is met; a slice's spare places count too). A statement '..UptoSaid' is the law's where the arguments, and the package variables that the reading takes, are together of bulk at most 1048576: NARROWER than '..Said'. Prove '..Said' where nothing that the law and all that it calls make is longer than what came in: it says more and counts as full. Else prove '..UptoSaid'. A law counts once. -/
mutual
def uptoBulk {H : Type} : DataW H → Nat
  | .lit (.string bytes) => bytes.length + 1
  | .lit _ => 1
  | .nil => 1
  | .ptr d => uptoBulk d + 1
  | .slice elems spare => uptoBulkAll elems + uptoBulkAll spare + 1
  | .agg parts => uptoBulkAll parts + 1
  | .iface _ d => uptoBulk d + 1
  | .map entries => uptoBulkEntries entries + 1
  | .held _ => 1
def uptoBulkAll {H : Type} : List (DataW H) → Nat
  | [] => 0
  | d :: r => uptoBulk d + uptoBulkAll r
def uptoBulkEntries {H : Type} : List (Lit × DataW H) → Nat
  | [] => 0
  | x :: r => uptoBulkEntry x + uptoBulkEntries r
def uptoBulkEntry {H : Type} : Lit × DataW H → Nat
  | (.string bytes, d) => bytes.length + uptoBulk d + 1
  | (_, d) => uptoBulk d + 1
 end
def uptoSmall : (H : Type) → List (DataW H) → Bool := fun _ ds => decide (uptoBulkAll ds ≤ 1048576)
def OpenSpec.upto (s : _root_.Go.ChangeSpec) : _root_.Go.OpenSpec := { _root_.Go.OpenSpec.ofChange s with cond := some uptoSmall }

/-- 'laws.FnExactSameSigns', WHERE WHAT IT READS IS OF BULK AT MOST 1048576: true; the input reads as it did. -/
def fnExactSameSignsUptoRow : OpenClaim := { program := "ytfcifkanckgchaa", sum := "d41d82f652ff2257e13fb53ff0806bbddaff51a6a1e59b3bc43089d04f9578d2", func := "loop.example/g00459/laws.FnExactSameSigns", spec := "fnExactSameSigns", unfollowed := true, recurses := true, apart := false, narrowed := true }
def FnExactSameSignsUptoSaid : Prop := fnExactSameSignsUptoRow.holds Try.pinned (OpenSpec.upto fnExactSameSignsSpec)

/-- 'laws.FnExactStateLess', WHERE WHAT IT READS IS OF BULK AT MOST 1048576: true; the input reads as it did. -/
def fnExactStateLessUptoRow : OpenClaim := { program := "ytfcifkanckgchaa", sum := "d41d82f652ff2257e13fb53ff0806bbddaff51a6a1e59b3bc43089d04f9578d2", func := "loop.example/g00459/laws.FnExactStateLess", spec := "fnExactStateLess", apart := false, narrowed := true }
def FnExactStateLessUptoSaid : Prop := fnExactStateLessUptoRow.holds Try.pinned (OpenSpec.upto fnExactStateLessSpec)

/-- 'laws.FnExactFlat', WHERE WHAT IT READS IS OF BULK AT MOST 1048576: true; the input reads as it did. -/
def fnExactFlatUptoRow : OpenClaim := { program := "ytfcifkanckgchaa", sum := "d41d82f652ff2257e13fb53ff0806bbddaff51a6a1e59b3bc43089d04f9578d2", func := "loop.example/g00459/laws.FnExactFlat", spec := "fnExactFlat", inPlace := ["internal/abi.NoEscape"], apart := false, narrowed := true }
def FnExactFlatUptoSaid : Prop := fnExactFlatUptoRow.holds Try.pinned (OpenSpec.upto fnExactFlatSpec)

/-- 'laws.FnExactMarkOk', WHERE WHAT IT READS IS OF BULK AT MOST 1048576: true; the input reads as it did. -/
def fnExactMarkOkUptoRow : OpenClaim := { program := "ytfcifkanckgchaa", sum := "d41d82f652ff2257e13fb53ff0806bbddaff51a6a1e59b3bc43089d04f9578d2", func := "loop.example/g00459/laws.FnExactMarkOk", spec := "fnExactMarkOk", inPlace := ["internal/bytealg.IndexByteString", "internal/bytealg.IndexString"], named := ["internal/bytealg.MaxLen"], apart := false, narrowed := true }
def FnExactMarkOkUptoSaid : Prop := fnExactMarkOkUptoRow.holds Try.pinned (OpenSpec.upto fnExactMarkOkSpec)

/-- 'laws.FnExactSameWords', WHERE WHAT IT READS IS OF BULK AT MOST 1048576: true; the input reads as it did. -/
def fnExactSameWordsUptoRow : OpenClaim := { program := "ytfcifkanckgchaa", sum := "d41d82f652ff2257e13fb53ff0806bbddaff51a6a1e59b3bc43089d04f9578d2", func := "loop.example/g00459/laws.FnExactSameWords", spec := "fnExactSameWords", unfollowed := true, recurses := true, apart := false, narrowed := true }
def FnExactSameWordsUptoSaid : Prop := fnExactSameWordsUptoRow.holds Try.pinned (OpenSpec.upto fnExactSameWordsSpec)

/-- 'laws.FnExactNotesIn', WHERE WHAT IT READS IS OF BULK AT MOST 1048576: true; the input reads as it did. -/
def fnExactNotesInUptoRow : OpenClaim := { program := "ytfcifkanckgchaa", sum := "d41d82f652ff2257e13fb53ff0806bbddaff51a6a1e59b3bc43089d04f9578d2", func := "loop.example/g00459/laws.FnExactNotesIn", spec := "fnExactNotesIn", apart := false, narrowed := true }
def FnExactNotesInUptoSaid : Prop := fnExactNotesInUptoRow.holds Try.pinned (OpenSpec.upto fnExactNotesInSpec)

/-- 'laws.FnExactSameTree', WHERE WHAT IT READS IS OF BULK AT MOST 1048576: true; the input reads as it did. -/
def fnExactSameTreeUptoRow : OpenClaim := { program := "ytfcifkanckgchaa", sum := "d41d82f652ff2257e13fb53ff0806bbddaff51a6a1e59b3bc43089d04f9578d2", func := "loop.example/g00459/laws.FnExactSameTree", spec := "fnExactSameTree", unfollowed := true, recurses := true, apart := false, narrowed := true }
def FnExactSameTreeUptoSaid : Prop := fnExactSameTreeUptoRow.holds Try.pinned (OpenSpec.upto fnExactSameTreeSpec)

/-- 'laws.FnExactPlaceOf', WHERE WHAT IT READS IS OF BULK AT MOST 1048576: true; the input reads as it did. -/
def fnExactPlaceOfUptoRow : OpenClaim := { program := "ytfcifkanckgchaa", sum := "d41d82f652ff2257e13fb53ff0806bbddaff51a6a1e59b3bc43089d04f9578d2", func := "loop.example/g00459/laws.FnExactPlaceOf", spec := "fnExactPlaceOf", inPlace := ["internal/bytealg.CountString", "internal/bytealg.IndexByteString", "internal/bytealg.IndexString"], named := ["internal/bytealg.MaxLen"], apart := false, narrowed := true }
def FnExactPlaceOfUptoSaid : Prop := fnExactPlaceOfUptoRow.holds Try.pinned (OpenSpec.upto fnExactPlaceOfSpec)

/-- 'laws.FnExactHeapOk', WHERE WHAT IT READS IS OF BULK AT MOST 1048576: true; the input reads as it did. -/
def fnExactHeapOkUptoRow : OpenClaim := { program := "ytfcifkanckgchaa", sum := "d41d82f652ff2257e13fb53ff0806bbddaff51a6a1e59b3bc43089d04f9578d2", func := "loop.example/g00459/laws.FnExactHeapOk", spec := "fnExactHeapOk", apart := false, narrowed := true }
def FnExactHeapOkUptoSaid : Prop := fnExactHeapOkUptoRow.holds Try.pinned (OpenSpec.upto fnExactHeapOkSpec)

end Rows
end Go.Proofs.Ytfcifkanckgchaa
