/-
  DERIVED. GIVEN WITH THE SEED: THE CARDS: each row of YtfhigagbipkipaaDoorRows.lean that lists a variable, with what it lists TIED to the program's text (the seventh form; the later family's looks); each row that meets fmt, with fmt's text TOLD by the authors' own Lean function (tested against real Go, not proved from fmt's source: count such statements apart). THE CARD IS WHAT COUNTS. Prove the row's statement (the work); the ties are given (YtfhigagbipkipaaDoorTie.lean); close each card by the builder's one call (the guide's Derived/Test/ToyasCard.lean, 'card_holds'). Laid BY PROGRAM, IN A SANDBOX (cutbox-door.mjs). By AI agents, Wed Nov 11 2026. No macro, syntax, notation, axiom, sorry.
-/
import Derived.Test.YtfhigagbipkipaaDoorRows
import GoSem.ClaimSeven
namespace Go.Proofs.YtfhigagbipkipaaDoor
namespace Rows

/-- THE TIED CARD OF 'laws.FnExactWidestOf'. -/
def fnExactWidestOfCard : Claim7 := { stood := { row := fnExactWidestOfRow, standIns := [], harness := (true, "6ba8fbaf95faaabf4bdd9dbccb46fad67373512a5ce9ac292fb753658b1e4647"), looks := false }, kinds := [], alts := [], laidByText := true, laidKinds := [.data, .pinned], laidTests := true, laidLooks := .later }
def FnExactWidestOfCardSaid : Prop := Claim7.holds Tryd.pinned (.plain (OpenSpec.ofChange fnExactWidestOfSpec)) fnExactWidestOfCard

/-- THE TIED CARD OF 'laws.FnExactLinesOf'. -/
def fnExactLinesOfCard : Claim7 := { stood := { row := fnExactLinesOfRow, standIns := [], harness := (true, "6ba8fbaf95faaabf4bdd9dbccb46fad67373512a5ce9ac292fb753658b1e4647"), looks := false }, kinds := [], alts := [], laidByText := true, laidKinds := [.data, .pinned], laidTests := true, laidLooks := .later }
def FnExactLinesOfCardSaid : Prop := Claim7.holds Tryd.pinned (.plain (OpenSpec.ofChange fnExactLinesOfSpec)) fnExactLinesOfCard

/-- THE SECOND FORM's CARD OF 'laws.FnExactWidestOf'. -/
def fnExactWidestOfUptoCard : Claim7 := { stood := { row := fnExactWidestOfUptoRow, standIns := [], harness := (true, "6ba8fbaf95faaabf4bdd9dbccb46fad67373512a5ce9ac292fb753658b1e4647"), looks := false }, kinds := [], alts := [], laidByText := true, laidKinds := [.data, .pinned], laidTests := true, laidLooks := .later }
def FnExactWidestOfUptoCardSaid : Prop := Claim7.holds Tryd.pinned (.plain (OpenSpec.upto fnExactWidestOfSpec)) fnExactWidestOfUptoCard

/-- THE SECOND FORM's CARD OF 'laws.FnExactLinesOf'. -/
def fnExactLinesOfUptoCard : Claim7 := { stood := { row := fnExactLinesOfUptoRow, standIns := [], harness := (true, "6ba8fbaf95faaabf4bdd9dbccb46fad67373512a5ce9ac292fb753658b1e4647"), looks := false }, kinds := [], alts := [], laidByText := true, laidKinds := [.data, .pinned], laidTests := true, laidLooks := .later }
def FnExactLinesOfUptoCardSaid : Prop := Claim7.holds Tryd.pinned (.plain (OpenSpec.upto fnExactLinesOfSpec)) fnExactLinesOfUptoCard
end Rows
end Go.Proofs.YtfhigagbipkipaaDoor
