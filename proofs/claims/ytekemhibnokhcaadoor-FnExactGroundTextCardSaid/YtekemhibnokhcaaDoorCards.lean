/-
  DERIVED. GIVEN WITH THE SEED: THE CARDS: each row of YtekemhibnokhcaaDoorRows.lean that lists a variable, with what it lists TIED to the program's text (the seventh form; the later family's looks); each row that meets fmt, with fmt's text TOLD by the authors' own Lean function (tested against real Go, not proved from fmt's source: count such statements apart). THE CARD IS WHAT COUNTS. Prove the row's statement (the work); the ties are given (YtekemhibnokhcaaDoorTie.lean); close each card by the builder's one call (the guide's Derived/Test/ToyasCard.lean, 'card_holds'). Laid BY PROGRAM, IN A SANDBOX (cutbox-door.mjs). By AI agents, Wed Nov 11 2026. No macro, syntax, notation, axiom, sorry.
-/
import Derived.Test.YtekemhibnokhcaaDoorRows
import GoSem.ClaimSeven
namespace Go.Proofs.YtekemhibnokhcaaDoor
namespace Rows

/-- THE TIED CARD OF 'laws.FnExactWellsText'. -/
def fnExactWellsTextCard : Claim7 := { stood := { row := fnExactWellsTextRow, standIns := [], harness := (true, "9be3499c161a9ff2493a3b12f72cb47509253c176088f4305df4b3790aacd775"), looks := false }, kinds := [], alts := [], laidByText := true, laidKinds := [.data, .data, .data], laidTests := true, laidLooks := .later }
def FnExactWellsTextCardSaid : Prop := Claim7.holds Tryd.pinned (.plain (OpenSpec.ofChange fnExactWellsTextSpec)) fnExactWellsTextCard

/-- THE TIED CARD OF 'laws.FnExactGroundText'. -/
def fnExactGroundTextCard : Claim7 := { stood := { row := fnExactGroundTextRow, standIns := [], harness := (true, "9be3499c161a9ff2493a3b12f72cb47509253c176088f4305df4b3790aacd775"), looks := false }, kinds := [], alts := [], laidByText := true, laidKinds := [.data, .data, .data], laidTests := true, laidLooks := .later }
def FnExactGroundTextCardSaid : Prop := Claim7.holds Tryd.pinned (.plain (OpenSpec.ofChange fnExactGroundTextSpec)) fnExactGroundTextCard

/-- THE SECOND FORM's CARD OF 'laws.FnExactWellsText'. -/
def fnExactWellsTextUptoCard : Claim7 := { stood := { row := fnExactWellsTextUptoRow, standIns := [], harness := (true, "9be3499c161a9ff2493a3b12f72cb47509253c176088f4305df4b3790aacd775"), looks := false }, kinds := [], alts := [], laidByText := true, laidKinds := [.data, .data, .data], laidTests := true, laidLooks := .later }
def FnExactWellsTextUptoCardSaid : Prop := Claim7.holds Tryd.pinned (.plain (OpenSpec.upto fnExactWellsTextSpec)) fnExactWellsTextUptoCard

/-- THE SECOND FORM's CARD OF 'laws.FnExactGroundText'. -/
def fnExactGroundTextUptoCard : Claim7 := { stood := { row := fnExactGroundTextUptoRow, standIns := [], harness := (true, "9be3499c161a9ff2493a3b12f72cb47509253c176088f4305df4b3790aacd775"), looks := false }, kinds := [], alts := [], laidByText := true, laidKinds := [.data, .data, .data], laidTests := true, laidLooks := .later }
def FnExactGroundTextUptoCardSaid : Prop := Claim7.holds Tryd.pinned (.plain (OpenSpec.upto fnExactGroundTextSpec)) fnExactGroundTextUptoCard
end Rows
end Go.Proofs.YtekemhibnokhcaaDoor
