/-
  DERIVED. GIVEN WITH THE SEED: THE CARDS: each row of YtonmdkhfongmhaaDoorRows.lean that lists a variable, with what it lists TIED to the program's text (the seventh form; the later family's looks); each row that meets fmt, with fmt's text TOLD by the authors' own Lean function (tested against real Go, not proved from fmt's source: count such statements apart). THE CARD IS WHAT COUNTS. Prove the row's statement (the work); the ties are given (YtonmdkhfongmhaaDoorTie.lean); close each card by the builder's one call (the guide's Derived/Test/ToyasCard.lean, 'card_holds'). Laid BY PROGRAM, IN A SANDBOX (cutbox-door.mjs). By AI agents, Wed Nov 11 2026. No macro, syntax, notation, axiom, sorry.
-/
import Derived.Test.YtonmdkhfongmhaaDoorRows
import GoSem.ClaimSeven
namespace Go.Proofs.YtonmdkhfongmhaaDoor
namespace Rows

/-- THE TIED CARD OF 'laws.FnExactReadingsText'. -/
def fnExactReadingsTextCard : Claim7 := { stood := { row := fnExactReadingsTextRow, standIns := [], harness := (true, "e8fec07b0875cdbb5bad0f733bdb838305891a6e53c2319ad9659e6aadf10510"), looks := false }, kinds := [], alts := [], laidByText := true, laidKinds := [.data, .data, .data], laidTests := true, laidLooks := .later }
def FnExactReadingsTextCardSaid : Prop := Claim7.holds Tryd.pinned (.plain (OpenSpec.ofChange fnExactReadingsTextSpec)) fnExactReadingsTextCard

/-- THE SECOND FORM's CARD OF 'laws.FnExactReadingsText'. -/
def fnExactReadingsTextUptoCard : Claim7 := { stood := { row := fnExactReadingsTextUptoRow, standIns := [], harness := (true, "e8fec07b0875cdbb5bad0f733bdb838305891a6e53c2319ad9659e6aadf10510"), looks := false }, kinds := [], alts := [], laidByText := true, laidKinds := [.data, .data, .data], laidTests := true, laidLooks := .later }
def FnExactReadingsTextUptoCardSaid : Prop := Claim7.holds Tryd.pinned (.plain (OpenSpec.upto fnExactReadingsTextSpec)) fnExactReadingsTextUptoCard
end Rows
end Go.Proofs.YtonmdkhfongmhaaDoor
