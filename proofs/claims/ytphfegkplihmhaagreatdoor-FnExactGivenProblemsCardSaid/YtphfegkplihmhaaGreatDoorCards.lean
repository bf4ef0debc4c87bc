/-
  DERIVED. GIVEN WITH THE SEED: THE CARDS: each row of YtphfegkplihmhaaGreatDoorRows.lean that lists a variable, with what it lists TIED to the program's text (the seventh form; the later family's looks); each row that meets fmt, with fmt's text TOLD by the authors' own Lean function (tested against real Go, not proved from fmt's source: count such statements apart). THE CARD IS WHAT COUNTS. Prove the row's statement (the work); the ties are given (YtphfegkplihmhaaGreatDoorTie.lean); close each card by the builder's one call (the guide's Derived/Test/ToyasCard.lean, 'card_holds'). Laid BY PROGRAM, IN A SANDBOX (cutbox-door.mjs). By AI agents, Wed Nov 11 2026. No macro, syntax, notation, axiom, sorry.
-/
import Derived.Test.YtphfegkplihmhaaGreatDoorRows
import GoSem.ClaimSeven
namespace Go.Proofs.YtphfegkplihmhaaGreatDoor
namespace Rows

/-- THE TIED CARD OF 'laws.FnExactGivenProblems'. -/
def fnExactGivenProblemsCard : Claim7 := { stood := { row := fnExactGivenProblemsRow, standIns := [], harness := (true, "e3861b329623b264d1bb4beffd071d3779401e2b42c16c88e43e749d27c4e0f5"), looks := true }, kinds := [], alts := [], laidByText := true, laidKinds := [.data, .data, .data, .sentinel, .sentinel], laidTests := true, laidLooks := .later }
def FnExactGivenProblemsCardSaid : Prop := Claim7.holds Tryz.pinned (.plain (OpenSpec.ofChange fnExactGivenProblemsSpec)) fnExactGivenProblemsCard

/-- THE SECOND FORM's CARD OF 'laws.FnExactGivenProblems'. -/
def fnExactGivenProblemsUptoCard : Claim7 := { stood := { row := fnExactGivenProblemsUptoRow, standIns := [], harness := (true, "e3861b329623b264d1bb4beffd071d3779401e2b42c16c88e43e749d27c4e0f5"), looks := true }, kinds := [], alts := [], laidByText := true, laidKinds := [.data, .data, .data, .sentinel, .sentinel], laidTests := true, laidLooks := .later }
def FnExactGivenProblemsUptoCardSaid : Prop := Claim7.holds Tryz.pinned (.plain (OpenSpec.upto fnExactGivenProblemsSpec)) fnExactGivenProblemsUptoCard
end Rows
end Go.Proofs.YtphfegkplihmhaaGreatDoor
