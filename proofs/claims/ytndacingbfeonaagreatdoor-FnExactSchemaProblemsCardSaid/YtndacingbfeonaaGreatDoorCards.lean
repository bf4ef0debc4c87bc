/-
  DERIVED. GIVEN WITH THE SEED: THE CARDS: each row of YtndacingbfeonaaGreatDoorRows.lean that lists a variable, with what it lists TIED to the program's text (the seventh form; the later family's looks); each row that meets fmt, with fmt's text TOLD by the authors' own Lean function (tested against real Go, not proved from fmt's source: count such statements apart). THE CARD IS WHAT COUNTS. Prove the row's statement (the work); the ties are given (YtndacingbfeonaaGreatDoorTie.lean); close each card by the builder's one call (the guide's Derived/Test/ToyasCard.lean, 'card_holds'). Laid BY PROGRAM, IN A SANDBOX (cutbox-door.mjs). By AI agents, Wed Nov 11 2026. No macro, syntax, notation, axiom, sorry.
-/
import Derived.Test.YtndacingbfeonaaGreatDoorRows
import GoSem.ClaimSeven
namespace Go.Proofs.YtndacingbfeonaaGreatDoor
namespace Rows

/-- THE TIED CARD OF 'laws.FnExactArgProblems'. -/
def fnExactArgProblemsCard : Claim7 := { stood := { row := fnExactArgProblemsRow, standIns := [], harness := (true, "5ad46102c45ff6bffeb10fb58075d915bcd3a97651c8d3f86c01f8d959166f94"), looks := true }, kinds := [], alts := [], laidByText := true, laidKinds := [.data, .data, .data, .sentinel, .sentinel], laidTests := true, laidLooks := .later }
def FnExactArgProblemsCardSaid : Prop := Claim7.holds Tryz.pinned (.plain (OpenSpec.ofChange fnExactArgProblemsSpec)) fnExactArgProblemsCard

/-- THE TIED CARD OF 'laws.FnExactInProblems'. -/
def fnExactInProblemsCard : Claim7 := { stood := { row := fnExactInProblemsRow, standIns := [], harness := (true, "5ad46102c45ff6bffeb10fb58075d915bcd3a97651c8d3f86c01f8d959166f94"), looks := true }, kinds := [], alts := [], laidByText := true, laidKinds := [.data, .data, .data, .sentinel, .sentinel], laidTests := true, laidLooks := .later }
def FnExactInProblemsCardSaid : Prop := Claim7.holds Tryz.pinned (.plain (OpenSpec.ofChange fnExactInProblemsSpec)) fnExactInProblemsCard

/-- THE TIED CARD OF 'laws.FnExactDirProblems'. -/
def fnExactDirProblemsCard : Claim7 := { stood := { row := fnExactDirProblemsRow, standIns := [], harness := (true, "5ad46102c45ff6bffeb10fb58075d915bcd3a97651c8d3f86c01f8d959166f94"), looks := true }, kinds := [], alts := [], laidByText := true, laidKinds := [.data, .data, .data, .sentinel, .sentinel], laidTests := true, laidLooks := .later }
def FnExactDirProblemsCardSaid : Prop := Claim7.holds Tryz.pinned (.plain (OpenSpec.ofChange fnExactDirProblemsSpec)) fnExactDirProblemsCard

/-- THE TIED CARD OF 'laws.FnExactTypeProblems'. -/
def fnExactTypeProblemsCard : Claim7 := { stood := { row := fnExactTypeProblemsRow, standIns := [], harness := (true, "5ad46102c45ff6bffeb10fb58075d915bcd3a97651c8d3f86c01f8d959166f94"), looks := true }, kinds := [], alts := [], laidByText := true, laidKinds := [.data, .data, .data, .sentinel, .sentinel], laidTests := true, laidLooks := .later }
def FnExactTypeProblemsCardSaid : Prop := Claim7.holds Tryz.pinned (.plain (OpenSpec.ofChange fnExactTypeProblemsSpec)) fnExactTypeProblemsCard

/-- THE TIED CARD OF 'laws.FnExactGivenProblems'. -/
def fnExactGivenProblemsCard : Claim7 := { stood := { row := fnExactGivenProblemsRow, standIns := [], harness := (true, "5ad46102c45ff6bffeb10fb58075d915bcd3a97651c8d3f86c01f8d959166f94"), looks := true }, kinds := [], alts := [], laidByText := true, laidKinds := [.data, .data, .data, .sentinel, .sentinel], laidTests := true, laidLooks := .later }
def FnExactGivenProblemsCardSaid : Prop := Claim7.holds Tryz.pinned (.plain (OpenSpec.ofChange fnExactGivenProblemsSpec)) fnExactGivenProblemsCard

/-- THE TIED CARD OF 'laws.FnExactSchemaProblems'. -/
def fnExactSchemaProblemsCard : Claim7 := { stood := { row := fnExactSchemaProblemsRow, standIns := [], harness := (true, "5ad46102c45ff6bffeb10fb58075d915bcd3a97651c8d3f86c01f8d959166f94"), looks := true }, kinds := [], alts := [], laidByText := true, laidKinds := [.data, .data, .data, .sentinel, .sentinel], laidTests := true, laidLooks := .later }
def FnExactSchemaProblemsCardSaid : Prop := Claim7.holds Tryz.pinned (.plain (OpenSpec.ofChange fnExactSchemaProblemsSpec)) fnExactSchemaProblemsCard

/-- THE SECOND FORM's CARD OF 'laws.FnExactArgProblems'. -/
def fnExactArgProblemsUptoCard : Claim7 := { stood := { row := fnExactArgProblemsUptoRow, standIns := [], harness := (true, "5ad46102c45ff6bffeb10fb58075d915bcd3a97651c8d3f86c01f8d959166f94"), looks := true }, kinds := [], alts := [], laidByText := true, laidKinds := [.data, .data, .data, .sentinel, .sentinel], laidTests := true, laidLooks := .later }
def FnExactArgProblemsUptoCardSaid : Prop := Claim7.holds Tryz.pinned (.plain (OpenSpec.upto fnExactArgProblemsSpec)) fnExactArgProblemsUptoCard

/-- THE SECOND FORM's CARD OF 'laws.FnExactInProblems'. -/
def fnExactInProblemsUptoCard : Claim7 := { stood := { row := fnExactInProblemsUptoRow, standIns := [], harness := (true, "5ad46102c45ff6bffeb10fb58075d915bcd3a97651c8d3f86c01f8d959166f94"), looks := true }, kinds := [], alts := [], laidByText := true, laidKinds := [.data, .data, .data, .sentinel, .sentinel], laidTests := true, laidLooks := .later }
def FnExactInProblemsUptoCardSaid : Prop := Claim7.holds Tryz.pinned (.plain (OpenSpec.upto fnExactInProblemsSpec)) fnExactInProblemsUptoCard

/-- THE SECOND FORM's CARD OF 'laws.FnExactDirProblems'. -/
def fnExactDirProblemsUptoCard : Claim7 := { stood := { row := fnExactDirProblemsUptoRow, standIns := [], harness := (true, "5ad46102c45ff6bffeb10fb58075d915bcd3a97651c8d3f86c01f8d959166f94"), looks := true }, kinds := [], alts := [], laidByText := true, laidKinds := [.data, .data, .data, .sentinel, .sentinel], laidTests := true, laidLooks := .later }
def FnExactDirProblemsUptoCardSaid : Prop := Claim7.holds Tryz.pinned (.plain (OpenSpec.upto fnExactDirProblemsSpec)) fnExactDirProblemsUptoCard

/-- THE SECOND FORM's CARD OF 'laws.FnExactTypeProblems'. -/
def fnExactTypeProblemsUptoCard : Claim7 := { stood := { row := fnExactTypeProblemsUptoRow, standIns := [], harness := (true, "5ad46102c45ff6bffeb10fb58075d915bcd3a97651c8d3f86c01f8d959166f94"), looks := true }, kinds := [], alts := [], laidByText := true, laidKinds := [.data, .data, .data, .sentinel, .sentinel], laidTests := true, laidLooks := .later }
def FnExactTypeProblemsUptoCardSaid : Prop := Claim7.holds Tryz.pinned (.plain (OpenSpec.upto fnExactTypeProblemsSpec)) fnExactTypeProblemsUptoCard

/-- THE SECOND FORM's CARD OF 'laws.FnExactGivenProblems'. -/
def fnExactGivenProblemsUptoCard : Claim7 := { stood := { row := fnExactGivenProblemsUptoRow, standIns := [], harness := (true, "5ad46102c45ff6bffeb10fb58075d915bcd3a97651c8d3f86c01f8d959166f94"), looks := true }, kinds := [], alts := [], laidByText := true, laidKinds := [.data, .data, .data, .sentinel, .sentinel], laidTests := true, laidLooks := .later }
def FnExactGivenProblemsUptoCardSaid : Prop := Claim7.holds Tryz.pinned (.plain (OpenSpec.upto fnExactGivenProblemsSpec)) fnExactGivenProblemsUptoCard

/-- THE SECOND FORM's CARD OF 'laws.FnExactSchemaProblems'. -/
def fnExactSchemaProblemsUptoCard : Claim7 := { stood := { row := fnExactSchemaProblemsUptoRow, standIns := [], harness := (true, "5ad46102c45ff6bffeb10fb58075d915bcd3a97651c8d3f86c01f8d959166f94"), looks := true }, kinds := [], alts := [], laidByText := true, laidKinds := [.data, .data, .data, .sentinel, .sentinel], laidTests := true, laidLooks := .later }
def FnExactSchemaProblemsUptoCardSaid : Prop := Claim7.holds Tryz.pinned (.plain (OpenSpec.upto fnExactSchemaProblemsSpec)) fnExactSchemaProblemsUptoCard
end Rows
end Go.Proofs.YtndacingbfeonaaGreatDoor
