/-
  DERIVED. GIVEN WITH THE SEED: THE CARDS: each row of YtoegkbokjmopnaaDoorRows.lean that lists a variable, with what it lists TIED to the program's text (the seventh form; the later family's looks); each row that meets fmt, with fmt's text TOLD by the authors' own Lean function (tested against real Go, not proved from fmt's source: count such statements apart). THE CARD IS WHAT COUNTS. Prove the row's statement (the work); the ties are given (YtoegkbokjmopnaaDoorTie.lean); close each card by the builder's one call (the guide's Derived/Test/ToyasCard.lean, 'card_holds'). Laid BY PROGRAM, IN A SANDBOX (cutbox-door.mjs). By AI agents, Wed Nov 11 2026. No macro, syntax, notation, axiom, sorry.
-/
import Derived.Test.YtoegkbokjmopnaaDoorRows
import GoSem.ClaimSeven
namespace Go.Proofs.YtoegkbokjmopnaaDoor
namespace Rows

/-- THE TIED CARD OF 'laws.FnExactProblemLine'. -/
def fnExactProblemLineCard : Claim7 := { stood := { row := fnExactProblemLineRow, standIns := [], harness := (true, "1d82c346d234dc322dd333fb68131eb23df09f000a6462b3b873c60391f3b5d2"), looks := false }, kinds := [], alts := [], laidByText := true, laidKinds := [.data, .data, .data], laidTests := true, laidLooks := .later }
def FnExactProblemLineCardSaid : Prop := Claim7.holds Tryd.pinned (.plain (OpenSpec.ofChange fnExactProblemLineSpec)) fnExactProblemLineCard

/-- THE TIED CARD OF 'laws.FnExactPartsBy'. -/
def fnExactPartsByCard : Claim7 := { stood := { row := fnExactPartsByRow, standIns := [], harness := (true, "1d82c346d234dc322dd333fb68131eb23df09f000a6462b3b873c60391f3b5d2"), looks := false }, kinds := [], alts := [], laidByText := true, laidKinds := [.data, .pinned], laidTests := true, laidLooks := .later }
def FnExactPartsByCardSaid : Prop := Claim7.holds Tryd.pinned (.plain (OpenSpec.ofChange fnExactPartsBySpec)) fnExactPartsByCard

/-- THE SECOND FORM's CARD OF 'laws.FnExactProblemLine'. -/
def fnExactProblemLineUptoCard : Claim7 := { stood := { row := fnExactProblemLineUptoRow, standIns := [], harness := (true, "1d82c346d234dc322dd333fb68131eb23df09f000a6462b3b873c60391f3b5d2"), looks := false }, kinds := [], alts := [], laidByText := true, laidKinds := [.data, .data, .data], laidTests := true, laidLooks := .later }
def FnExactProblemLineUptoCardSaid : Prop := Claim7.holds Tryd.pinned (.plain (OpenSpec.upto fnExactProblemLineSpec)) fnExactProblemLineUptoCard

/-- THE SECOND FORM's CARD OF 'laws.FnExactPartsBy'. -/
def fnExactPartsByUptoCard : Claim7 := { stood := { row := fnExactPartsByUptoRow, standIns := [], harness := (true, "1d82c346d234dc322dd333fb68131eb23df09f000a6462b3b873c60391f3b5d2"), looks := false }, kinds := [], alts := [], laidByText := true, laidKinds := [.data, .pinned], laidTests := true, laidLooks := .later }
def FnExactPartsByUptoCardSaid : Prop := Claim7.holds Tryd.pinned (.plain (OpenSpec.upto fnExactPartsBySpec)) fnExactPartsByUptoCard
end Rows
end Go.Proofs.YtoegkbokjmopnaaDoor
