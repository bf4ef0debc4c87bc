/- What the program's functions compute, read off their text by the shadow runner (MOv); no condition. -/
import Derived.Test.YtndacingbfeonaaGreatDoorRows
import Derived.ProofKit
import Derived.LaidMore
import Derived.LaidHandle
import Derived.Stop.Joined
section
namespace Go.Proofs.YtndacingbfeonaaGreatDoor.fnExactSchemaProblems
open Go.ChangeShapes Go.WideShapes Go.ChangeAt Go.RowKit
set_option linter.unusedVariables false
set_option linter.unusedSimpArgs false
theorem o1 : Tryz.pinned.checked.prog.funcNamed Rows.fnExactSchemaProblemsRow.func = some 8 := by kernel_rfl
theorem aWz {a b : Bool} (ha : a = true) (hb : b = true) : (a && b) = true := by rw [ha, hb]; rfl
section
theorem aVs : Tryz.pinned.checked.prog.mayEnter = true := by kernel_rfl
theorem aUH : (Rows.fnExactSchemaProblemsRow.lifted == Tryz.pinned.checked.prog.liftsFinal) = true := by kernel_rfl
theorem aWn : (Tryz.pinned.checked.prog.make == some Rows.fnExactSchemaProblemsRow.make) = true := by kernel_rfl
theorem aVH : (Rows.fnExactSchemaProblemsRow.named == Tryz.pinned.checked.prog.varsNamed 8) = true := by kernel_rfl
theorem aWO : (Rows.fnExactSchemaProblemsRow.recurses == Tryz.pinned.checked.prog.recurses 8) = true := by kernel_rfl
theorem aWL : (Rows.fnExactSchemaProblemsRow.unfollowed == Tryz.pinned.checked.prog.unfollowed 8) = true := by kernel_rfl
theorem aWA : (Rows.fnExactSchemaProblemsRow.inPlace == Tryz.pinned.checked.prog.inPlace 8) = true := by kernel_rfl
theorem aVE : (Tryz.pinned.checked.prog.stops == []) = true := by kernel_rfl
theorem aVg : (Tryz.pinned.checked.prog.stopKnobs == []) = true := by kernel_rfl
theorem aVv : Tryz.pinned.checked.prog.stopsHeard = true := by kernel_rfl
theorem aWj : (Rows.fnExactSchemaProblemsRow.plainKeys == Tryz.pinned.checked.prog.plainKeys) = true := by kernel_rfl
theorem aWy : laidOutB Tryz.pinned.checked.prog = true := by kernel_rfl
theorem aVq : mapsRowed Tryz.pinned.checked.prog = true := by kernel_rfl
end
theorem o2 : joinedFacts Tryz.pinned.checked.prog 8 Tryz.f8 Rows.fnExactSchemaProblemsSpec Rows.fnExactSchemaProblemsRow = true := by
  unfold joinedFacts
  repeat' with_reducible refine aWz ?_ ?_
  all_goals with_reducible first | exact aVs | exact aUH | exact aWn | exact aVH | exact aWO | exact aWL | exact aWA | exact aVE | exact aVg | exact aVv | exact aWj | exact aWy | exact aVq | (as_aux_lemma => kernel_rfl)
theorem o3 : Tryz.f8.isInstance Tryz.pinned.checked.prog Rows.fnExactSchemaProblemsRow.origin Rows.fnExactSchemaProblemsRow.targs := (of_decide_eq_true (by kernel_rfl))
theorem o4 : Tryz.f8.isWrapper Tryz.pinned.checked.prog Rows.fnExactSchemaProblemsRow.wrapper Rows.fnExactSchemaProblemsRow.mainSum := (by unfold Func.isWrapper; first | (rw [if_pos (by decide +kernel)]; kernel_rfl) | (rw [if_neg (by decide +kernel)]; exact ⟨rfl, rfl⟩))
end Go.Proofs.YtndacingbfeonaaGreatDoor.fnExactSchemaProblems
end
