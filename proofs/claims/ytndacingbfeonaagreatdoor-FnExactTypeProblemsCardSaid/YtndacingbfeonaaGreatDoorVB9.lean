/- What the program's functions compute, read off their text by the shadow runner (KOv); no condition. -/
import Derived.Test.YtndacingbfeonaaGreatDoorRows
import Derived.ProofKit
import Derived.LaidMore
import Derived.LaidHandle
import Derived.Stop.Joined
section
namespace Go.Proofs.YtndacingbfeonaaGreatDoor.fnExactTypeProblems
open Go.ChangeShapes Go.WideShapes Go.ChangeAt Go.RowKit
set_option linter.unusedVariables false
set_option linter.unusedSimpArgs false
theorem o1 : Tryz.pinned.checked.prog.funcNamed Rows.fnExactTypeProblemsRow.func = some 6 := by kernel_rfl
theorem aVs {a b : Bool} (ha : a = true) (hb : b = true) : (a && b) = true := by rw [ha, hb]; rfl
section
theorem aUc : Tryz.pinned.checked.prog.mayEnter = true := by kernel_rfl
theorem aTe : (Rows.fnExactTypeProblemsRow.lifted == Tryz.pinned.checked.prog.liftsFinal) = true := by kernel_rfl
theorem aUQ : (Tryz.pinned.checked.prog.make == some Rows.fnExactTypeProblemsRow.make) = true := by kernel_rfl
theorem aT3 : (Rows.fnExactTypeProblemsRow.named == Tryz.pinned.checked.prog.varsNamed 6) = true := by kernel_rfl
theorem aVt : (Rows.fnExactTypeProblemsRow.recurses == Tryz.pinned.checked.prog.recurses 6) = true := by kernel_rfl
theorem aVa : (Rows.fnExactTypeProblemsRow.unfollowed == Tryz.pinned.checked.prog.unfollowed 6) = true := by kernel_rfl
theorem aVl : (Rows.fnExactTypeProblemsRow.inPlace == Tryz.pinned.checked.prog.inPlace 6) = true := by kernel_rfl
theorem aTT : (Tryz.pinned.checked.prog.stops == []) = true := by kernel_rfl
theorem aUa : (Tryz.pinned.checked.prog.stopKnobs == []) = true := by kernel_rfl
theorem aTV : Tryz.pinned.checked.prog.stopsHeard = true := by kernel_rfl
theorem aUU : (Rows.fnExactTypeProblemsRow.plainKeys == Tryz.pinned.checked.prog.plainKeys) = true := by kernel_rfl
theorem aVm : laidOutB Tryz.pinned.checked.prog = true := by kernel_rfl
theorem aTY : mapsRowed Tryz.pinned.checked.prog = true := by kernel_rfl
end
theorem o2 : joinedFacts Tryz.pinned.checked.prog 6 Tryz.f6 Rows.fnExactTypeProblemsSpec Rows.fnExactTypeProblemsRow = true := by
  unfold joinedFacts
  repeat' with_reducible refine aVs ?_ ?_
  all_goals with_reducible first | exact aUc | exact aTe | exact aUQ | exact aT3 | exact aVt | exact aVa | exact aVl | exact aTT | exact aUa | exact aTV | exact aUU | exact aVm | exact aTY | (as_aux_lemma => kernel_rfl)
theorem o3 : Tryz.f6.isInstance Tryz.pinned.checked.prog Rows.fnExactTypeProblemsRow.origin Rows.fnExactTypeProblemsRow.targs := (of_decide_eq_true (by kernel_rfl))
theorem o4 : Tryz.f6.isWrapper Tryz.pinned.checked.prog Rows.fnExactTypeProblemsRow.wrapper Rows.fnExactTypeProblemsRow.mainSum := (by unfold Func.isWrapper; first | (rw [if_pos (by decide +kernel)]; kernel_rfl) | (rw [if_neg (by decide +kernel)]; exact ⟨rfl, rfl⟩))
end Go.Proofs.YtndacingbfeonaaGreatDoor.fnExactTypeProblems
end
