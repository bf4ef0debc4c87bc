/- What the program's functions compute, read off their text by the shadow runner (NOv); no condition. -/
import Derived.Test.YtphfegkplihmhaaGreatDoorRows
import Derived.ProofKit
import Derived.LaidMore
import Derived.LaidHandle
import Derived.Stop.Joined
section
namespace Go.Proofs.YtphfegkplihmhaaGreatDoor.fnExactGivenProblems
open Go.ChangeShapes Go.WideShapes Go.ChangeAt Go.RowKit
set_option linter.unusedVariables false
set_option linter.unusedSimpArgs false
theorem o1 : Tryz.pinned.checked.prog.funcNamed Rows.fnExactGivenProblemsRow.func = some 3 := by kernel_rfl
theorem aWh {a b : Bool} (ha : a = true) (hb : b = true) : (a && b) = true := by rw [ha, hb]; rfl
section
theorem aUF : Tryz.pinned.checked.prog.mayEnter = true := by kernel_rfl
theorem aT3 : (Rows.fnExactGivenProblemsRow.lifted == Tryz.pinned.checked.prog.liftsFinal) = true := by kernel_rfl
theorem aVs : (Tryz.pinned.checked.prog.make == some Rows.fnExactGivenProblemsRow.make) = true := by kernel_rfl
theorem aU5 : (Rows.fnExactGivenProblemsRow.named == Tryz.pinned.checked.prog.varsNamed 3) = true := by kernel_rfl
theorem aV6 : (Rows.fnExactGivenProblemsRow.recurses == Tryz.pinned.checked.prog.recurses 3) = true := by kernel_rfl
theorem aV4 : (Rows.fnExactGivenProblemsRow.unfollowed == Tryz.pinned.checked.prog.unfollowed 3) = true := by kernel_rfl
theorem aV0 : (Rows.fnExactGivenProblemsRow.inPlace == Tryz.pinned.checked.prog.inPlace 3) = true := by kernel_rfl
theorem aUJ : (Tryz.pinned.checked.prog.stops == []) = true := by kernel_rfl
theorem aUZ : (Tryz.pinned.checked.prog.stopKnobs == []) = true := by kernel_rfl
theorem aUK : Tryz.pinned.checked.prog.stopsHeard = true := by kernel_rfl
theorem aVA : (Rows.fnExactGivenProblemsRow.plainKeys == Tryz.pinned.checked.prog.plainKeys) = true := by kernel_rfl
theorem aV3 : laidOutB Tryz.pinned.checked.prog = true := by kernel_rfl
theorem aUu : mapsRowed Tryz.pinned.checked.prog = true := by kernel_rfl
end
theorem o2 : joinedFacts Tryz.pinned.checked.prog 3 Tryz.f3 Rows.fnExactGivenProblemsSpec Rows.fnExactGivenProblemsRow = true := by
  unfold joinedFacts
  repeat' with_reducible refine aWh ?_ ?_
  all_goals with_reducible first | exact aUF | exact aT3 | exact aVs | exact aU5 | exact aV6 | exact aV4 | exact aV0 | exact aUJ | exact aUZ | exact aUK | exact aVA | exact aV3 | exact aUu | (as_aux_lemma => kernel_rfl)
theorem o3 : Tryz.f3.isInstance Tryz.pinned.checked.prog Rows.fnExactGivenProblemsRow.origin Rows.fnExactGivenProblemsRow.targs := (of_decide_eq_true (by kernel_rfl))
theorem o4 : Tryz.f3.isWrapper Tryz.pinned.checked.prog Rows.fnExactGivenProblemsRow.wrapper Rows.fnExactGivenProblemsRow.mainSum := (by unfold Func.isWrapper; first | (rw [if_pos (by decide +kernel)]; kernel_rfl) | (rw [if_neg (by decide +kernel)]; exact ⟨rfl, rfl⟩))
end Go.Proofs.YtphfegkplihmhaaGreatDoor.fnExactGivenProblems
end
