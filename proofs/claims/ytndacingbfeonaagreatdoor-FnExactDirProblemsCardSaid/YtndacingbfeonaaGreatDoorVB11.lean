/- What the program's functions compute, read off their text by the shadow runner (IOv); no condition. -/
import Derived.Test.YtndacingbfeonaaGreatDoorRows
import Derived.ProofKit
import Derived.LaidMore
import Derived.LaidHandle
import Derived.Stop.Joined
section
namespace Go.Proofs.YtndacingbfeonaaGreatDoor.fnExactDirProblems
open Go.ChangeShapes Go.WideShapes Go.ChangeAt Go.RowKit
set_option linter.unusedVariables false
set_option linter.unusedSimpArgs false
theorem o1 : Tryz.pinned.checked.prog.funcNamed Rows.fnExactDirProblemsRow.func = some 5 := by kernel_rfl
theorem and_i {a b : Bool} (ha : a = true) (hb : b = true) : (a && b) = true := by rw [ha, hb]; rfl
section

theorem k_enter : Tryz.pinned.checked.prog.mayEnter = true := by kernel_rfl
theorem k_lifted : (Rows.fnExactDirProblemsRow.lifted == Tryz.pinned.checked.prog.liftsFinal) = true := by kernel_rfl
theorem k_make : (Tryz.pinned.checked.prog.make == some Rows.fnExactDirProblemsRow.make) = true := by kernel_rfl
theorem k_named : (Rows.fnExactDirProblemsRow.named == Tryz.pinned.checked.prog.varsNamed 5) = true := by kernel_rfl
theorem k_rec : (Rows.fnExactDirProblemsRow.recurses == Tryz.pinned.checked.prog.recurses 5) = true := by kernel_rfl
theorem k_unf : (Rows.fnExactDirProblemsRow.unfollowed == Tryz.pinned.checked.prog.unfollowed 5) = true := by kernel_rfl
theorem k_inp : (Rows.fnExactDirProblemsRow.inPlace == Tryz.pinned.checked.prog.inPlace 5) = true := by kernel_rfl
theorem k_stops : (Tryz.pinned.checked.prog.stops == []) = true := by kernel_rfl
theorem k_knobs : (Tryz.pinned.checked.prog.stopKnobs == []) = true := by kernel_rfl
theorem k_heard : Tryz.pinned.checked.prog.stopsHeard = true := by kernel_rfl
theorem k_keys : (Rows.fnExactDirProblemsRow.plainKeys == Tryz.pinned.checked.prog.plainKeys) = true := by kernel_rfl
theorem k_out : laidOutB Tryz.pinned.checked.prog = true := by kernel_rfl
theorem k_rowed : mapsRowed Tryz.pinned.checked.prog = true := by kernel_rfl
end
theorem o2 : joinedFacts Tryz.pinned.checked.prog 5 Tryz.f5 Rows.fnExactDirProblemsSpec Rows.fnExactDirProblemsRow = true := by
  unfold joinedFacts
  repeat' with_reducible refine and_i ?_ ?_
  all_goals with_reducible first | exact k_enter | exact k_lifted | exact k_make | exact k_named | exact k_rec | exact k_unf | exact k_inp | exact k_stops | exact k_knobs | exact k_heard | exact k_keys | exact k_out | exact k_rowed | (as_aux_lemma => kernel_rfl)
theorem o3 : Tryz.f5.isInstance Tryz.pinned.checked.prog Rows.fnExactDirProblemsRow.origin Rows.fnExactDirProblemsRow.targs := (of_decide_eq_true (by kernel_rfl))
theorem o4 : Tryz.f5.isWrapper Tryz.pinned.checked.prog Rows.fnExactDirProblemsRow.wrapper Rows.fnExactDirProblemsRow.mainSum := (by unfold Func.isWrapper; first | (rw [if_pos (by decide +kernel)]; kernel_rfl) | (rw [if_neg (by decide +kernel)]; exact ⟨rfl, rfl⟩))
end Go.Proofs.YtndacingbfeonaaGreatDoor.fnExactDirProblems
end
