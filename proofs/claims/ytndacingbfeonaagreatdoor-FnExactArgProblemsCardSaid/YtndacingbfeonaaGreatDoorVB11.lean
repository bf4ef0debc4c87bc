/- What the program's functions compute, read off their text by the shadow runner (HOv); no condition. -/
import Derived.Test.YtndacingbfeonaaGreatDoorRows
import Derived.ProofKit
import Derived.LaidMore
import Derived.LaidHandle
import Derived.Stop.Joined
section
namespace Go.Proofs.YtndacingbfeonaaGreatDoor.fnExactArgProblems
open Go.ChangeShapes Go.WideShapes Go.ChangeAt Go.RowKit
set_option linter.unusedVariables false
set_option linter.unusedSimpArgs false
theorem o1 : Tryz.pinned.checked.prog.funcNamed Rows.fnExactArgProblemsRow.func = some 3 := by kernel_rfl
theorem and_i {a b : Bool} (ha : a = true) (hb : b = true) : (a && b) = true := by rw [ha, hb]; rfl
section

theorem k_enter : Tryz.pinned.checked.prog.mayEnter = true := by kernel_rfl
theorem k_lifted : (Rows.fnExactArgProblemsRow.lifted == Tryz.pinned.checked.prog.liftsFinal) = true := by kernel_rfl
theorem k_make : (Tryz.pinned.checked.prog.make == some Rows.fnExactArgProblemsRow.make) = true := by kernel_rfl
theorem k_named : (Rows.fnExactArgProblemsRow.named == Tryz.pinned.checked.prog.varsNamed 3) = true := by kernel_rfl
theorem k_rec : (Rows.fnExactArgProblemsRow.recurses == Tryz.pinned.checked.prog.recurses 3) = true := by kernel_rfl
theorem k_unf : (Rows.fnExactArgProblemsRow.unfollowed == Tryz.pinned.checked.prog.unfollowed 3) = true := by kernel_rfl
theorem k_inp : (Rows.fnExactArgProblemsRow.inPlace == Tryz.pinned.checked.prog.inPlace 3) = true := by kernel_rfl
theorem k_stops : (Tryz.pinned.checked.prog.stops == []) = true := by kernel_rfl
theorem k_knobs : (Tryz.pinned.checked.prog.stopKnobs == []) = true := by kernel_rfl
theorem k_heard : Tryz.pinned.checked.prog.stopsHeard = true := by kernel_rfl
theorem k_keys : (Rows.fnExactArgProblemsRow.plainKeys == Tryz.pinned.checked.prog.plainKeys) = true := by kernel_rfl
theorem k_out : laidOutB Tryz.pinned.checked.prog = true := by kernel_rfl
theorem k_rowed : mapsRowed Tryz.pinned.checked.prog = true := by kernel_rfl
end
theorem o2 : joinedFacts Tryz.pinned.checked.prog 3 Tryz.f3 Rows.fnExactArgProblemsSpec Rows.fnExactArgProblemsRow = true := by
  unfold joinedFacts
  repeat' with_reducible refine and_i ?_ ?_
  all_goals with_reducible first | exact k_enter | exact k_lifted | exact k_make | exact k_named | exact k_rec | exact k_unf | exact k_inp | exact k_stops | exact k_knobs | exact k_heard | exact k_keys | exact k_out | exact k_rowed | (as_aux_lemma => kernel_rfl)
theorem o3 : Tryz.f3.isInstance Tryz.pinned.checked.prog Rows.fnExactArgProblemsRow.origin Rows.fnExactArgProblemsRow.targs := (of_decide_eq_true (by kernel_rfl))
theorem o4 : Tryz.f3.isWrapper Tryz.pinned.checked.prog Rows.fnExactArgProblemsRow.wrapper Rows.fnExactArgProblemsRow.mainSum := (by unfold Func.isWrapper; first | (rw [if_pos (by decide +kernel)]; kernel_rfl) | (rw [if_neg (by decide +kernel)]; exact ⟨rfl, rfl⟩))
end Go.Proofs.YtndacingbfeonaaGreatDoor.fnExactArgProblems
end
