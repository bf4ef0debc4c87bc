/- What the program's functions compute, read off their text by the shadow runner (ROv); no condition. -/
import Derived.Test.YtoegkbokjmopnaaDoorRows
import Derived.ProofKit
import Derived.LaidMore
import Derived.LaidHandle
import Derived.Stop.Joined
section
namespace Go.Proofs.YtoegkbokjmopnaaDoor.fnExactPartsBy
open Go.ChangeShapes Go.WideShapes Go.ChangeAt Go.RowKit
set_option linter.unusedVariables false
set_option linter.unusedSimpArgs false
theorem o1 : Tryd.pinned.checked.prog.funcNamed Rows.fnExactPartsByRow.func = some 4 := by kernel_rfl
theorem and_i {a b : Bool} (ha : a = true) (hb : b = true) : (a && b) = true := by rw [ha, hb]; rfl
section
theorem k_enter : Tryd.pinned.checked.prog.mayEnter = true := by kernel_rfl
theorem k_lifted : (Rows.fnExactPartsByRow.lifted == Tryd.pinned.checked.prog.liftsFinal) = true := by kernel_rfl
theorem k_make : (Tryd.pinned.checked.prog.make == some Rows.fnExactPartsByRow.make) = true := by kernel_rfl
theorem k_named : (Rows.fnExactPartsByRow.named == Tryd.pinned.checked.prog.varsNamed 4) = true := by kernel_rfl
theorem k_rec : (Rows.fnExactPartsByRow.recurses == Tryd.pinned.checked.prog.recurses 4) = true := by kernel_rfl
theorem k_unf : (Rows.fnExactPartsByRow.unfollowed == Tryd.pinned.checked.prog.unfollowed 4) = true := by kernel_rfl
theorem k_inp : (Rows.fnExactPartsByRow.inPlace == Tryd.pinned.checked.prog.inPlace 4) = true := by kernel_rfl
theorem k_stops : (Tryd.pinned.checked.prog.stops == []) = true := by kernel_rfl
theorem k_knobs : (Tryd.pinned.checked.prog.stopKnobs == []) = true := by kernel_rfl
theorem k_heard : Tryd.pinned.checked.prog.stopsHeard = true := by kernel_rfl
theorem k_keys : (Rows.fnExactPartsByRow.plainKeys == Tryd.pinned.checked.prog.plainKeys) = true := by kernel_rfl
theorem k_out : laidOutB Tryd.pinned.checked.prog = true := by kernel_rfl
theorem k_rowed : mapsRowed Tryd.pinned.checked.prog = true := by kernel_rfl
end
theorem o2 : joinedFacts Tryd.pinned.checked.prog 4 Tryd.f4 Rows.fnExactPartsBySpec Rows.fnExactPartsByRow = true := by
  unfold joinedFacts
  repeat' with_reducible refine and_i ?_ ?_
  all_goals with_reducible first | exact k_enter | exact k_lifted | exact k_make | exact k_named | exact k_rec | exact k_unf | exact k_inp | exact k_stops | exact k_knobs | exact k_heard | exact k_keys | exact k_out | exact k_rowed | (as_aux_lemma => kernel_rfl)
theorem o3 : Tryd.f4.isInstance Tryd.pinned.checked.prog Rows.fnExactPartsByRow.origin Rows.fnExactPartsByRow.targs := (of_decide_eq_true (by kernel_rfl))
theorem o4 : Tryd.f4.isWrapper Tryd.pinned.checked.prog Rows.fnExactPartsByRow.wrapper Rows.fnExactPartsByRow.mainSum := (by unfold Func.isWrapper; first | (rw [if_pos (by decide +kernel)]; kernel_rfl) | (rw [if_neg (by decide +kernel)]; exact ⟨rfl, rfl⟩))
end Go.Proofs.YtoegkbokjmopnaaDoor.fnExactPartsBy
end
