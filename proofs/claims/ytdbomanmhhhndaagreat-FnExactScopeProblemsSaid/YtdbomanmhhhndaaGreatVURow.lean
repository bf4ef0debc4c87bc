/- laws.FnExactScopeProblems answers true for all arguments, and what was handed in reads as before; no condition. -/
import Derived.Test.YtdbomanmhhhndaaGreatRows
import Derived.WalkKit
import Derived.ProofKit
import Derived.OpenShut
import Derived.ShutString
import Derived.ChangeOld
import Derived.ChangeArms
import Derived.ChangeSame
import Derived.Below
import Derived.SizedLaws
import Derived.WideKeyArgs
import Derived.Test.YtdbomanmhhhndaaGreatVB8
namespace Go.Proofs.YtdbomanmhhhndaaGreat.fnExactScopeProblems
open Go.ChangeShapes Go.WideShapes Go.ChangeAt Go.RowKit Go.Vs
open Go.ChangeMaps (open_string shut_string)
set_option linter.unusedVariables false
set_option linter.unusedSimpArgs false
theorem own : ownKnob Tryz.prog.godebug = none := by kernel_rfl
theorem tys : [25, 9, 26, 3, 4, 211, 171, 173, 176, 216, 213, 219, 110, 107, 57, 169, 85, 54, 55, 104, 103, 105, 23, 22].all (aPh Tryz.prog [25, 9, 26, 3, 4, 211, 171, 173, 176, 216, 213, 219, 110, 107, 57, 169, 85, 54, 55, 104, 103, 105, 23, 22]) = true := by kernel_rfl
theorem reOk0 {W : World} : aN3 li W (qO W) (N0 W) (qO W) (N0 W) := aDs (fun c g o => aJj) (fun c => rfl)
set_option maxRecDepth 100000 in
theorem aDX (os : Os) (started : os.Started) (H : Type) (enc : TypeId × Value → H) :
    ReturnsInHanded {} Tryz.checked os 3 .any (Rows.fnExactScopeProblemsSpec.pre6 enc Tryz.prog Tryz.f3 Rows.fnExactScopeProblemsRow.domain false) (Rows.fnExactScopeProblemsSpec.post enc Tryz.prog Tryz.f3 false true false false) := by
  refine returnsInHanded_of_change_sized (C := Tryz.checked) own started (by kernel_rfl) Tryz.func3
    (ChangeSpec.witness6 (enc := enc) (C := Tryz.checked) false ⟨#[], #[.agg #[.slice none 0 0, .slice none 0 0, .slice none 0 0], .string ⟨#[]⟩, .slice none 0 0], []⟩ 8 (by kernel_rfl) (by kernel_rfl) (by kernel_rfl) (by kernel_rfl)) ?_
  intro W base args ds gs before hval0 hW hcnd hsz0 _
  have hval : ∀ (j : Nat) t v, Tryz.f3.params[j]? = some t → args[j]? = some v → Value.okWide Tryz.prog W .any base t v := hval0
  have hW' := hW
  obtain ⟨p, q, hA0, hV, rfl, hfz, hnd⟩ := hW
  have hA : DataW.TrodAll enc Tryz.prog W 0 (fun _ => true) true Tryz.f3.params.toList args.toList ds p := hA0
  rw [Tryz.params3] at hA hval
  obtain ⟨v0, vs0, d0, ds0, p0, q0, hargs, rfl, rfl, h0, r0⟩ := trodAll_cons hA
  obtain ⟨v1, vs1, d1, ds1, p1, q1, rfl, rfl, rfl, h1, r1⟩ := trodAll_cons r0
  obtain ⟨v2, vs2, d2, ds2, p2, q2, rfl, rfl, rfl, h2, r2⟩ := trodAll_cons r1
  obtain ⟨rfl, rfl, rfl⟩ := trodAll_nil r2
  obtain rfl : args = #[v0, v1, v2] := by cases args; simp_all
  obtain ⟨rfl, rfl⟩ := trodVars_none hV
  obtain ⟨a0, rfl, _⟩ := okWide_struct Tryz.underlying25 (hval 0 25 v0 rfl rfl)
  obtain ⟨b1, rfl⟩ := okWide_string Tryz.underlying9 (hval 1 9 v1 rfl rfl)
  obtain ⟨A2, len2, cap2, rfl⟩ := okWide_slice Tryz.underlying26 (hval 2 26 v2 rfl rfl)
  have h0' := h0
  obtain ⟨fuel0, hf0⟩ := h0
  have h1' := h1
  obtain ⟨fuel1, hf1⟩ := h1
  have h2' := h2
  obtain ⟨fuel2, hf2⟩ := h2
  obtain ⟨ls0, hr0, hs0⟩ := aEo (m := false) (c := fP) (N := N0 W) (F := qO W) (fun _ _ => trivial) rfl (fun g j v h => aHG h) (fun g => rfl) tys fuel0 25 _ _ (by simp) hf0
  have i0 := aK8 hs0
  obtain ⟨x0_0, x0_1, x0_2, e0, _⟩ := i0.ex
  subst e0
  have rep0 := hr0.re reOk0
  obtain ⟨ls1, hr1, hs1⟩ := aEo (m := false) (c := fP) (N := N0 W) (F := qO W) (fun _ _ => trivial) rfl (fun g j v h => aHG h) (fun g => rfl) tys fuel1 9 _ _ (by simp) hf1
  obtain ⟨x1, rfl, l1⟩ := lG Tryz.underlying9 hs1
  have rep1 := hr1.re reOk0
  obtain ⟨ls2, hr2, hs2⟩ := aEo (m := false) (c := fP) (N := N0 W) (F := qO W) (fun _ _ => trivial) rfl (fun g j v h => aHG h) (fun g => rfl) tys fuel2 26 _ _ (by simp) hf2
  obtain ⟨x2, rfl, l2, i2⟩ := aPm hs2
  have rep2 := hr2.re reOk0
  refine (aPx hfn hc0 (args := [.agg [.sl cN (reE (fl cN) x0_0), .sl cN (reE (fl cN) x0_1), .sl cN (reE (fl cN) x0_2)], .leaf (.str x1), .leaf (.sl cN (reE (fl cN) x2))]) (W := W) (vals := #[.agg a0, .string b1, .slice A2 len2 cap2]) rfl rfl ?_ fun act on => ?_).mono fun e W' ⟨he, bel⟩ => ?_
  · intro j x v hx hv
    rcases j with _ | _ | _ | j
    · simp only [List.getElem?_cons_zero, List.getElem?_cons_succ, Option.some.injEq] at hx; simp at hv; subst hx hv
      simp only [reL, reF] at rep0
      have h : ∃ vs, Value.agg a0 = .agg vs ∧ cE W (qO W) (N0 W) _ vs.toList := ⟨a0, rfl, rep0⟩
      simpa only [aP, cJ] using h
    · simp only [List.getElem?_cons_zero, List.getElem?_cons_succ, Option.some.injEq] at hx; simp at hv; subst hx hv
      exact aP.leaf (rep1.2 0 _ _ rfl rfl)
    · simp only [List.getElem?_cons_zero, List.getElem?_cons_succ, Option.some.injEq] at hx; simp at hv; subst hx hv
      exact aP.leaf (rep2.2 0 _ _ rfl rfl)
    · simp at hx
  · have e : xA (sN Tryz.prog F.aQn) [.agg [.sl cN (reE (fl cN) x0_0), .sl cN (reE (fl cN) x0_1), .sl cN (reE (fl cN) x0_2)], .leaf (.str x1), .leaf (.sl cN (reE (fl cN) x2))] [] = iN cN (reE (fl cN) x0_0) cN (reE (fl cN) x0_1) cN (reE (fl cN) x0_2) x1 cN (reE (fl cN) x2) := by kernel_rfl
    rw [e] at on
    exact aPp (aP8 i0) (aP9 l2 i2) (aPN i0 l2 i2) on
  · subst he
    have h0'' : DataW.Trod enc Tryz.prog W' 0 (fun b => decide (b < W.heap.size)) true 25 (.agg a0) d0 p0 :=
      WideElems.Trod_stays (by kernel_rfl) (by kernel_rfl) (of_decide_eq_true (by kernel_rfl)) h0' (fun p hp => bel.same (hW'.lt p (by simp [hp]))) (fun p hp => by simpa using hW'.lt p (by simp [hp]))
    have h1'' : DataW.Trod enc Tryz.prog W' 0 (fun b => decide (b < W.heap.size)) true 9 (.string b1) d1 p1 :=
      WideElems.Trod_stays (by kernel_rfl) (by kernel_rfl) (of_decide_eq_true (by kernel_rfl)) h1' (fun p hp => bel.same (hW'.lt p (by simp [hp]))) (fun p hp => by simpa using hW'.lt p (by simp [hp]))
    have h2'' : DataW.Trod enc Tryz.prog W' 0 (fun b => decide (b < W.heap.size)) true 26 (.slice A2 len2 cap2) d2 p2 :=
      WideElems.Trod_stays (by kernel_rfl) (by kernel_rfl) (of_decide_eq_true (by kernel_rfl)) h2' (fun p hp => bel.same (hW'.lt p (by simp [hp]))) (fun p hp => by simpa using hW'.lt p (by simp [hp]))
    exact ⟨_, rfl, _, _, _, [], _, [], hW', trodAll_mk1 (shut_bool Tryz.underlying4 _), (trodAll_cons_mk h0'' (trodAll_cons_mk h1'' (trodAll_cons_mk h2'' trodAll_mk0))), rfl, bel.frame _, fun h => by cases h⟩
theorem over : Rows.fnExactScopeProblemsRow.holds Tryz.pinned (OpenSpec.ofChange Rows.fnExactScopeProblemsSpec) :=
  OpenClaim.holds_of_wide 3 Tryz.f3 rfl rfl rfl rfl rfl rfl rfl ⟨rfl, rfl, rfl, rfl, rfl⟩ rfl rfl rfl rfl rfl (by kernel_rfl) Tryz.func3 (by kernel_rfl)
    (of_decide_eq_true (by kernel_rfl)) (by unfold Func.isWrapper; first | (rw [if_pos (by decide +kernel)]; kernel_rfl) | (rw [if_neg (by decide +kernel)]; exact ⟨rfl, rfl⟩))
    (fun os started H enc _ => aDX os started H enc)
theorem proved : Rows.FnExactScopeProblemsSaid := over
#print axioms proved
end Go.Proofs.YtdbomanmhhhndaaGreat.fnExactScopeProblems
namespace Go.Proofs.YtdbomanmhhhndaaGreat
/-- The row, under a short name, for the claim. -/
theorem fnExactScopeProblems_holds : Rows.FnExactScopeProblemsSaid := fnExactScopeProblems.proved
end Go.Proofs.YtdbomanmhhhndaaGreat
