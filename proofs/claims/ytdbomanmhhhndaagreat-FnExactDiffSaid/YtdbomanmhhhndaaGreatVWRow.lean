/- laws.FnExactDiff answers true for all arguments, and what was handed in reads as before; no condition. -/
import Derived.Test.YtdbomanmhhhndaaGreatRows
import Derived.WalkKit
import Derived.ProofKit
import Derived.OpenShut
import Derived.ShutString
import Derived.ChangeOld
import Derived.ChangeArms
import Derived.ChangeSame
import Derived.Below
import Derived.SizedLaws
import Derived.WideKeyArgs
import Derived.Test.YtdbomanmhhhndaaGreatVB10
namespace Go.Proofs.YtdbomanmhhhndaaGreat.fnExactDiff
open Go.ChangeShapes Go.WideShapes Go.ChangeAt Go.RowKit Go.Vs
open Go.ChangeMaps (open_string shut_string)
set_option linter.unusedVariables false
set_option linter.unusedSimpArgs false
theorem own : ownKnob Tryz.prog.godebug = none := by kernel_rfl
theorem tys : [25, 3, 4, 9, 211, 171, 173, 176, 216, 213, 219, 110, 107, 169, 85, 54, 55, 104, 103, 105, 23, 22].all (aTo Tryz.prog [25, 3, 4, 9, 211, 171, 173, 176, 216, 213, 219, 110, 107, 169, 85, 54, 55, 104, 103, 105, 23, 22]) = true := by kernel_rfl
theorem reOk0 {W : World} : aRV li W (tN W) (N0 W) (tN W) (N0 W) := aGc (fun c g o => aL7) (fun c => rfl)
set_option maxRecDepth 100000 in
theorem aF6 (os : Os) (started : os.Started) (H : Type) (enc : TypeId × Value → H) :
    ReturnsInHanded {} Tryz.checked os 5 .any (Rows.fnExactDiffSpec.pre6 enc Tryz.prog Tryz.f5 Rows.fnExactDiffRow.domain false) (Rows.fnExactDiffSpec.post enc Tryz.prog Tryz.f5 false true false false) := by
  refine returnsInHanded_of_change_sized (C := Tryz.checked) own started (by kernel_rfl) Tryz.func5
    (ChangeSpec.witness6 (enc := enc) (C := Tryz.checked) false ⟨#[], #[.agg #[.slice none 0 0, .slice none 0 0, .slice none 0 0], .agg #[.slice none 0 0, .slice none 0 0, .slice none 0 0]], []⟩ 8 (by kernel_rfl) (by kernel_rfl) (by kernel_rfl) (by kernel_rfl)) ?_
  intro W base args ds gs before hval0 hW hcnd hsz0 _
  have hval : ∀ (j : Nat) t v, Tryz.f5.params[j]? = some t → args[j]? = some v → Value.okWide Tryz.prog W .any base t v := hval0
  have hW' := hW
  obtain ⟨p, q, hA0, hV, rfl, hfz, hnd⟩ := hW
  have hA : DataW.TrodAll enc Tryz.prog W 0 (fun _ => true) true Tryz.f5.params.toList args.toList ds p := hA0
  rw [Tryz.params5] at hA hval
  obtain ⟨v0, vs0, d0, ds0, p0, q0, hargs, rfl, rfl, h0, r0⟩ := trodAll_cons hA
  obtain ⟨v1, vs1, d1, ds1, p1, q1, rfl, rfl, rfl, h1, r1⟩ := trodAll_cons r0
  obtain ⟨rfl, rfl, rfl⟩ := trodAll_nil r1
  obtain rfl : args = #[v0, v1] := by cases args; simp_all
  obtain ⟨rfl, rfl⟩ := trodVars_none hV
  obtain ⟨a0, rfl, _⟩ := okWide_struct Tryz.underlying25 (hval 0 25 v0 rfl rfl)
  obtain ⟨a1, rfl, _⟩ := okWide_struct Tryz.underlying25 (hval 1 25 v1 rfl rfl)
  have h0' := h0
  obtain ⟨fuel0, hf0⟩ := h0
  have h1' := h1
  obtain ⟨fuel1, hf1⟩ := h1
  obtain ⟨ls0, hr0, hs0⟩ := aK0 (m := false) (c := fP) (N := N0 W) (F := tN W) (fun _ _ => trivial) rfl (fun g j v h => aOO h) (fun g => rfl) tys fuel0 25 _ _ (by simp) hf0
  have i0 := aJp hs0
  obtain ⟨x0_0, x0_1, x0_2, e0, _⟩ := i0.ex
  subst e0
  have rep0 := hr0.re reOk0
  obtain ⟨ls1, hr1, hs1⟩ := aK0 (m := false) (c := fP) (N := N0 W) (F := tN W) (fun _ _ => trivial) rfl (fun g j v h => aOO h) (fun g => rfl) tys fuel1 25 _ _ (by simp) hf1
  have i1 := aJp hs1
  obtain ⟨x1_0, x1_1, x1_2, e1, _⟩ := i1.ex
  subst e1
  have rep1 := hr1.re reOk0
  refine (aS1 hfn hc0 (args := [.agg [.sl cG (reE (fl cG) x0_0), .sl cG (reE (fl cG) x0_1), .sl cG (reE (fl cG) x0_2)], .agg [.sl cG (reE (fl cG) x1_0), .sl cG (reE (fl cG) x1_1), .sl cG (reE (fl cG) x1_2)]]) (W := W) (vals := #[.agg a0, .agg a1]) rfl rfl ?_ fun act on => ?_).mono fun e W' ⟨he, bel⟩ => ?_
  · intro j x v hx hv
    rcases j with _ | _ | j
    · simp only [List.getElem?_cons_zero, List.getElem?_cons_succ, Option.some.injEq] at hx; simp at hv; subst hx hv
      simp only [reL, reF] at rep0
      have h : ∃ vs, Value.agg a0 = .agg vs ∧ cS W (tN W) (N0 W) _ vs.toList := ⟨a0, rfl, rep0⟩
      simpa only [aW, dC] using h
    · simp only [List.getElem?_cons_zero, List.getElem?_cons_succ, Option.some.injEq] at hx; simp at hv; subst hx hv
      simp only [reL, reF] at rep1
      have h : ∃ vs, Value.agg a1 = .agg vs ∧ cS W (tN W) (N0 W) _ vs.toList := ⟨a1, rfl, rep1⟩
      simpa only [aW, dC] using h
    · simp at hx
  · have e : aAs (uJ Tryz.prog F.aUo) [.agg [.sl cG (reE (fl cG) x0_0), .sl cG (reE (fl cG) x0_1), .sl cG (reE (fl cG) x0_2)], .agg [.sl cG (reE (fl cG) x1_0), .sl cG (reE (fl cG) x1_1), .sl cG (reE (fl cG) x1_2)]] [] = qT cG (reE (fl cG) x0_0) cG (reE (fl cG) x0_1) cG (reE (fl cG) x0_2) cG (reE (fl cG) x1_0) cG (reE (fl cG) x1_1) cG (reE (fl cG) x1_2) := by kernel_rfl
    rw [e] at on
    exact aTn (aTR i0) (aTW i1) (aTM i0 i1) on
  · subst he
    have h0'' : DataW.Trod enc Tryz.prog W' 0 (fun b => decide (b < W.heap.size)) true 25 (.agg a0) d0 p0 :=
      WideElems.Trod_stays (by kernel_rfl) (by kernel_rfl) (of_decide_eq_true (by kernel_rfl)) h0' (fun p hp => bel.same (hW'.lt p (by simp [hp]))) (fun p hp => by simpa using hW'.lt p (by simp [hp]))
    have h1'' : DataW.Trod enc Tryz.prog W' 0 (fun b => decide (b < W.heap.size)) true 25 (.agg a1) d1 p1 :=
      WideElems.Trod_stays (by kernel_rfl) (by kernel_rfl) (of_decide_eq_true (by kernel_rfl)) h1' (fun p hp => bel.same (hW'.lt p (by simp [hp]))) (fun p hp => by simpa using hW'.lt p (by simp [hp]))
    exact ⟨_, rfl, _, _, _, [], _, [], hW', trodAll_mk1 (shut_bool Tryz.underlying4 _), (trodAll_cons_mk h0'' (trodAll_cons_mk h1'' trodAll_mk0)), rfl, bel.frame _, fun h => by cases h⟩
theorem over : Rows.fnExactDiffRow.holds Tryz.pinned (OpenSpec.ofChange Rows.fnExactDiffSpec) :=
  OpenClaim.holds_of_wide 5 Tryz.f5 rfl rfl rfl rfl rfl rfl rfl ⟨rfl, rfl, rfl, rfl, rfl⟩ rfl rfl rfl rfl rfl (by kernel_rfl) Tryz.func5 (by kernel_rfl)
    (of_decide_eq_true (by kernel_rfl)) (by unfold Func.isWrapper; first | (rw [if_pos (by decide +kernel)]; kernel_rfl) | (rw [if_neg (by decide +kernel)]; exact ⟨rfl, rfl⟩))
    (fun os started H enc _ => aF6 os started H enc)
theorem proved : Rows.FnExactDiffSaid := over
#print axioms proved
end Go.Proofs.YtdbomanmhhhndaaGreat.fnExactDiff
namespace Go.Proofs.YtdbomanmhhhndaaGreat
/-- The row, under a short name, for the claim. -/
theorem fnExactDiff_holds : Rows.FnExactDiffSaid := fnExactDiff.proved
end Go.Proofs.YtdbomanmhhhndaaGreat
