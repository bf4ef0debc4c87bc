/- laws.FnExactOfClass answers true for all arguments, and what was handed in reads as before; no condition. -/
import Derived.Test.YtdbomanmhhhndaaRows
import Derived.WalkKit
import Derived.ProofKit
import Derived.OpenShut
import Derived.ShutString
import Derived.ChangeOld
import Derived.ChangeArms
import Derived.ChangeSame
import Derived.Below
import Derived.SizedLaws
import Derived.WideKeyArgs
import Derived.Test.YtdbomanmhhhndaaVB5
namespace Go.Proofs.Ytdbomanmhhhndaa.fnExactOfClass
open Go.ChangeShapes Go.WideShapes Go.ChangeAt Go.RowKit Go.Vs
open Go.ChangeMaps (open_string shut_string)
set_option linter.unusedVariables false
set_option linter.unusedSimpArgs false
theorem own : ownKnob Try.prog.godebug = none := by kernel_rfl
theorem tys : [22, 3, 4, 9, 32].all (tyOk Try.prog [22, 3, 4, 9, 32]) = true := by kernel_rfl
theorem reOk0 {W : World} : ReOk li W (sealW W) (N0 W) (sealW W) (N0 W) := reOk_plain (fun c g o => old_holds) (fun c => rfl)
set_option maxRecDepth 100000 in
theorem lifted (os : Os) (started : os.Started) (H : Type) (enc : TypeId × Value → H) :
    ReturnsInHanded {} Try.checked os 3 .any (Rows.fnExactOfClassSpec.pre6 enc Try.prog Try.f3 Rows.fnExactOfClassRow.domain false) (Rows.fnExactOfClassSpec.post enc Try.prog Try.f3 false true false false) := by
  refine returnsInHanded_of_change_sized (C := Try.checked) own started (by kernel_rfl) Try.func3
    (ChangeSpec.witness6 (enc := enc) (C := Try.checked) false ⟨#[], #[.slice none 0 0, .int .i64 0], []⟩ 8 (by kernel_rfl) (by kernel_rfl) (by kernel_rfl) (by kernel_rfl)) ?_
  intro W base args ds gs before hval0 hW hcnd hsz0 _
  have hval : ∀ (j : Nat) t v, Try.f3.params[j]? = some t → args[j]? = some v → Value.okWide Try.prog W .any base t v := hval0
  have hW' := hW
  obtain ⟨p, q, hA0, hV, rfl, hfz, hnd⟩ := hW
  have hA : DataW.TrodAll enc Try.prog W 0 (fun _ => true) true Try.f3.params.toList args.toList ds p := hA0
  rw [Try.params3] at hA hval
  obtain ⟨v0, vs0, d0, ds0, p0, q0, hargs, rfl, rfl, h0, r0⟩ := trodAll_cons hA
  obtain ⟨v1, vs1, d1, ds1, p1, q1, rfl, rfl, rfl, h1, r1⟩ := trodAll_cons r0
  obtain ⟨rfl, rfl, rfl⟩ := trodAll_nil r1
  obtain rfl : args = #[v0, v1] := by cases args; simp_all
  obtain ⟨rfl, rfl⟩ := trodVars_none hV
  obtain ⟨A0, len0, cap0, rfl⟩ := okWide_slice Try.underlying22 (hval 0 22 v0 rfl rfl)
  obtain ⟨b1, rfl⟩ := okWide_int Try.underlying3 (hval 1 3 v1 rfl rfl)
  have h0' := h0
  obtain ⟨fuel0, hf0⟩ := h0
  have h1' := h1
  obtain ⟨fuel1, hf1⟩ := h1
  obtain ⟨ls0, hr0, hs0⟩ := trod_rep (m := false) (c := fP) (N := N0 W) (F := sealW W) (fun _ _ => trivial) rfl (fun g j v h => sealW_lt h) (fun g => rfl) tys fuel0 22 _ _ (by simp) hf0
  obtain ⟨x0, rfl, l0, i0⟩ := isRow0 hs0
  have rep0 := hr0.re reOk0
  obtain ⟨ls1, hr1, hs1⟩ := trod_rep (m := false) (c := fP) (N := N0 W) (F := sealW W) (fun _ _ => trivial) rfl (fun g j v h => sealW_lt h) (fun g => rfl) tys fuel1 3 _ _ (by simp) hf1
  obtain ⟨x1, rfl⟩ := sh_int Try.underlying3 hs1
  have rep1 := hr1.re reOk0
  refine (law_on hfn hc0 (args := [.leaf (.sl fOld (reE (fl fOld) x0)), .leaf (.int .i64 x1)]) (W := W) (vals := #[.slice A0 len0 cap0, .int .i64 b1]) rfl rfl ?_ fun act on => ?_).mono fun e W' ⟨he, bel⟩ => ?_
  · intro j x v hx hv
    rcases j with _ | _ | j
    · simp only [List.getElem?_cons_zero, List.getElem?_cons_succ, Option.some.injEq] at hx; simp at hv; subst hx hv
      exact RepS.leaf (rep0.2 0 _ _ rfl rfl)
    · simp only [List.getElem?_cons_zero, List.getElem?_cons_succ, Option.some.injEq] at hx; simp at hv; subst hx hv
      exact RepS.leaf (rep1.2 0 _ _ rfl rfl)
    · simp at hx
  · have e : enterV (fnOf Try.prog F.laws_FnExactOfClass) [.leaf (.sl fOld (reE (fl fOld) x0)), .leaf (.int .i64 x1)] [] = laws_FnExactOfClass_s0 fOld (reE (fl fOld) x0) x1 := by kernel_rfl
    rw [e] at on
    exact law_c0 (szd0 l0 i0) (fitsD l0 i0) on
  · subst he
    have h0'' : DataW.Trod enc Try.prog W' 0 (fun b => decide (b < W.heap.size)) true 22 (.slice A0 len0 cap0) d0 p0 :=
      WideElems.Trod_stays (by kernel_rfl) (by kernel_rfl) (of_decide_eq_true (by kernel_rfl)) h0' (fun p hp => bel.same (hW'.lt p (by simp [hp]))) (fun p hp => by simpa using hW'.lt p (by simp [hp]))
    have h1'' : DataW.Trod enc Try.prog W' 0 (fun b => decide (b < W.heap.size)) true 3 (.int .i64 b1) d1 p1 :=
      WideElems.Trod_stays (by kernel_rfl) (by kernel_rfl) (of_decide_eq_true (by kernel_rfl)) h1' (fun p hp => bel.same (hW'.lt p (by simp [hp]))) (fun p hp => by simpa using hW'.lt p (by simp [hp]))
    exact ⟨_, rfl, _, _, _, [], _, [], hW', trodAll_mk1 (shut_bool Try.underlying4 _), (trodAll_cons_mk h0'' (trodAll_cons_mk h1'' trodAll_mk0)), rfl, bel.frame _, fun h => by cases h⟩
theorem over : Rows.fnExactOfClassRow.holds Try.pinned (OpenSpec.ofChange Rows.fnExactOfClassSpec) :=
  OpenClaim.holds_of_wide 3 Try.f3 rfl rfl rfl rfl rfl rfl rfl ⟨rfl, rfl, rfl, rfl, rfl⟩ rfl rfl rfl rfl rfl (by kernel_rfl) Try.func3 (by kernel_rfl)
    (of_decide_eq_true (by kernel_rfl)) (by unfold Func.isWrapper; first | (rw [if_pos (by decide +kernel)]; kernel_rfl) | (rw [if_neg (by decide +kernel)]; exact ⟨rfl, rfl⟩))
    (fun os started H enc _ => lifted os started H enc)
theorem proved : Rows.FnExactOfClassSaid := over
#print axioms proved
end Go.Proofs.Ytdbomanmhhhndaa.fnExactOfClass
namespace Go.Proofs.Ytdbomanmhhhndaa
/-- The row, under a short name, for the claim. -/
theorem fnExactOfClass_holds : Rows.FnExactOfClassSaid := fnExactOfClass.proved
end Go.Proofs.Ytdbomanmhhhndaa
