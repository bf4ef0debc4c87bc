/- laws.FnExactFaceProblems answers true for all arguments, and what was handed in reads as before; no condition. -/
import Derived.Test.YthapaelfjgkahaaGreatRows
import Derived.WalkKit
import Derived.ProofKit
import Derived.OpenShut
import Derived.ShutString
import Derived.ChangeOld
import Derived.ChangeArms
import Derived.ChangeSame
import Derived.Below
import Derived.SizedLaws
import Derived.WideKeyArgs
import Derived.Test.YthapaelfjgkahaaGreatVB9
namespace Go.Proofs.YthapaelfjgkahaaGreat.fnExactFaceProblems
open Go.ChangeShapes Go.WideShapes Go.ChangeAt Go.RowKit Go.Vs
open Go.ChangeMaps (open_string shut_string)
set_option linter.unusedVariables false
set_option linter.unusedSimpArgs false
theorem own : ownKnob Tryz.prog.godebug = none := by kernel_rfl
theorem tys : [48, 29, 3, 4, 9, 121, 127, 196, 139, 129, 123, 132, 135, 125, 22, 137, 27, 24, 23, 25, 26, 46].all (tyOk Tryz.prog [48, 29, 3, 4, 9, 121, 127, 196, 139, 129, 123, 132, 135, 125, 22, 137, 27, 24, 23, 25, 26, 46]) = true := by kernel_rfl
theorem reOk0 {W : World} : ReOk li W (sealW W) (N0 W) (sealW W) (N0 W) := reOk_plain (fun c g o => old_holds) (fun c => rfl)
set_option maxRecDepth 100000 in
theorem lifted (os : Os) (started : os.Started) (H : Type) (enc : TypeId × Value → H) :
    ReturnsInHanded {} Tryz.checked os 4 .any (Rows.fnExactFaceProblemsSpec.pre6 enc Tryz.prog Tryz.f4 Rows.fnExactFaceProblemsRow.domain false) (Rows.fnExactFaceProblemsSpec.post enc Tryz.prog Tryz.f4 false true false false) := by
  refine returnsInHanded_of_change_sized (C := Tryz.checked) own started (by kernel_rfl) Tryz.func4
    (ChangeSpec.witness6 (enc := enc) (C := Tryz.checked) false ⟨#[], #[.agg #[.slice none 0 0, .slice none 0 0, .slice none 0 0], .agg #[.int .i64 0, .bool false, .string ⟨#[]⟩, .string ⟨#[]⟩, .slice none 0 0, .slice none 0 0, .slice none 0 0, .slice none 0 0, .slice none 0 0, .bool false, .slice none 0 0]], []⟩ 8 (by kernel_rfl) (by kernel_rfl) (by kernel_rfl) (by kernel_rfl)) ?_
  intro W base args ds gs before hval0 hW hcnd hsz0 _
  have hval : ∀ (j : Nat) t v, Tryz.f4.params[j]? = some t → args[j]? = some v → Value.okWide Tryz.prog W .any base t v := hval0
  have hW' := hW
  obtain ⟨p, q, hA0, hV, rfl, hfz, hnd⟩ := hW
  have hA : DataW.TrodAll enc Tryz.prog W 0 (fun _ => true) true Tryz.f4.params.toList args.toList ds p := hA0
  rw [Tryz.params4] at hA hval
  obtain ⟨v0, vs0, d0, ds0, p0, q0, hargs, rfl, rfl, h0, r0⟩ := trodAll_cons hA
  obtain ⟨v1, vs1, d1, ds1, p1, q1, rfl, rfl, rfl, h1, r1⟩ := trodAll_cons r0
  obtain ⟨rfl, rfl, rfl⟩ := trodAll_nil r1
  obtain rfl : args = #[v0, v1] := by cases args; simp_all
  obtain ⟨rfl, rfl⟩ := trodVars_none hV
  obtain ⟨a0, rfl, _⟩ := okWide_struct Tryz.underlying48 (hval 0 48 v0 rfl rfl)
  obtain ⟨a1, rfl, _⟩ := okWide_struct Tryz.underlying29 (hval 1 29 v1 rfl rfl)
  have h0' := h0
  obtain ⟨fuel0, hf0⟩ := h0
  have h1' := h1
  obtain ⟨fuel1, hf1⟩ := h1
  obtain ⟨ls0, hr0, hs0⟩ := trod_rep (m := false) (c := fP) (N := N0 W) (F := sealW W) (fun _ _ => trivial) rfl (fun g j v h => sealW_lt h) (fun g => rfl) tys fuel0 48 _ _ (by simp) hf0
  have i0 := isSchema_of hs0
  obtain ⟨x0_0, x0_1, x0_2, e0, _⟩ := i0.ex
  subst e0
  have rep0 := hr0.re reOk0
  obtain ⟨ls1, hr1, hs1⟩ := trod_rep (m := false) (c := fP) (N := N0 W) (F := sealW W) (fun _ _ => trivial) rfl (fun g j v h => sealW_lt h) (fun g => rfl) tys fuel1 29 _ _ (by simp) hf1
  have i1 := isDef_of hs1
  obtain ⟨x1_0, x1_1, x1_2, x1_3, x1_4, x1_5, x1_6, x1_7, x1_8, x1_9, x1_10, e1, _⟩ := i1.ex
  subst e1
  have rep1 := hr1.re reOk0
  refine (law_on hfn hc0 (args := [.agg [.sl fOld (reE (fl fOld) x0_0), .sl fOld (reE (fl fOld) x0_1), .sl fOld (reE (fl fOld) x0_2)], .agg [.int .i64 x1_0, .bool x1_1, .str x1_2, .str x1_3, .sl fOld (reE (fl fOld) x1_4), .sl fOld (reE (fl fOld) x1_5), .sl fOld (reE (fl fOld) x1_6), .sl fOld (reE (fl fOld) x1_7), .sl fOld (reE (fl fOld) x1_8), .bool x1_9, .sl fOld (reE (fl fOld) x1_10)]]) (W := W) (vals := #[.agg a0, .agg a1]) rfl rfl ?_ fun act on => ?_).mono fun e W' ⟨he, bel⟩ => ?_
  · intro j x v hx hv
    rcases j with _ | _ | j
    · simp only [List.getElem?_cons_zero, List.getElem?_cons_succ, Option.some.injEq] at hx; simp at hv; subst hx hv
      simp only [reL, reF] at rep0
      have h : ∃ vs, Value.agg a0 = .agg vs ∧ RepR W (sealW W) (N0 W) _ vs.toList := ⟨a0, rfl, rep0⟩
      simpa only [RepS, RepF] using h
    · simp only [List.getElem?_cons_zero, List.getElem?_cons_succ, Option.some.injEq] at hx; simp at hv; subst hx hv
      simp only [reL, reF] at rep1
      have h : ∃ vs, Value.agg a1 = .agg vs ∧ RepR W (sealW W) (N0 W) _ vs.toList := ⟨a1, rfl, rep1⟩
      simpa only [RepS, RepF] using h
    · simp at hx
  · have e : enterV (fnOf Tryz.prog F.laws_FnExactFaceProblems) [.agg [.sl fOld (reE (fl fOld) x0_0), .sl fOld (reE (fl fOld) x0_1), .sl fOld (reE (fl fOld) x0_2)], .agg [.int .i64 x1_0, .bool x1_1, .str x1_2, .str x1_3, .sl fOld (reE (fl fOld) x1_4), .sl fOld (reE (fl fOld) x1_5), .sl fOld (reE (fl fOld) x1_6), .sl fOld (reE (fl fOld) x1_7), .sl fOld (reE (fl fOld) x1_8), .bool x1_9, .sl fOld (reE (fl fOld) x1_10)]] [] = laws_FnExactFaceProblems_s0 fOld (reE (fl fOld) x0_0) fOld (reE (fl fOld) x0_1) fOld (reE (fl fOld) x0_2) x1_0 x1_1 x1_2 x1_3 fOld (reE (fl fOld) x1_4) fOld (reE (fl fOld) x1_5) fOld (reE (fl fOld) x1_6) fOld (reE (fl fOld) x1_7) fOld (reE (fl fOld) x1_8) x1_9 fOld (reE (fl fOld) x1_10) := by kernel_rfl
    rw [e] at on
    exact law_c0 (szd0 i0) (szd1 i1) (fitsD i0 i1) on
  · subst he
    have h0'' : DataW.Trod enc Tryz.prog W' 0 (fun b => decide (b < W.heap.size)) true 48 (.agg a0) d0 p0 :=
      WideElems.Trod_stays (by kernel_rfl) (by kernel_rfl) (of_decide_eq_true (by kernel_rfl)) h0' (fun p hp => bel.same (hW'.lt p (by simp [hp]))) (fun p hp => by simpa using hW'.lt p (by simp [hp]))
    have h1'' : DataW.Trod enc Tryz.prog W' 0 (fun b => decide (b < W.heap.size)) true 29 (.agg a1) d1 p1 :=
      WideElems.Trod_stays (by kernel_rfl) (by kernel_rfl) (of_decide_eq_true (by kernel_rfl)) h1' (fun p hp => bel.same (hW'.lt p (by simp [hp]))) (fun p hp => by simpa using hW'.lt p (by simp [hp]))
    exact ⟨_, rfl, _, _, _, [], _, [], hW', trodAll_mk1 (shut_bool Tryz.underlying4 _), (trodAll_cons_mk h0'' (trodAll_cons_mk h1'' trodAll_mk0)), rfl, bel.frame _, fun h => by cases h⟩
theorem over : Rows.fnExactFaceProblemsRow.holds Tryz.pinned (OpenSpec.ofChange Rows.fnExactFaceProblemsSpec) :=
  OpenClaim.holds_of_wide 4 Tryz.f4 rfl rfl rfl rfl rfl rfl rfl ⟨rfl, rfl, rfl, rfl, rfl⟩ rfl rfl rfl rfl rfl (by kernel_rfl) Tryz.func4 (by kernel_rfl)
    (of_decide_eq_true (by kernel_rfl)) (by unfold Func.isWrapper; first | (rw [if_pos (by decide +kernel)]; kernel_rfl) | (rw [if_neg (by decide +kernel)]; exact ⟨rfl, rfl⟩))
    (fun os started H enc _ => lifted os started H enc)
theorem proved : Rows.FnExactFaceProblemsSaid := over
#print axioms proved
end Go.Proofs.YthapaelfjgkahaaGreat.fnExactFaceProblems
namespace Go.Proofs.YthapaelfjgkahaaGreat
/-- The row, under a short name, for the claim. -/
theorem fnExactFaceProblems_holds : Rows.FnExactFaceProblemsSaid := fnExactFaceProblems.proved
end Go.Proofs.YthapaelfjgkahaaGreat
