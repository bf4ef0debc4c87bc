/- laws.FnExactDiffText answers true for all arguments, and what was handed in reads as before; no condition. -/
import Derived.Test.YtdbomanmhhhndaaGreatRows
import Derived.WalkKit
import Derived.ProofKit
import Derived.OpenShut
import Derived.ShutString
import Derived.ChangeOld
import Derived.ChangeArms
import Derived.ChangeSame
import Derived.Below
import Derived.SizedLaws
import Derived.WideKeyArgs
import Derived.Test.YtdbomanmhhhndaaGreatVB9
namespace Go.Proofs.YtdbomanmhhhndaaGreat.fnExactDiffText
open Go.ChangeShapes Go.WideShapes Go.ChangeAt Go.RowKit Go.Vs
open Go.ChangeMaps (open_string shut_string)
set_option linter.unusedVariables false
set_option linter.unusedSimpArgs false
theorem own : ownKnob Tryz.prog.godebug = none := by kernel_rfl
theorem tys : [25, 3, 4, 9, 211, 171, 173, 176, 216, 213, 219, 110, 107, 169, 85, 54, 55, 104, 103, 105, 23, 22].all (aRS Tryz.prog [25, 3, 4, 9, 211, 171, 173, 176, 216, 213, 219, 110, 107, 169, 85, 54, 55, 104, 103, 105, 23, 22]) = true := by kernel_rfl
theorem hP : Tryz.prog.follows .mixedOrders = true := by kernel_rfl
theorem hG : Tryz.prog.funcs.all (fun fn => !(fn.name == "runtime.NumGoroutine")) = true := by kernel_rfl
theorem dsound {N : Env} : mM Tryz.prog N Dn := aPh hP hG aND Hs
set_option maxRecDepth 100000 in
theorem lifted (os : Os) (started : os.Started) (H : Type) (enc : TypeId × Value → H) :
    ReturnsInHanded {} Tryz.checked os 4 .any (Rows.fnExactDiffTextSpec.pre6 enc Tryz.prog Tryz.f4 Rows.fnExactDiffTextRow.domain false) (Rows.fnExactDiffTextSpec.post enc Tryz.prog Tryz.f4 false true false false) := by
  refine returnsInHanded_of_change_sized (C := Tryz.checked) own started (by kernel_rfl) Tryz.func4
    (ChangeSpec.witness6 (enc := enc) (C := Tryz.checked) false ⟨#[], #[.agg #[.slice none 0 0, .slice none 0 0, .slice none 0 0], .agg #[.slice none 0 0, .slice none 0 0, .slice none 0 0]], []⟩ 8 (by kernel_rfl) (by kernel_rfl) (by kernel_rfl) (by kernel_rfl)) ?_
  intro W base args ds gs before hval0 hW hcnd hsz0 _
  have hval : ∀ (j : Nat) t v, Tryz.f4.params[j]? = some t → args[j]? = some v → Value.okWide Tryz.prog W .any base t v := hval0
  have hW' := hW
  obtain ⟨p, q, hA0, hV, rfl, hfz, hnd⟩ := hW
  have hA : DataW.TrodAll enc Tryz.prog W 0 (fun _ => true) true Tryz.f4.params.toList args.toList ds p := hA0
  rw [Tryz.params4] at hA hval
  obtain ⟨v0, vs0, d0, ds0, p0, q0, hargs, rfl, rfl, h0, r0⟩ := trodAll_cons hA
  obtain ⟨v1, vs1, d1, ds1, p1, q1, rfl, rfl, rfl, h1, r1⟩ := trodAll_cons r0
  obtain ⟨rfl, rfl, rfl⟩ := trodAll_nil r1
  obtain rfl : args = #[v0, v1] := by cases args; simp_all
  obtain ⟨rfl, rfl⟩ := trodVars_none hV
  obtain ⟨a0, rfl, _⟩ := okWide_struct Tryz.underlying25 (hval 0 25 v0 rfl rfl)
  obtain ⟨a1, rfl, _⟩ := okWide_struct Tryz.underlying25 (hval 1 25 v1 rfl rfl)
  have h0' := h0
  obtain ⟨fuel0, hf0⟩ := h0
  have h1' := h1
  obtain ⟨fuel1, hf1⟩ := h1
  obtain ⟨ls0, hr0, hs0⟩ := aIW (m := false) (c := fP) (N := N0 W) (F := vN W) (fun _ _ => trivial) rfl (fun g j v h => aMl h) (fun g => rfl) tys fuel0 25 _ _ (by simp) hf0
  have i0 := aHT hs0
  obtain ⟨x0_0, x0_1, x0_2, e0, _⟩ := i0.ex
  subst e0
  have rep0 := hr0
  obtain ⟨ls1, hr1, hs1⟩ := aIW (m := false) (c := fP) (N := N0 W) (F := vN W) (fun _ _ => trivial) rfl (fun g j v h => aMl h) (fun g => rfl) tys fuel1 25 _ _ (by simp) hf1
  have i1 := aHT hs1
  obtain ⟨x1_0, x1_1, x1_2, e1, _⟩ := i1.ex
  subst e1
  have rep1 := hr1
  refine (aO8 (K := []) (B := []) (dsound : mM Tryz.prog (N0 W) Dn) (aAT i0 i1) rfl (W := W) (vals := #[.agg a0, .agg a1]) rfl ?_).mono fun e W' ⟨v, F', Ow', bm, al, he, hv, bel⟩ => ?_
  · intro j x v hx hv
    rcases j with _ | _ | j
    · simp only [List.getElem?_cons_zero, List.getElem?_cons_succ, Option.some.injEq] at hx; simp at hv; subst hx hv
      have h : ∃ vs, Value.agg a0 = .agg vs ∧ cP W (vN W) (N0 W) _ vs.toList := ⟨a0, rfl, rep0⟩
      simpa only [aU, dB] using h
    · simp only [List.getElem?_cons_zero, List.getElem?_cons_succ, Option.some.injEq] at hx; simp at hv; subst hx hv
      have h : ∃ vs, Value.agg a1 = .agg vs ∧ cP W (vN W) (N0 W) _ vs.toList := ⟨a1, rfl, rep1⟩
      simpa only [aU, dB] using h
    · simp at hx
  · obtain rfl : v = .bool true := by cases hv; rfl
    subst he
    have h0'' : DataW.Trod enc Tryz.prog W' 0 (fun b => decide (b < W.heap.size)) true 25 (.agg a0) d0 p0 :=
      WideElems.Trod_stays (by kernel_rfl) (by kernel_rfl) (of_decide_eq_true (by kernel_rfl)) h0' (fun p hp => bel.same (hW'.lt p (by simp [hp]))) (fun p hp => by simpa using hW'.lt p (by simp [hp]))
    have h1'' : DataW.Trod enc Tryz.prog W' 0 (fun b => decide (b < W.heap.size)) true 25 (.agg a1) d1 p1 :=
      WideElems.Trod_stays (by kernel_rfl) (by kernel_rfl) (of_decide_eq_true (by kernel_rfl)) h1' (fun p hp => bel.same (hW'.lt p (by simp [hp]))) (fun p hp => by simpa using hW'.lt p (by simp [hp]))
    exact ⟨_, rfl, _, _, _, [], _, [], hW', trodAll_mk1 (shut_bool Tryz.underlying4 _), (trodAll_cons_mk h0'' (trodAll_cons_mk h1'' trodAll_mk0)), rfl, bel.frame _, fun h => by cases h⟩
theorem over : Rows.fnExactDiffTextRow.holds Tryz.pinned (OpenSpec.ofChange Rows.fnExactDiffTextSpec) :=
  OpenClaim.holds_of_wide 4 Tryz.f4 rfl rfl rfl rfl rfl rfl rfl ⟨rfl, rfl, rfl, rfl, rfl⟩ rfl rfl rfl rfl rfl (by kernel_rfl) Tryz.func4 (by kernel_rfl)
    (of_decide_eq_true (by kernel_rfl)) (by unfold Func.isWrapper; first | (rw [if_pos (by decide +kernel)]; kernel_rfl) | (rw [if_neg (by decide +kernel)]; exact ⟨rfl, rfl⟩))
    (fun os started H enc _ => lifted os started H enc)
theorem proved : Rows.FnExactDiffTextSaid := over
#print axioms proved
end Go.Proofs.YtdbomanmhhhndaaGreat.fnExactDiffText
namespace Go.Proofs.YtdbomanmhhhndaaGreat
/-- The row, under a short name, for the claim. -/
theorem fnExactDiffText_holds : Rows.FnExactDiffTextSaid := fnExactDiffText.proved
end Go.Proofs.YtdbomanmhhhndaaGreat
