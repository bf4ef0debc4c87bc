/- laws.FnExactInChanges answers true for every text and any two rows of what may be handed in, and what was handed in reads as before; no condition. -/
import Derived.Test.YtingdapimncjjaaRows
import Derived.WalkKit
import Derived.ProofKit
import Derived.OpenShut
import Derived.ShutString
import Derived.ChangeOld
import Derived.ChangeArms
import Derived.ChangeSame
import Derived.Below
import Derived.SizedLaws
import Derived.WideKeyArgs
import Derived.Test.YtingdapimncjjaaVB8
namespace Go.Proofs.Ytingdapimncjjaa.fnExactInChanges
open Go.ChangeShapes Go.WideShapes Go.ChangeAt Go.RowKit Go.Vs
open Go.ChangeMaps (open_string shut_string)
set_option linter.unusedVariables false
set_option linter.unusedSimpArgs false
theorem own : ownKnob Try.prog.godebug = none := by kernel_rfl
theorem tys : [9, 30, 58, 51, 4, 55, 56, 104, 102, 119, 52, 53, 3].all (tyOk Try.prog [9, 30, 58, 51, 4, 55, 56, 104, 102, 119, 52, 53, 3]) = true := by kernel_rfl
theorem indefs_of {n : Nat} {ls : List (Leaf false)} (h : Shaped Try.prog fP n 30 ls) : ∃ es, ls = [.sl fP es] ∧ es.length ≤ maxLen ∧ ∀ e ∈ es, IsInDef e := by
  obtain ⟨k, es, rfl, e, hl, hs⟩ := sh_sl Try.underlying30 h
  exact ⟨es, e, hl, fun x hx => isInDef_of (hs x hx)⟩
theorem reOk0 {W : World} : ReOk li W (sealW W) (N0 W) (sealW W) (N0 W) := reOk_plain (fun c g o => old_holds) (fun c => rfl)

set_option maxRecDepth 100000 in
theorem lifted (os : Os) (started : os.Started) (H : Type) (enc : TypeId × Value → H) :
    ReturnsInHanded {} Try.checked os 4 .any (Rows.fnExactInChangesSpec.pre6 enc Try.prog Try.f4 Rows.fnExactInChangesRow.domain false) (Rows.fnExactInChangesSpec.post enc Try.prog Try.f4 false true false false) := by
  refine returnsInHanded_of_change_sized (C := Try.checked) own started (by kernel_rfl) Try.func4
    (ChangeSpec.witness6 (enc := enc) (C := Try.checked) false ⟨#[], #[.string ⟨#[]⟩, .slice none 0 0, .slice none 0 0], []⟩ 8 (by kernel_rfl) (by kernel_rfl) (by kernel_rfl) (by kernel_rfl)) ?_
  intro W base args ds gs before hval0 hW hcnd hsz0 _
  have hval : ∀ (j : Nat) t v, Try.f4.params[j]? = some t → args[j]? = some v → Value.okWide Try.prog W .any base t v := hval0
  have hW' := hW
  obtain ⟨p, q, hA0, hV, rfl, hfz, hnd⟩ := hW
  have hA : DataW.TrodAll enc Try.prog W 0 (fun _ => true) true Try.f4.params.toList args.toList ds p := hA0
  rw [Try.params4] at hA hval
  obtain ⟨v0, vs0, d0, ds0, p0, q0, hargs, rfl, rfl, h0, r0⟩ := trodAll_cons hA
  obtain ⟨v1, vs1, d1, ds1, p1, q1, rfl, rfl, rfl, h1, r1⟩ := trodAll_cons r0
  obtain ⟨v2, vs2, d2, ds2, p2, q2, rfl, rfl, rfl, h2, r2⟩ := trodAll_cons r1
  obtain ⟨rfl, rfl, rfl⟩ := trodAll_nil r2
  obtain rfl : args = #[v0, v1, v2] := by cases args; simp_all
  obtain ⟨rfl, rfl⟩ := trodVars_none hV
  obtain ⟨o, rfl⟩ := okWide_string Try.underlying9 (hval 0 9 v0 rfl rfl)
  obtain ⟨A1, len1, cap1, rfl⟩ := okWide_slice Try.underlying30 (hval 1 30 v1 rfl rfl)
  obtain ⟨A2, len2, cap2, rfl⟩ := okWide_slice Try.underlying30 (hval 2 30 v2 rfl rfl)
  have h0' := h0
  have h1' := h1
  have h2' := h2
  obtain ⟨fuel1, hf1⟩ := h1
  obtain ⟨fuel2, hf2⟩ := h2
  obtain ⟨ls1, hr1, hs1⟩ := trod_rep (m := false) (c := fP) (N := N0 W) (F := sealW W) (fun _ _ => trivial) rfl (fun g j v h => sealW_lt h) (fun g => rfl) tys fuel1 30 _ _ (by simp) hf1
  obtain ⟨ls2, hr2, hs2⟩ := trod_rep (m := false) (c := fP) (N := N0 W) (F := sealW W) (fun _ _ => trivial) rfl (fun g j v h => sealW_lt h) (fun g => rfl) tys fuel2 30 _ _ (by simp) hf2
  obtain ⟨a, rfl, la, qa⟩ := indefs_of hs1
  obtain ⟨b, rfl, lb, qb⟩ := indefs_of hs2
  have rep1 : RepL W (sealW W) (N0 W) (.sl fP a) (.slice A1 len1 cap1) := hr1.2 0 _ _ rfl rfl
  have rep2 : RepL W (sealW W) (N0 W) (.sl fP b) (.slice A2 len2 cap2) := hr2.2 0 _ _ rfl rfl
  have rep1' := rep1.re reOk0
  have rep2' := rep2.re reOk0
  refine (law_on hfn hc0 (args := [.leaf (.str o), .leaf (.sl fOld (reE (fl fOld) a)), .leaf (.sl fOld (reE (fl fOld) b))]) (W := W) (vals := #[.string o, .slice A1 len1 cap1, .slice A2 len2 cap2]) rfl rfl ?_ fun act on => ?_).mono fun e W' ⟨he, bel⟩ => ?_
  · intro j x v hx hv
    rcases j with _ | _ | _ | j
    · simp only [List.getElem?_cons_zero, Option.some.injEq] at hx; simp at hv; subst hx hv; exact RepS.leaf (.str o)
    · simp only [List.getElem?_cons_zero, List.getElem?_cons_succ, Option.some.injEq] at hx; simp at hv; subst hx hv; exact RepS.leaf rep1'
    · simp only [List.getElem?_cons_zero, List.getElem?_cons_succ, Option.some.injEq] at hx; simp at hv; subst hx hv; exact RepS.leaf rep2'
    · simp at hx
  · have e : enterV (fnOf Try.prog F.laws_FnExactInChanges) [.leaf (.str o), .leaf (.sl fOld (reE (fl fOld) a)), .leaf (.sl fOld (reE (fl fOld) b))] [] = laws_FnExactInChanges_s0 o fOld (reE (fl fOld) a) fOld (reE (fl fOld) b) := by kernel_rfl
    rw [e] at on
    exact law_c0 la lb qa qb on
  · subst he
    have h0'' : DataW.Trod enc Try.prog W' 0 (fun b => decide (b < W.heap.size)) true 9 (.string o) d0 p0 :=
      WideElems.Trod_stays (by kernel_rfl) (by kernel_rfl) (of_decide_eq_true (by kernel_rfl)) h0' (fun p hp => bel.same (hW'.lt p (by simp [hp]))) (fun p hp => by simpa using hW'.lt p (by simp [hp]))
    have h1'' : DataW.Trod enc Try.prog W' 0 (fun b => decide (b < W.heap.size)) true 30 (.slice A1 len1 cap1) d1 p1 :=
      WideElems.Trod_stays (by kernel_rfl) (by kernel_rfl) (of_decide_eq_true (by kernel_rfl)) h1' (fun p hp => bel.same (hW'.lt p (by simp [hp]))) (fun p hp => by simpa using hW'.lt p (by simp [hp]))
    have h2'' : DataW.Trod enc Try.prog W' 0 (fun b => decide (b < W.heap.size)) true 30 (.slice A2 len2 cap2) d2 p2 :=
      WideElems.Trod_stays (by kernel_rfl) (by kernel_rfl) (of_decide_eq_true (by kernel_rfl)) h2' (fun p hp => bel.same (hW'.lt p (by simp [hp]))) (fun p hp => by simpa using hW'.lt p (by simp [hp]))
    exact ⟨_, rfl, _, _, _, [], _, [], hW', trodAll_mk1 (shut_bool Try.underlying4 _), (trodAll_cons_mk h0'' (trodAll_cons_mk h1'' (trodAll_cons_mk h2'' trodAll_mk0))), rfl, bel.frame _, fun h => by cases h⟩
theorem over : Rows.fnExactInChangesRow.holds Try.pinned (OpenSpec.ofChange Rows.fnExactInChangesSpec) :=
  OpenClaim.holds_of_wide 4 Try.f4 rfl rfl rfl rfl rfl rfl rfl ⟨rfl, rfl, rfl, rfl, rfl⟩ rfl rfl rfl rfl rfl (by kernel_rfl) Try.func4 (by kernel_rfl)
    (of_decide_eq_true (by kernel_rfl)) (by unfold Func.isWrapper; first | (rw [if_pos (by decide +kernel)]; kernel_rfl) | (rw [if_neg (by decide +kernel)]; exact ⟨rfl, rfl⟩))
    (fun os started H enc _ => lifted os started H enc)
theorem proved : Rows.FnExactInChangesSaid := over
#print axioms proved
end Go.Proofs.Ytingdapimncjjaa.fnExactInChanges
namespace Go.Proofs.Ytingdapimncjjaa
/-- The row, under a short name, for the claim. -/
theorem fnExactInChanges_holds : Rows.FnExactInChangesSaid := fnExactInChanges.proved
end Go.Proofs.Ytingdapimncjjaa
