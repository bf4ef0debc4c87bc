/- laws.FnExactGivenProblems answers true for all arguments, and what was handed in reads as before; no condition. -/
import Derived.Test.YtphfegkplihmhaaGreatDoorRows
import Derived.Test.YtphfegkplihmhaaGreatDoorTie
import Derived.Test.YtphfegkplihmhaaGreatDoorCards
import Derived.LaidMore
import Derived.LaidHandle
import Derived.Stop.Joined
import Derived.SevenTiedAt
import Derived.WalkKit
import Derived.ProofKit
import Derived.OpenShut
import Derived.ShutString
import Derived.ChangeOld
import Derived.ChangeArms
import Derived.ChangeSame
import Derived.Below
import Derived.SizedLaws
import Derived.WideKeyArgs
import Derived.Test.YtphfegkplihmhaaGreatDoorVB9
import Derived.Test.YtphfegkplihmhaaGreatDoorVB10
namespace Go.Proofs.YtphfegkplihmhaaGreatDoor.fnExactGivenProblems
open Go.ChangeShapes Go.WideShapes Go.ChangeAt Go.RowKit Go.Vs
open Go.ChangeMaps (open_string shut_string)
set_option linter.unusedVariables false
set_option linter.unusedSimpArgs false
theorem own : ownKnob Tryz.prog.godebug = none := by kernel_rfl
theorem tys : [25, 9, 26, 3, 4, 196, 152, 154, 157, 201, 198, 204, 99, 96, 51, 150, 91, 48, 49, 93, 92, 94, 23, 22].all (aVG Tryz.prog [25, 9, 26, 3, 4, 196, 152, 154, 157, 201, 198, 204, 99, 96, 51, 150, 91, 48, 49, 93, 92, 94, 23, 22]) = true := by kernel_rfl
theorem reOk0 {W : World} {K : xU} : aT9 li W (rA W) (N0 W K) (rA W) (N0 W K) := aHY (fun c g o => aN4) (fun c => rfl)
theorem gE0 : Tryz.prog.globalNamed "strconv.ErrSyntax" = some 0 := by kernel_rfl
theorem gE1 : Tryz.prog.globalNamed "strconv.ErrRange" = some 1 := by kernel_rfl
theorem tE0 : (Tryz.prog.globals[0]?).map (·.type) = some 237 := by kernel_rfl
theorem tE1 : (Tryz.prog.globals[1]?).map (·.type) = some 237 := by kernel_rfl
theorem uE : ∃ ms, Tryz.prog.underlying 237 = some (.interface ms) := ⟨_, Tryz.underlying237⟩
/-- The door's own heap meets the condition. -/
theorem door_met (os : Os) (args : Array Value) : laidMetH Tryz.prog Rows.fnExactGivenProblemsRow.laid ((World.doorLaid Tryz.prog 400 os).forCall (fun _ _ => 0) ⟨#[], args, []⟩).memory :=
  laidMetH_of_parts3 (fuel := 8) (laidMet_of_run' 8 (by kernel_rfl) (by kernel_rfl)) (by kernel_rfl) (by kernel_rfl)
/-- What the condition gives: the two errors. -/
theorem of_laid {W : World} (h : laidMetH Tryz.prog Rows.fnExactGivenProblemsRow.laid W) : ∃ ev0 ev1, (wA ev0 ∧ wA ev1) ∧ KOk W (KOf ev0 ev1) := by
  rw [MakeChecks.laidMetH_plain _ _ _ (by kernel_rfl)] at h
  obtain ⟨ps, h, _⟩ := h
  obtain ⟨ms, hu⟩ := uE
  obtain ⟨ev0, c0, e0⟩ := aMC (d := Rows.laid_strconv_ErrSyntax) gE0 tE0 hu h (by simp [Rows.fnExactGivenProblemsRow])
  obtain ⟨ev1, c1, e1⟩ := aMC (d := Rows.laid_strconv_ErrRange) gE1 tE1 hu h (by simp [Rows.fnExactGivenProblemsRow])
  refine ⟨ev0, ev1, ⟨e0, e1⟩, fun k hk => ?_⟩
  simp only [KOf, List.mem_cons, List.not_mem_nil, or_false] at hk
  rcases hk with rfl | rfl
  · exact ⟨aEc c0, c0⟩
  · exact ⟨aEc c1, c1⟩
set_option maxRecDepth 100000 in
theorem lifted (os : Os) (started : os.Started) (H : Type) (enc : TypeId × Value → H) :
    ReturnsInHanded {} Tryz.checked os 3 .any (fun w args => (Rows.fnExactGivenProblemsSpec.pre enc Tryz.prog Tryz.f3 [] false w args ∧ laidMetH Tryz.prog Rows.fnExactGivenProblemsRow.laid w) ∧ sizedMet enc Tryz.prog Tryz.f3 (OpenSpec.ofChange Rows.fnExactGivenProblemsSpec) false w args)
      (Rows.fnExactGivenProblemsSpec.post enc Tryz.prog Tryz.f3 false true false false) := by
  refine returnsInHanded_of_change_and (C := Tryz.checked) (X := fun w _ => laidMetH Tryz.prog Rows.fnExactGivenProblemsRow.laid w) (fun _ _ _ hh h => h.of_heap hh) own started (by kernel_rfl) Tryz.func3
    (ChangeSpec.witness_shaped (enc := enc) (C := Tryz.checked) (os := os) (X := fun w _ => laidMetH Tryz.prog Rows.fnExactGivenProblemsRow.laid w) false (World.doorLaid Tryz.prog 400 os) #[.agg #[.slice none 0 0, .slice none 0 0, .slice none 0 0], .string ⟨#[]⟩, .slice none 0 0] 8 rfl (World.shaped_of_RefB (by kernel_rfl) (by kernel_rfl)) (by kernel_rfl) (by kernel_rfl) (by kernel_rfl) (door_met os _)) ?_
  intro W base args ds gs before hval0 hW hcnd hsz0 hL _
  have hval : ∀ (j : Nat) t v, Tryz.f3.params[j]? = some t → args[j]? = some v → Value.okWide Tryz.prog W .any base t v := hval0
  have hW' := hW
  obtain ⟨ev0, ev1, hE, hK⟩ := of_laid hL
  obtain ⟨p, q, hA0, hV, rfl, hfz, hnd⟩ := hW
  have hA : DataW.TrodAll enc Tryz.prog W 0 (fun _ => true) true Tryz.f3.params.toList args.toList ds p := hA0
  rw [Tryz.params3] at hA hval
  obtain ⟨v0, vs0, d0, ds0, p0, q0, hargs, rfl, rfl, h0, r0⟩ := trodAll_cons hA
  obtain ⟨v1, vs1, d1, ds1, p1, q1, rfl, rfl, rfl, h1, r1⟩ := trodAll_cons r0
  obtain ⟨v2, vs2, d2, ds2, p2, q2, rfl, rfl, rfl, h2, r2⟩ := trodAll_cons r1
  obtain ⟨rfl, rfl, rfl⟩ := trodAll_nil r2
  obtain rfl : args = #[v0, v1, v2] := by cases args; simp_all
  obtain ⟨rfl, rfl⟩ := trodVars_none hV
  obtain ⟨a0, rfl, _⟩ := okWide_struct Tryz.underlying25 (hval 0 25 v0 rfl rfl)
  obtain ⟨b1, rfl⟩ := okWide_string Tryz.underlying9 (hval 1 9 v1 rfl rfl)
  obtain ⟨A2, len2, cap2, rfl⟩ := okWide_slice Tryz.underlying26 (hval 2 26 v2 rfl rfl)
  have h0' := h0
  obtain ⟨fuel0, hf0⟩ := h0
  have h1' := h1
  obtain ⟨fuel1, hf1⟩ := h1
  have h2' := h2
  obtain ⟨fuel2, hf2⟩ := h2
  obtain ⟨ls0, hr0, hs0⟩ := aJc (m := false) (c := fP) (N := N0 W (KOf ev0 ev1)) (F := rA W) (fun _ _ => trivial) rfl (fun g j v h => aEc h) (fun g => rfl) tys fuel0 25 _ _ (by simp) hf0
  have i0 := aPI hs0
  obtain ⟨x0_0, x0_1, x0_2, e0, _⟩ := i0.ex
  subst e0
  have rep0 := hr0.re reOk0
  obtain ⟨ls1, hr1, hs1⟩ := aJc (m := false) (c := fP) (N := N0 W (KOf ev0 ev1)) (F := rA W) (fun _ _ => trivial) rfl (fun g j v h => aEc h) (fun g => rfl) tys fuel1 9 _ _ (by simp) hf1
  obtain ⟨x1, rfl, l1⟩ := oA Tryz.underlying9 hs1
  have rep1 := hr1.re reOk0
  obtain ⟨ls2, hr2, hs2⟩ := aJc (m := false) (c := fP) (N := N0 W (KOf ev0 ev1)) (F := rA W) (fun _ _ => trivial) rfl (fun g j v h => aEc h) (fun g => rfl) tys fuel2 26 _ _ (by simp) hf2
  obtain ⟨x2, rfl, l2, i2⟩ := aVv hs2
  have rep2 := hr2.re reOk0
  refine (aVu (hK := hK) hfn hc0 (args := [.agg [.sl dK (reE (fl dK) x0_0), .sl dK (reE (fl dK) x0_1), .sl dK (reE (fl dK) x0_2)], .leaf (.str x1), .leaf (.sl dK (reE (fl dK) x2))]) (W := W) (vals := #[.agg a0, .string b1, .slice A2 len2 cap2]) rfl rfl ?_ fun act on => ?_).mono fun e W' ⟨he, bel⟩ => ?_
  · intro j x v hx hv
    rcases j with _ | _ | _ | j
    · simp only [List.getElem?_cons_zero, List.getElem?_cons_succ, Option.some.injEq] at hx; simp at hv; subst hx hv
      simp only [reL, reF] at rep0
      have h : ∃ vs, Value.agg a0 = .agg vs ∧ cU W (rA W) (N0 W (KOf ev0 ev1)) _ vs.toList := ⟨a0, rfl, rep0⟩
      simpa only [aR, dF] using h
    · simp only [List.getElem?_cons_zero, List.getElem?_cons_succ, Option.some.injEq] at hx; simp at hv; subst hx hv
      exact aR.leaf (rep1.2 0 _ _ rfl rfl)
    · simp only [List.getElem?_cons_zero, List.getElem?_cons_succ, Option.some.injEq] at hx; simp at hv; subst hx hv
      exact aR.leaf (rep2.2 0 _ _ rfl rfl)
    · simp at hx
  · have e : aBm (xZ Tryz.prog F.aWN) [.agg [.sl dK (reE (fl dK) x0_0), .sl dK (reE (fl dK) x0_1), .sl dK (reE (fl dK) x0_2)], .leaf (.str x1), .leaf (.sl dK (reE (fl dK) x2))] [] = kI dK (reE (fl dK) x0_0) dK (reE (fl dK) x0_1) dK (reE (fl dK) x0_2) x1 dK (reE (fl dK) x2) := by kernel_rfl
    rw [e] at on
    exact aVJ (aWo i0) (aWk l2 i2) (aV2 i0 l2 i2) hE hK on
  · subst he
    have h0'' : DataW.Trod enc Tryz.prog W' 0 (fun b => decide (b < W.heap.size)) true 25 (.agg a0) d0 p0 :=
      WideElems.Trod_stays (by kernel_rfl) (by kernel_rfl) (of_decide_eq_true (by kernel_rfl)) h0' (fun p hp => bel.same (hW'.lt p (by simp [hp]))) (fun p hp => by simpa using hW'.lt p (by simp [hp]))
    have h1'' : DataW.Trod enc Tryz.prog W' 0 (fun b => decide (b < W.heap.size)) true 9 (.string b1) d1 p1 :=
      WideElems.Trod_stays (by kernel_rfl) (by kernel_rfl) (of_decide_eq_true (by kernel_rfl)) h1' (fun p hp => bel.same (hW'.lt p (by simp [hp]))) (fun p hp => by simpa using hW'.lt p (by simp [hp]))
    have h2'' : DataW.Trod enc Tryz.prog W' 0 (fun b => decide (b < W.heap.size)) true 26 (.slice A2 len2 cap2) d2 p2 :=
      WideElems.Trod_stays (by kernel_rfl) (by kernel_rfl) (of_decide_eq_true (by kernel_rfl)) h2' (fun p hp => bel.same (hW'.lt p (by simp [hp]))) (fun p hp => by simpa using hW'.lt p (by simp [hp]))
    exact ⟨_, rfl, _, _, _, [], _, [], hW', trodAll_mk1 (shut_bool Tryz.underlying4 _), (trodAll_cons_mk h0'' (trodAll_cons_mk h1'' (trodAll_cons_mk h2'' trodAll_mk0))), rfl, bel.frame _, fun h => by cases h⟩
theorem over : Rows.fnExactGivenProblemsRow.holds Tryz.pinned (OpenSpec.ofChange Rows.fnExactGivenProblemsSpec) :=
  OpenClaim.holds_of_wide 3 Tryz.f3 rfl rfl rfl rfl rfl rfl rfl ⟨rfl, rfl, rfl, rfl, rfl⟩ rfl rfl rfl rfl rfl o1 Tryz.func3 o2 o3 o4
    (fun os started H enc _ => lifted os started H enc)
theorem card : Rows.FnExactGivenProblemsCardSaid :=
  Claim7.holds_tied_plain_at .later [] [.data, .data, .data, .sentinel, .sentinel] true (true, "e3861b329623b264d1bb4beffd071d3779401e2b42c16c88e43e749d27c4e0f5") true
    over (fun _ h => by cases h) (by kernel_rfl) (fun _ h => by cases h) fnExactGivenProblems_row_tie rfl ⟨rfl, rfl⟩ (by kernel_rfl) rfl
    (fun f fn hf hfn => by
      obtain rfl : f = 3 := Option.some.inj ((show Tryz.prog.funcNamed "loop.example/g00964/laws.FnExactGivenProblems" = some 3 by kernel_rfl).symm.trans hf) |>.symm
      obtain rfl : fn = Tryz.f3 := (Option.some.inj (Tryz.func3.symm.trans hfn)).symm
      exact ⟨by kernel_rfl, fun j t ht => by
        rw [Tryz.params3] at ht
        have hm : t ∈ [25, 9, 26] := by simpa using Array.mem_of_getElem? ht
        have hall : ([25, 9, 26].all fun u => !Tryz.prog.wantsStandIn u) = true := by kernel_rfl
        exact (show Tryz.prog.wantsStandIn t = false by simpa using List.all_eq_true.1 hall t hm)⟩)
    (by kernel_rfl)
theorem proved : Rows.FnExactGivenProblemsCardSaid := card
#print axioms proved
end Go.Proofs.YtphfegkplihmhaaGreatDoor.fnExactGivenProblems
namespace Go.Proofs.YtphfegkplihmhaaGreatDoor
/-- The row, under a short name, for the claim. -/
theorem fnExactGivenProblems_holds : Rows.FnExactGivenProblemsCardSaid := fnExactGivenProblems.proved
end Go.Proofs.YtphfegkplihmhaaGreatDoor
