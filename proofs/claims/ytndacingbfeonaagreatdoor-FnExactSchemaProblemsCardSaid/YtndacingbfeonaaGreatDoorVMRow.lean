/- laws.FnExactSchemaProblems answers true for all arguments, and what was handed in reads as before; no condition. -/
import Derived.Test.YtndacingbfeonaaGreatDoorRows
import Derived.Test.YtndacingbfeonaaGreatDoorTie
import Derived.Test.YtndacingbfeonaaGreatDoorCards
import Derived.LaidMore
import Derived.LaidHandle
import Derived.Stop.Joined
import Derived.SevenTiedAt
import Derived.WalkKit
import Derived.ProofKit
import Derived.OpenShut
import Derived.ShutString
import Derived.ChangeOld
import Derived.ChangeArms
import Derived.ChangeSame
import Derived.Below
import Derived.SizedLaws
import Derived.WideKeyArgs
import Derived.Test.YtndacingbfeonaaGreatDoorVB8
import Derived.Test.YtndacingbfeonaaGreatDoorVB9
namespace Go.Proofs.YtndacingbfeonaaGreatDoor.fnExactSchemaProblems
open Go.ChangeShapes Go.WideShapes Go.ChangeAt Go.RowKit Go.Vs
open Go.ChangeMaps (open_string shut_string)
set_option linter.unusedVariables false
set_option linter.unusedSimpArgs false
theorem own : ownKnob Tryz.prog.godebug = none := by kernel_rfl
theorem tys : [25, 3, 4, 9, 90, 93, 98, 137, 95, 217, 220, 189, 65, 91, 61, 27, 53, 26, 62, 63, 23, 22].all (aV8 Tryz.prog [25, 3, 4, 9, 90, 93, 98, 137, 95, 217, 220, 189, 65, 91, 61, 27, 53, 26, 62, 63, 23, 22]) = true := by kernel_rfl
theorem reOk0 {W : World} {K : aBc} : aUI li W (xB W) (N0 W K) (xB W) (N0 W K) := aIL (fun c g o => aPA) (fun c => rfl)
theorem gE0 : Tryz.prog.globalNamed "strconv.ErrSyntax" = some 0 := by kernel_rfl
theorem gE1 : Tryz.prog.globalNamed "strconv.ErrRange" = some 1 := by kernel_rfl
theorem tE0 : (Tryz.prog.globals[0]?).map (·.type) = some 260 := by kernel_rfl
theorem tE1 : (Tryz.prog.globals[1]?).map (·.type) = some 260 := by kernel_rfl
theorem uE : ∃ ms, Tryz.prog.underlying 260 = some (.interface ms) := ⟨_, Tryz.underlying260⟩
/-- The door's own heap meets the condition. -/
theorem door_met (os : Os) (args : Array Value) : laidMetH Tryz.prog Rows.fnExactSchemaProblemsRow.laid ((World.doorLaid Tryz.prog 400 os).forCall (fun _ _ => 0) ⟨#[], args, []⟩).memory :=
  laidMetH_of_parts3 (fuel := 8) (laidMet_of_run' 8 (by kernel_rfl) (by kernel_rfl)) (by kernel_rfl) (by kernel_rfl)
/-- What the condition gives: the two errors. -/
theorem of_laid {W : World} (h : laidMetH Tryz.prog Rows.fnExactSchemaProblemsRow.laid W) : ∃ ev0 ev1, (zB ev0 ∧ zB ev1) ∧ KOk W (KOf ev0 ev1) := by
  rw [MakeChecks.laidMetH_plain _ _ _ (by kernel_rfl)] at h
  obtain ⟨ps, h, _⟩ := h
  obtain ⟨ms, hu⟩ := uE
  obtain ⟨ev0, c0, e0⟩ := aOu (d := Rows.laid_strconv_ErrSyntax) gE0 tE0 hu h (by simp [Rows.fnExactSchemaProblemsRow])
  obtain ⟨ev1, c1, e1⟩ := aOu (d := Rows.laid_strconv_ErrRange) gE1 tE1 hu h (by simp [Rows.fnExactSchemaProblemsRow])
  refine ⟨ev0, ev1, ⟨e0, e1⟩, fun k hk => ?_⟩
  simp only [KOf, List.mem_cons, List.not_mem_nil, or_false] at hk
  rcases hk with rfl | rfl
  · exact ⟨aOk c0, c0⟩
  · exact ⟨aOk c1, c1⟩
set_option maxRecDepth 100000 in
theorem lifted (os : Os) (started : os.Started) (H : Type) (enc : TypeId × Value → H) :
    ReturnsInHanded {} Tryz.checked os 8 .any (fun w args => (Rows.fnExactSchemaProblemsSpec.pre enc Tryz.prog Tryz.f8 [] false w args ∧ laidMetH Tryz.prog Rows.fnExactSchemaProblemsRow.laid w) ∧ sizedMet enc Tryz.prog Tryz.f8 (OpenSpec.ofChange Rows.fnExactSchemaProblemsSpec) false w args)
      (Rows.fnExactSchemaProblemsSpec.post enc Tryz.prog Tryz.f8 false true false false) := by
  refine returnsInHanded_of_change_and (C := Tryz.checked) (X := fun w _ => laidMetH Tryz.prog Rows.fnExactSchemaProblemsRow.laid w) (fun _ _ _ hh h => h.of_heap hh) own started (by kernel_rfl) Tryz.func8
    (ChangeSpec.witness_shaped (enc := enc) (C := Tryz.checked) (os := os) (X := fun w _ => laidMetH Tryz.prog Rows.fnExactSchemaProblemsRow.laid w) false (World.doorLaid Tryz.prog 400 os) #[.agg #[.slice none 0 0, .slice none 0 0, .slice none 0 0]] 8 rfl (World.shaped_of_RefB (by kernel_rfl) (by kernel_rfl)) (by kernel_rfl) (by kernel_rfl) (by kernel_rfl) (door_met os _)) ?_
  intro W base args ds gs before hval0 hW hcnd hsz0 hL _
  have hval : ∀ (j : Nat) t v, Tryz.f8.params[j]? = some t → args[j]? = some v → Value.okWide Tryz.prog W .any base t v := hval0
  have hW' := hW
  obtain ⟨ev0, ev1, hE, hK⟩ := of_laid hL
  obtain ⟨p, q, hA0, hV, rfl, hfz, hnd⟩ := hW
  have hA : DataW.TrodAll enc Tryz.prog W 0 (fun _ => true) true Tryz.f8.params.toList args.toList ds p := hA0
  rw [Tryz.params8] at hA hval
  obtain ⟨v0, vs0, d0, ds0, p0, q0, hargs, rfl, rfl, h0, r0⟩ := trodAll_cons hA
  obtain ⟨rfl, rfl, rfl⟩ := trodAll_nil r0
  obtain rfl : args = #[v0] := by cases args; simp_all
  obtain ⟨rfl, rfl⟩ := trodVars_none hV
  obtain ⟨a0, rfl, _⟩ := okWide_struct Tryz.underlying25 (hval 0 25 v0 rfl rfl)
  have h0' := h0
  obtain ⟨fuel0, hf0⟩ := h0
  obtain ⟨ls0, hr0, hs0⟩ := aQ7 (m := false) (c := fP) (N := N0 W (KOf ev0 ev1)) (F := xB W) (fun _ _ => trivial) rfl (fun g j v h => aOk h) (fun g => rfl) tys fuel0 25 _ _ (by simp) hf0
  have i0 := aRq hs0
  obtain ⟨x0_0, x0_1, x0_2, e0, _⟩ := i0.ex
  subst e0
  have rep0 := hr0.re reOk0
  refine (aV4 (hK := hK) hfn hc0 (args := [.agg [.sl eT (reE (fl eT) x0_0), .sl eT (reE (fl eT) x0_1), .sl eT (reE (fl eT) x0_2)]]) (W := W) (vals := #[.agg a0]) rfl rfl ?_ fun act on => ?_).mono fun e W' ⟨he, bel⟩ => ?_
  · intro j x v hx hv
    rcases j with _ | j
    · simp only [List.getElem?_cons_zero, List.getElem?_cons_succ, Option.some.injEq] at hx; simp at hv; subst hx hv
      simp only [reL, reF] at rep0
      have h : ∃ vs, Value.agg a0 = .agg vs ∧ dJ W (xB W) (N0 W (KOf ev0 ev1)) _ vs.toList := ⟨a0, rfl, rep0⟩
      simpa only [bD, eP] using h
    · simp at hx
  · have e : aBv (uF Tryz.prog F.aXq) [.agg [.sl eT (reE (fl eT) x0_0), .sl eT (reE (fl eT) x0_1), .sl eT (reE (fl eT) x0_2)]] [] = lH eT (reE (fl eT) x0_0) eT (reE (fl eT) x0_1) eT (reE (fl eT) x0_2) := by kernel_rfl
    rw [e] at on
    exact aV0 (aW1 i0) (aWP i0) hE hK on
  · subst he
    have h0'' : DataW.Trod enc Tryz.prog W' 0 (fun b => decide (b < W.heap.size)) true 25 (.agg a0) d0 p0 :=
      WideElems.Trod_stays (by kernel_rfl) (by kernel_rfl) (of_decide_eq_true (by kernel_rfl)) h0' (fun p hp => bel.same (hW'.lt p (by simp [hp]))) (fun p hp => by simpa using hW'.lt p (by simp [hp]))
    exact ⟨_, rfl, _, _, _, [], _, [], hW', trodAll_mk1 (shut_bool Tryz.underlying4 _), (trodAll_cons_mk h0'' trodAll_mk0), rfl, bel.frame _, fun h => by cases h⟩
theorem over : Rows.fnExactSchemaProblemsRow.holds Tryz.pinned (OpenSpec.ofChange Rows.fnExactSchemaProblemsSpec) :=
  OpenClaim.holds_of_wide 8 Tryz.f8 rfl rfl rfl rfl rfl rfl rfl ⟨rfl, rfl, rfl, rfl, rfl⟩ rfl rfl rfl rfl rfl o1 Tryz.func8 o2 o3 o4
    (fun os started H enc _ => lifted os started H enc)
theorem card : Rows.FnExactSchemaProblemsCardSaid :=
  Claim7.holds_tied_plain_at .later [] [.data, .data, .data, .sentinel, .sentinel] true (true, "5ad46102c45ff6bffeb10fb58075d915bcd3a97651c8d3f86c01f8d959166f94") true
    over (fun _ h => by cases h) (by kernel_rfl) (fun _ h => by cases h) fnExactSchemaProblems_row_tie rfl ⟨rfl, rfl⟩ (by kernel_rfl) rfl
    (fun f fn hf hfn => by
      obtain rfl : f = 8 := Option.some.inj ((show Tryz.prog.funcNamed "loop.example/g00964/laws.FnExactSchemaProblems" = some 8 by kernel_rfl).symm.trans hf) |>.symm
      obtain rfl : fn = Tryz.f8 := (Option.some.inj (Tryz.func8.symm.trans hfn)).symm
      exact ⟨by kernel_rfl, fun j t ht => by
        rw [Tryz.params8] at ht
        have hm : t ∈ [25] := by simpa using Array.mem_of_getElem? ht
        have hall : ([25].all fun u => !Tryz.prog.wantsStandIn u) = true := by kernel_rfl
        exact (show Tryz.prog.wantsStandIn t = false by simpa using List.all_eq_true.1 hall t hm)⟩)
    (by kernel_rfl)
theorem proved : Rows.FnExactSchemaProblemsCardSaid := card
#print axioms proved
end Go.Proofs.YtndacingbfeonaaGreatDoor.fnExactSchemaProblems
namespace Go.Proofs.YtndacingbfeonaaGreatDoor
/-- The row, under a short name, for the claim. -/
theorem fnExactSchemaProblems_holds : Rows.FnExactSchemaProblemsCardSaid := fnExactSchemaProblems.proved
end Go.Proofs.YtndacingbfeonaaGreatDoor
