/- laws.FnExactTypeProblems answers true for all arguments, and what was handed in reads as before; no condition. -/
import Derived.Test.YtndacingbfeonaaGreatDoorRows
import Derived.Test.YtndacingbfeonaaGreatDoorTie
import Derived.Test.YtndacingbfeonaaGreatDoorCards
import Derived.LaidMore
import Derived.LaidHandle
import Derived.Stop.Joined
import Derived.SevenTiedAt
import Derived.WalkKit
import Derived.ProofKit
import Derived.OpenShut
import Derived.ShutString
import Derived.ChangeOld
import Derived.ChangeArms
import Derived.ChangeSame
import Derived.Below
import Derived.SizedLaws
import Derived.WideKeyArgs
import Derived.Test.YtndacingbfeonaaGreatDoorVB8
import Derived.Test.YtndacingbfeonaaGreatDoorVB9
namespace Go.Proofs.YtndacingbfeonaaGreatDoor.fnExactTypeProblems
open Go.ChangeShapes Go.WideShapes Go.ChangeAt Go.RowKit Go.Vs
open Go.ChangeMaps (open_string shut_string)
set_option linter.unusedVariables false
set_option linter.unusedSimpArgs false
theorem own : ownKnob Tryz.prog.godebug = none := by kernel_rfl
theorem tys : [25, 65, 3, 4, 9, 90, 93, 98, 137, 95, 217, 220, 189, 91, 61, 27, 53, 26, 62, 63, 23, 22].all (aUN Tryz.prog [25, 65, 3, 4, 9, 90, 93, 98, 137, 95, 217, 220, 189, 91, 61, 27, 53, 26, 62, 63, 23, 22]) = true := by kernel_rfl
theorem reOk0 {W : World} {K : aAl} : aTE li W (tI W) (N0 W K) (tI W) (N0 W K) := aHh (fun c g o => aNQ) (fun c => rfl)
theorem gE0 : Tryz.prog.globalNamed "strconv.ErrSyntax" = some 0 := by kernel_rfl
theorem gE1 : Tryz.prog.globalNamed "strconv.ErrRange" = some 1 := by kernel_rfl
theorem tE0 : (Tryz.prog.globals[0]?).map (·.type) = some 260 := by kernel_rfl
theorem tE1 : (Tryz.prog.globals[1]?).map (·.type) = some 260 := by kernel_rfl
theorem uE : ∃ ms, Tryz.prog.underlying 260 = some (.interface ms) := ⟨_, Tryz.underlying260⟩
/-- The door's own heap meets the condition. -/
theorem door_met (os : Os) (args : Array Value) : laidMetH Tryz.prog Rows.fnExactTypeProblemsRow.laid ((World.doorLaid Tryz.prog 400 os).forCall (fun _ _ => 0) ⟨#[], args, []⟩).memory :=
  laidMetH_of_parts3 (fuel := 8) (laidMet_of_run' 8 (by kernel_rfl) (by kernel_rfl)) (by kernel_rfl) (by kernel_rfl)
/-- What the condition gives: the two errors. -/
theorem of_laid {W : World} (h : laidMetH Tryz.prog Rows.fnExactTypeProblemsRow.laid W) : ∃ ev0 ev1, (xL ev0 ∧ xL ev1) ∧ KOk W (KOf ev0 ev1) := by
  rw [MakeChecks.laidMetH_plain _ _ _ (by kernel_rfl)] at h
  obtain ⟨ps, h, _⟩ := h
  obtain ⟨ms, hu⟩ := uE
  obtain ⟨ev0, c0, e0⟩ := aMR (d := Rows.laid_strconv_ErrSyntax) gE0 tE0 hu h (by simp [Rows.fnExactTypeProblemsRow])
  obtain ⟨ev1, c1, e1⟩ := aMR (d := Rows.laid_strconv_ErrRange) gE1 tE1 hu h (by simp [Rows.fnExactTypeProblemsRow])
  refine ⟨ev0, ev1, ⟨e0, e1⟩, fun k hk => ?_⟩
  simp only [KOf, List.mem_cons, List.not_mem_nil, or_false] at hk
  rcases hk with rfl | rfl
  · exact ⟨aJs c0, c0⟩
  · exact ⟨aJs c1, c1⟩
set_option maxRecDepth 100000 in
theorem lifted (os : Os) (started : os.Started) (H : Type) (enc : TypeId × Value → H) :
    ReturnsInHanded {} Tryz.checked os 6 .any (fun w args => (Rows.fnExactTypeProblemsSpec.pre enc Tryz.prog Tryz.f6 [] false w args ∧ laidMetH Tryz.prog Rows.fnExactTypeProblemsRow.laid w) ∧ sizedMet enc Tryz.prog Tryz.f6 (OpenSpec.ofChange Rows.fnExactTypeProblemsSpec) false w args)
      (Rows.fnExactTypeProblemsSpec.post enc Tryz.prog Tryz.f6 false true false false) := by
  refine returnsInHanded_of_change_and (C := Tryz.checked) (X := fun w _ => laidMetH Tryz.prog Rows.fnExactTypeProblemsRow.laid w) (fun _ _ _ hh h => h.of_heap hh) own started (by kernel_rfl) Tryz.func6
    (ChangeSpec.witness_shaped (enc := enc) (C := Tryz.checked) (os := os) (X := fun w _ => laidMetH Tryz.prog Rows.fnExactTypeProblemsRow.laid w) false (World.doorLaid Tryz.prog 400 os) #[.agg #[.slice none 0 0, .slice none 0 0, .slice none 0 0], .agg #[.int .i64 0, .bool false, .string ⟨#[]⟩, .string ⟨#[]⟩, .slice none 0 0, .slice none 0 0, .slice none 0 0, .slice none 0 0, .slice none 0 0, .bool false, .slice none 0 0]] 8 rfl (World.shaped_of_RefB (by kernel_rfl) (by kernel_rfl)) (by kernel_rfl) (by kernel_rfl) (by kernel_rfl) (door_met os _)) ?_
  intro W base args ds gs before hval0 hW hcnd hsz0 hL _
  have hval : ∀ (j : Nat) t v, Tryz.f6.params[j]? = some t → args[j]? = some v → Value.okWide Tryz.prog W .any base t v := hval0
  have hW' := hW
  obtain ⟨ev0, ev1, hE, hK⟩ := of_laid hL
  obtain ⟨p, q, hA0, hV, rfl, hfz, hnd⟩ := hW
  have hA : DataW.TrodAll enc Tryz.prog W 0 (fun _ => true) true Tryz.f6.params.toList args.toList ds p := hA0
  rw [Tryz.params6] at hA hval
  obtain ⟨v0, vs0, d0, ds0, p0, q0, hargs, rfl, rfl, h0, r0⟩ := trodAll_cons hA
  obtain ⟨v1, vs1, d1, ds1, p1, q1, rfl, rfl, rfl, h1, r1⟩ := trodAll_cons r0
  obtain ⟨rfl, rfl, rfl⟩ := trodAll_nil r1
  obtain rfl : args = #[v0, v1] := by cases args; simp_all
  obtain ⟨rfl, rfl⟩ := trodVars_none hV
  obtain ⟨a0, rfl, _⟩ := okWide_struct Tryz.underlying25 (hval 0 25 v0 rfl rfl)
  obtain ⟨a1, rfl, _⟩ := okWide_struct Tryz.underlying65 (hval 1 65 v1 rfl rfl)
  have h0' := h0
  obtain ⟨fuel0, hf0⟩ := h0
  have h1' := h1
  obtain ⟨fuel1, hf1⟩ := h1
  obtain ⟨ls0, hr0, hs0⟩ := aMB (m := false) (c := fP) (N := N0 W (KOf ev0 ev1)) (F := tI W) (fun _ _ => trivial) rfl (fun g j v h => aJs h) (fun g => rfl) tys fuel0 25 _ _ (by simp) hf0
  have i0 := aPN hs0
  obtain ⟨x0_0, x0_1, x0_2, e0, _⟩ := i0.ex
  subst e0
  have rep0 := hr0.re reOk0
  obtain ⟨ls1, hr1, hs1⟩ := aMB (m := false) (c := fP) (N := N0 W (KOf ev0 ev1)) (F := tI W) (fun _ _ => trivial) rfl (fun g j v h => aJs h) (fun g => rfl) tys fuel1 65 _ _ (by simp) hf1
  have i1 := aNi hs1
  obtain ⟨x1_0, x1_1, x1_2, x1_3, x1_4, x1_5, x1_6, x1_7, x1_8, x1_9, x1_10, e1, _⟩ := i1.ex
  subst e1
  have rep1 := hr1.re reOk0
  refine (aUC (hK := hK) hfn hc0 (args := [.agg [.sl bL (reE (fl bL) x0_0), .sl bL (reE (fl bL) x0_1), .sl bL (reE (fl bL) x0_2)], .agg [.int .i64 x1_0, .bool x1_1, .str x1_2, .str x1_3, .sl bL (reE (fl bL) x1_4), .sl bL (reE (fl bL) x1_5), .sl bL (reE (fl bL) x1_6), .sl bL (reE (fl bL) x1_7), .sl bL (reE (fl bL) x1_8), .bool x1_9, .sl bL (reE (fl bL) x1_10)]]) (W := W) (vals := #[.agg a0, .agg a1]) rfl rfl ?_ fun act on => ?_).mono fun e W' ⟨he, bel⟩ => ?_
  · intro j x v hx hv
    rcases j with _ | _ | j
    · simp only [List.getElem?_cons_zero, List.getElem?_cons_succ, Option.some.injEq] at hx; simp at hv; subst hx hv
      simp only [reL, reF] at rep0
      have h : ∃ vs, Value.agg a0 = .agg vs ∧ dE W (tI W) (N0 W (KOf ev0 ev1)) _ vs.toList := ⟨a0, rfl, rep0⟩
      simpa only [aZ, eG] using h
    · simp only [List.getElem?_cons_zero, List.getElem?_cons_succ, Option.some.injEq] at hx; simp at hv; subst hx hv
      simp only [reL, reF] at rep1
      have h : ∃ vs, Value.agg a1 = .agg vs ∧ dE W (tI W) (N0 W (KOf ev0 ev1)) _ vs.toList := ⟨a1, rfl, rep1⟩
      simpa only [aZ, eG] using h
    · simp at hx
  · have e : aA1 (sK Tryz.prog F.aV5) [.agg [.sl bL (reE (fl bL) x0_0), .sl bL (reE (fl bL) x0_1), .sl bL (reE (fl bL) x0_2)], .agg [.int .i64 x1_0, .bool x1_1, .str x1_2, .str x1_3, .sl bL (reE (fl bL) x1_4), .sl bL (reE (fl bL) x1_5), .sl bL (reE (fl bL) x1_6), .sl bL (reE (fl bL) x1_7), .sl bL (reE (fl bL) x1_8), .bool x1_9, .sl bL (reE (fl bL) x1_10)]] [] = lJ bL (reE (fl bL) x0_0) bL (reE (fl bL) x0_1) bL (reE (fl bL) x0_2) x1_0 x1_1 x1_2 x1_3 bL (reE (fl bL) x1_4) bL (reE (fl bL) x1_5) bL (reE (fl bL) x1_6) bL (reE (fl bL) x1_7) bL (reE (fl bL) x1_8) x1_9 bL (reE (fl bL) x1_10) := by kernel_rfl
    rw [e] at on
    exact aUS (aVM i0) (aVC i1) (aVd i0 i1) hE hK on
  · subst he
    have h0'' : DataW.Trod enc Tryz.prog W' 0 (fun b => decide (b < W.heap.size)) true 25 (.agg a0) d0 p0 :=
      WideElems.Trod_stays (by kernel_rfl) (by kernel_rfl) (of_decide_eq_true (by kernel_rfl)) h0' (fun p hp => bel.same (hW'.lt p (by simp [hp]))) (fun p hp => by simpa using hW'.lt p (by simp [hp]))
    have h1'' : DataW.Trod enc Tryz.prog W' 0 (fun b => decide (b < W.heap.size)) true 65 (.agg a1) d1 p1 :=
      WideElems.Trod_stays (by kernel_rfl) (by kernel_rfl) (of_decide_eq_true (by kernel_rfl)) h1' (fun p hp => bel.same (hW'.lt p (by simp [hp]))) (fun p hp => by simpa using hW'.lt p (by simp [hp]))
    exact ⟨_, rfl, _, _, _, [], _, [], hW', trodAll_mk1 (shut_bool Tryz.underlying4 _), (trodAll_cons_mk h0'' (trodAll_cons_mk h1'' trodAll_mk0)), rfl, bel.frame _, fun h => by cases h⟩
theorem over : Rows.fnExactTypeProblemsRow.holds Tryz.pinned (OpenSpec.ofChange Rows.fnExactTypeProblemsSpec) :=
  OpenClaim.holds_of_wide 6 Tryz.f6 rfl rfl rfl rfl rfl rfl rfl ⟨rfl, rfl, rfl, rfl, rfl⟩ rfl rfl rfl rfl rfl o1 Tryz.func6 o2 o3 o4
    (fun os started H enc _ => lifted os started H enc)
theorem card : Rows.FnExactTypeProblemsCardSaid :=
  Claim7.holds_tied_plain_at .later [] [.data, .data, .data, .sentinel, .sentinel] true (true, "5ad46102c45ff6bffeb10fb58075d915bcd3a97651c8d3f86c01f8d959166f94") true
    over (fun _ h => by cases h) (by kernel_rfl) (fun _ h => by cases h) fnExactTypeProblems_row_tie rfl ⟨rfl, rfl⟩ (by kernel_rfl) rfl
    (fun f fn hf hfn => by
      obtain rfl : f = 6 := Option.some.inj ((show Tryz.prog.funcNamed "loop.example/g00964/laws.FnExactTypeProblems" = some 6 by kernel_rfl).symm.trans hf) |>.symm
      obtain rfl : fn = Tryz.f6 := (Option.some.inj (Tryz.func6.symm.trans hfn)).symm
      exact ⟨by kernel_rfl, fun j t ht => by
        rw [Tryz.params6] at ht
        have hm : t ∈ [25, 65] := by simpa using Array.mem_of_getElem? ht
        have hall : ([25, 65].all fun u => !Tryz.prog.wantsStandIn u) = true := by kernel_rfl
        exact (show Tryz.prog.wantsStandIn t = false by simpa using List.all_eq_true.1 hall t hm)⟩)
    (by kernel_rfl)
theorem proved : Rows.FnExactTypeProblemsCardSaid := card
#print axioms proved
end Go.Proofs.YtndacingbfeonaaGreatDoor.fnExactTypeProblems
namespace Go.Proofs.YtndacingbfeonaaGreatDoor
/-- The row, under a short name, for the claim. -/
theorem fnExactTypeProblems_holds : Rows.FnExactTypeProblemsCardSaid := fnExactTypeProblems.proved
end Go.Proofs.YtndacingbfeonaaGreatDoor
