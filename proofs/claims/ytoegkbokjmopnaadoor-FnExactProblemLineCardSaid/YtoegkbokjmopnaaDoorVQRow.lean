/- laws.FnExactProblemLine answers true for all arguments, and what was handed in reads as before; no condition. -/
import Derived.Test.YtoegkbokjmopnaaDoorRows
import Derived.Test.YtoegkbokjmopnaaDoorTie
import Derived.Test.YtoegkbokjmopnaaDoorCards
import Derived.LaidMore
import Derived.LaidHandle
import Derived.Stop.Joined
import Derived.SevenTiedAt
import Derived.WalkKit
import Derived.ProofKit
import Derived.OpenShut
import Derived.ShutString
import Derived.ChangeOld
import Derived.ChangeArms
import Derived.ChangeSame
import Derived.Below
import Derived.SizedLaws
import Derived.WideKeyArgs
import Derived.Test.YtoegkbokjmopnaaDoorVB5
import Derived.Test.YtoegkbokjmopnaaDoorVB6
namespace Go.Proofs.YtoegkbokjmopnaaDoor.fnExactProblemLine
open Go.ChangeShapes Go.WideShapes Go.ChangeAt Go.RowKit Go.Vs
open Go.ChangeMaps (open_string shut_string)
set_option linter.unusedVariables false
set_option linter.unusedSimpArgs false
theorem own : ownKnob Tryd.prog.godebug = none := by kernel_rfl
theorem hP : Tryd.prog.follows .mixedOrders = true := by kernel_rfl
theorem hG : Tryd.prog.funcs.all (fun fn => !(fn.name == "runtime.NumGoroutine")) = true := by kernel_rfl
theorem dsound {W : World} : DSound Tryd.prog (N0 W KOf BOf) Dn := den_sound hP hG (told_sound rfl rfl) Hs
theorem tys : [23, 3, 9].all (tyOk Tryd.prog [23, 3, 9]) = true := by kernel_rfl
theorem problem_of {n : Nat} {ls : List (Leaf false)} (h : Shaped Tryd.prog fP n 23 ls) : ∃ (z : Int) (a b : ByteArray), ls = [.int .i64 z, .str a, .str b] ∧ (-9223372036854775808 ≤ z ∧ z ≤ 9223372036854775807) ∧ a.size ≤ maxLen ∧ b.size ≤ maxLen := by
  cases n with
  | zero => exact h.elim
  | succ n =>
    unfold Shaped at h
    simp only [Tryd.underlying23, List.map_cons, List.map_nil, Parts] at h
    obtain ⟨a, _, rfl, ha, b, _, rfl, hb, c, _, rfl, hc, rfl⟩ := h
    cases n with
    | zero => exact ha.elim
    | succ n =>
      unfold Shaped at ha hb hc
      simp only [Tryd.underlying3, Tryd.underlying9] at ha hb hc
      obtain ⟨z, rfl, hz⟩ := ha
      obtain ⟨s, rfl, hs⟩ := hb
      obtain ⟨u, rfl, hu⟩ := hc
      refine ⟨z, s, u, rfl, ?_, hs, hu⟩
      simp only [Lit.wf, Bool.and_eq_true, decide_eq_true_eq] at hz
      exact ⟨Int.le_trans (by decide) hz.1, Int.le_trans hz.2 (by decide)⟩
theorem cE : Tryd.prog.cellsOf 62 = 1 := by kernel_rfl
theorem cT : Tryd.prog.cellsOf 70 = 20 := by kernel_rfl
theorem tT : (Tryd.prog.globals[1]?).map (·.type) = some 70 := by kernel_rfl
theorem uT : Tryd.prog.underlying 62 = some (.int .u64) := by kernel_rfl
theorem dT : (Rows.laid_internal_strconv_uint64pow10 : DataW Unit) = Lib.tabData .u64 Lib.pow10Tab := by rfl
/-- The door's own heap meets the condition. -/
theorem door_met (os : Os) (args : Array Value) : laidMetH Tryd.prog Rows.fnExactProblemLineRow.laid ((World.doorLaid Tryd.prog 400 os).forCall (fun _ _ => 0) ⟨#[], args, []⟩).memory :=
  laidMetH_of_parts3 (fuel := 8) (laidMet_of_run' 8 (by kernel_rfl) (by kernel_rfl)) (by kernel_rfl) (by kernel_rfl)
/-- What the condition gives: the table of the powers of ten. -/
theorem of_laid {W : World} (h : laidMetH Tryd.prog Rows.fnExactProblemLineRow.laid W) : Lib.TabIs Tryd.prog W "internal/strconv.uint64pow10" .u64 Lib.pow10Tab := by
  rw [MakeChecks.laidMetH_plain _ _ _ (by kernel_rfl)] at h
  obtain ⟨ps, h, _⟩ := h
  exact laid_tab gT tT Tryd.underlying70 uT cE cT h (by rw [← dT]; simp [Rows.fnExactProblemLineRow])
set_option maxRecDepth 100000 in
theorem lifted (os : Os) (started : os.Started) (H : Type) (enc : TypeId × Value → H) :
    ReturnsInHanded {} Tryd.checked os 3 .any (fun w args => (Rows.fnExactProblemLineSpec.pre enc Tryd.prog Tryd.f3 [] false w args ∧ laidMetH Tryd.prog Rows.fnExactProblemLineRow.laid w) ∧ sizedMet enc Tryd.prog Tryd.f3 (OpenSpec.ofChange Rows.fnExactProblemLineSpec) false w args)
      (Rows.fnExactProblemLineSpec.post enc Tryd.prog Tryd.f3 false true false false) := by
  refine returnsInHanded_of_change_and (C := Tryd.checked) (X := fun w _ => laidMetH Tryd.prog Rows.fnExactProblemLineRow.laid w) (fun _ _ _ hh h => h.of_heap hh) own started (by kernel_rfl) Tryd.func3
    (ChangeSpec.witness_shaped (enc := enc) (C := Tryd.checked) (os := os) (X := fun w _ => laidMetH Tryd.prog Rows.fnExactProblemLineRow.laid w) false (World.doorLaid Tryd.prog 400 os) #[.agg #[.int .i64 0, .string ⟨#[]⟩, .string ⟨#[]⟩]] 8 rfl (World.shaped_of_RefB (by kernel_rfl) (by kernel_rfl)) (by kernel_rfl) (by kernel_rfl) (by kernel_rfl) (door_met os _)) ?_
  intro W base args ds gs before hval0 hW hcnd hsz0 hL _
  have hval : ∀ (j : Nat) t v, Tryd.f3.params[j]? = some t → args[j]? = some v → Value.okWide Tryd.prog W .any base t v := hval0
  have hW' := hW
  have hT := of_laid hL
  have hK : KOk W KOf := tab_know gT hT
  have hB : ∀ p ∈ BOf, BSz W p.1 p.2 := fun p hp => by
    obtain rfl : p = (1, 20) := List.mem_singleton.1 hp
    have := tab_size gT hT
    rwa [Lib.pow10Tab_length] at this
  obtain ⟨p, q, hA0, hV, rfl, hfz, hnd⟩ := hW
  have hA : DataW.TrodAll enc Tryd.prog W 0 (fun _ => true) true Tryd.f3.params.toList args.toList ds p := hA0
  rw [Tryd.params3] at hA hval
  obtain ⟨v0, vs0, d0, ds0, p0, q0, hargs, rfl, rfl, h0, r0⟩ := trodAll_cons hA
  obtain ⟨rfl, rfl, rfl⟩ := trodAll_nil r0
  obtain rfl : args = #[v0] := by cases args; simp_all
  obtain ⟨rfl, rfl⟩ := trodVars_none hV
  obtain ⟨a0, rfl, _⟩ := okWide_struct Tryd.underlying23 (hval 0 23 v0 rfl rfl)
  have h0' := h0
  obtain ⟨fuel, hf⟩ := h0
  obtain ⟨ls, hr, hs⟩ := trod_rep (m := false) (c := fP) (N := N0 W KOf BOf) (F := sealW W) (fun _ _ => trivial) rfl (fun g j v h => sealW_lt h) (fun g => rfl) tys fuel 23 _ _ (by simp) hf
  obtain ⟨z, a, b, rfl, hz, ha, hb⟩ := problem_of hs
  refine (law_calls (K := KOf) (B := BOf) dsound (d_law hz.1 hz.2 ha hb) rfl (W := W) (vals := #[.agg a0]) rfl (fun j x v hx hv => ?_) hK hB).mono fun e W' ⟨v, F', Ow', bm, al, he, hv, bel⟩ => ?_
  · cases j with
    | zero =>
      simp only [List.getElem?_cons_zero, Option.some.injEq] at hx; simp at hv; subst hx hv
      have h : ∃ vs, Value.agg a0 = .agg vs ∧ RepR W (sealW W) (N0 W KOf BOf) _ vs.toList := ⟨a0, rfl, hr⟩
      simpa only [RepS, RepF] using h
    | succ j => simp at hx
  obtain rfl : v = .bool true := by cases hv; rfl
  subst he
  have h0'' : DataW.Trod enc Tryd.prog W' 0 (fun b => decide (b < W.heap.size)) true 23 (.agg a0) d0 p0 :=
    WideElems.Trod_stays (by kernel_rfl) (by kernel_rfl) (of_decide_eq_true (by kernel_rfl)) h0' (fun p hp => bel.same (hW'.lt p (by simpa using hp))) (fun p hp => by simpa using hW'.lt p (by simpa using hp))
  exact ⟨_, rfl, _, _, _, [], _, [], hW', trodAll_mk1 (shut_bool Tryd.underlying4 _), (trodAll_cons_mk h0'' trodAll_mk0), rfl, bel.frame _, fun h => by cases h⟩
theorem over : Rows.fnExactProblemLineRow.holds Tryd.pinned (OpenSpec.ofChange Rows.fnExactProblemLineSpec) :=
  OpenClaim.holds_of_wide 3 Tryd.f3 rfl rfl rfl rfl rfl rfl rfl ⟨rfl, rfl, rfl, rfl, rfl⟩ rfl rfl rfl rfl rfl o1 Tryd.func3 o2 o3 o4
    (fun os started H enc _ => lifted os started H enc)
theorem card : Rows.FnExactProblemLineCardSaid :=
  Claim7.holds_tied_plain_at .later [] [.data, .data, .data] true (true, "1d82c346d234dc322dd333fb68131eb23df09f000a6462b3b873c60391f3b5d2") false
    over (fun _ h => by cases h) (by kernel_rfl) (fun _ h => by cases h) fnExactProblemLine_row_tie rfl ⟨rfl, rfl⟩ (by kernel_rfl) rfl
    (fun f fn hf hfn => by
      obtain rfl : f = 3 := Option.some.inj ((show Tryd.prog.funcNamed "loop.example/g00964/laws.FnExactProblemLine" = some 3 by kernel_rfl).symm.trans hf) |>.symm
      obtain rfl : fn = Tryd.f3 := (Option.some.inj (Tryd.func3.symm.trans hfn)).symm
      exact ⟨by kernel_rfl, fun j t ht => by
        rw [Tryd.params3] at ht
        have hm : t ∈ [23] := by simpa using Array.mem_of_getElem? ht
        have hall : ([23].all fun u => !Tryd.prog.wantsStandIn u) = true := by kernel_rfl
        exact (show Tryd.prog.wantsStandIn t = false by simpa using List.all_eq_true.1 hall t hm)⟩)
    (by kernel_rfl)
theorem proved : Rows.FnExactProblemLineCardSaid := card
#print axioms proved
end Go.Proofs.YtoegkbokjmopnaaDoor.fnExactProblemLine
namespace Go.Proofs.YtoegkbokjmopnaaDoor
/-- The row, under a short name, for the claim. -/
theorem fnExactProblemLine_holds : Rows.FnExactProblemLineCardSaid := fnExactProblemLine.proved
end Go.Proofs.YtoegkbokjmopnaaDoor
