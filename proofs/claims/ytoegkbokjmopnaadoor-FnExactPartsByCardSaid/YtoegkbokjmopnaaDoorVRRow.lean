/- laws.FnExactPartsBy answers true for all arguments, and what was handed in reads as before; no condition. -/
import Derived.Test.YtoegkbokjmopnaaDoorRows
import Derived.Test.YtoegkbokjmopnaaDoorTie
import Derived.Test.YtoegkbokjmopnaaDoorCards
import Derived.LaidMore
import Derived.LaidHandle
import Derived.Stop.Joined
import Derived.SevenTiedAt
import Derived.Lay
import Derived.WalkKit
import Derived.ProofKit
import Derived.OpenShut
import Derived.ShutString
import Derived.ChangeOld
import Derived.ChangeArms
import Derived.ChangeSame
import Derived.Below
import Derived.SizedLaws
import Derived.WideKeyArgs
import Derived.Test.YtoegkbokjmopnaaDoorVB5
import Derived.Test.YtoegkbokjmopnaaDoorVB6
namespace Go.Proofs.YtoegkbokjmopnaaDoor.fnExactPartsBy
open Go.ChangeShapes Go.WideShapes Go.ChangeAt Go.RowKit Go.Vs
open Go.ChangeMaps (open_string shut_string)
set_option linter.unusedVariables false
set_option linter.unusedSimpArgs false
theorem own : ownKnob Tryd.prog.godebug = none := by kernel_rfl
theorem tys : [9].all (tyOk Tryd.prog [9]) = true := by kernel_rfl
theorem reOk0 {W : World} {K : Known} : ReOk li W (sealW W) (N0 W K) (sealW W) (N0 W K) := reOk_plain (fun c g o => old_holds) (fun c => rfl)
/-- As the kit's way in, and the world's shape is handed on. -/
theorem way_in {H : Type} {enc : TypeId × Value → H} {a : Assume} {C : Checked} {os : Os} {f : FuncId} {fn : Func} {s : ChangeSpec} {conds : List PathCond} {apart fresh handsOn again : Bool} {X : World → Array Value → Prop}
    (hX : ∀ (w w' : World) (args : Array Value), w.heap = w'.heap → X w args → X w' args)
    (own : ownKnob C.prog.godebug = none) (started : os.Started) (noInit : C.prog.inits.idxOf? f = none) (hfn : C.prog.funcs[f]? = some fn)
    (witness : ∃ (w : World) (tape : Tape) (i : Input), w.os = os ∧ (w.forCall tape i).Shaped C.prog ∧ i.vars = [] ∧ Input.okWide C.prog (w.forCall tape i) .any w.heap.size f i ∧
      ((s.pre enc C.prog fn conds apart (w.forCall tape i).memory i.args ∧ X (w.forCall tape i).memory i.args) ∧ sizedMet enc C.prog fn (OpenSpec.ofChange s) apart (w.forCall tape i).memory i.args) ∧ a.holds C.prog (lone (Frame.enter C.prog f i.args .normal) [] (w.forCall tape i)))
    (contract : ∀ (W : World) (base : Nat) (args : Array Value) (ds gs : List (DataW H)) (before : List MemPlace), W.ShapedOpen C.prog →
      (∀ (j : Nat) t v, fn.params[j]? = some t → args[j]? = some v → Value.okWide C.prog W .any base t v) →
      DataW.Whole enc C.prog fn.params.toList s.vars apart W args.toList ds gs before →
      Calls C.prog f args W fun e W' => ∃ v, e = .returned v ∧ s.post enc C.prog fn apart fresh handsOn again W args v W') :
    ReturnsInHanded a C os f .any (fun w args => (s.pre enc C.prog fn conds apart w args ∧ X w args) ∧ sizedMet enc C.prog fn (OpenSpec.ofChange s) apart w args) (s.post enc C.prog fn apart fresh handsOn again) := by
  refine returnsInHanded_of_calls own started noInit witness ?_
  intro w tape i _ hsh _ hok hpre _
  obtain ⟨_, _, _, fn', hfn', _, _, _, _, hval⟩ := hok
  have e : fn' = fn := Option.some.inj (hfn'.symm.trans hfn)
  subst e
  obtain ⟨⟨⟨ds, gs, before, hw, hc⟩, hx⟩, hz⟩ := hpre
  have hw' := DataW.Whole.of_heap (w' := w.forCall tape i) (by rfl) hw
  refine (contract (w.forCall tape i) w.heap.size i.args ds gs before hsh hval hw').mono fun e W' ⟨v, he, hp⟩ => ?_
  subst he
  exact ChangeSpec.post_blind hp
/-- What the condition gives: a number in the library's variable. -/
theorem of_shape {W : World} (h : W.ShapedOpen Tryd.prog) : ∃ mx, KOk W (KOf mx) := by
  obtain ⟨mx, hm⟩ := Tryd.laysM146.s1_3 W h
  refine ⟨mx, fun k hk => ?_⟩
  obtain rfl : k = ((0, 0), .int .i64 mx) := List.mem_singleton.1 hk
  exact ⟨sealW_lt hm, hm⟩
set_option maxRecDepth 100000 in
theorem lifted (os : Os) (started : os.Started) (H : Type) (enc : TypeId × Value → H) :
    ReturnsInHanded {} Tryd.checked os 4 .any (fun w args => (Rows.fnExactPartsBySpec.pre enc Tryd.prog Tryd.f4 [] false w args ∧ laidMetH Tryd.prog Rows.fnExactPartsByRow.laid w) ∧ sizedMet enc Tryd.prog Tryd.f4 (OpenSpec.ofChange Rows.fnExactPartsBySpec) false w args)
      (Rows.fnExactPartsBySpec.post enc Tryd.prog Tryd.f4 false true false false) := by
  refine way_in (C := Tryd.checked) (X := fun w _ => laidMetH Tryd.prog Rows.fnExactPartsByRow.laid w) (fun _ _ _ hh h => h.of_heap hh) own started (by kernel_rfl) Tryd.func4
    (ChangeSpec.witness_shaped (enc := enc) (C := Tryd.checked) (os := os) (X := fun w _ => laidMetH Tryd.prog Rows.fnExactPartsByRow.laid w) false (World.laidAll Tryd.prog os Rows.fnExactPartsByRow.laid) #[.string ⟨#[]⟩] 8 (World.laidAll_os _ _ _)
      (World.shaped_of_ZipB (by kernel_rfl) (by kernel_rfl)) (by kernel_rfl) (by kernel_rfl) (by kernel_rfl)
      (by rw [MakeChecks.laidMetH_plain _ _ _ (by kernel_rfl)]; exact laidMet_laidAll _ (by kernel_rfl) (by kernel_rfl))) ?_
  intro W base args ds gs before hsh hval0 hW
  have hval : ∀ (j : Nat) t v, Tryd.f4.params[j]? = some t → args[j]? = some v → Value.okWide Tryd.prog W .any base t v := hval0
  have hW' := hW
  obtain ⟨mx, hK⟩ := of_shape hsh
  obtain ⟨p, q, hA0, hV, rfl, hfz, hnd⟩ := hW
  have hA : DataW.TrodAll enc Tryd.prog W 0 (fun _ => true) true Tryd.f4.params.toList args.toList ds p := hA0
  rw [Tryd.params4] at hA hval
  obtain ⟨v0, vs0, d0, ds0, p0, q0, hargs, rfl, rfl, h0, r0⟩ := trodAll_cons hA
  obtain ⟨rfl, rfl, rfl⟩ := trodAll_nil r0
  obtain rfl : args = #[v0] := by cases args; simp_all
  obtain ⟨rfl, rfl⟩ := trodVars_none hV
  obtain ⟨b0, rfl⟩ := okWide_string Tryd.underlying9 (hval 0 9 v0 rfl rfl)
  have h0' := h0
  obtain ⟨fuel0, hf0⟩ := h0
  obtain ⟨ls0, hr0, hs0⟩ := trod_rep (m := false) (c := fP) (N := N0 W (KOf mx)) (F := sealW W) (fun _ _ => trivial) rfl (fun g j v h => sealW_lt h) (fun g => rfl) tys fuel0 9 _ _ (by simp) hf0
  obtain ⟨x0, rfl, l0⟩ := sh_str Tryd.underlying9 hs0
  have rep0 := hr0.re reOk0
  refine (law_on (hK := hK) hfn hc0 (args := [(.leaf (.str x0) : SV true)]) (W := W) (vals := #[.string b0]) rfl rfl ?_ fun act on => ?_).mono fun e W' ⟨he, bel⟩ => ?_
  · intro j x v hx hv
    rcases j with _ | j
    · simp only [List.getElem?_cons_zero, Option.some.injEq] at hx; simp at hv; subst hx hv
      exact RepS.leaf (rep0.2 0 _ _ rfl rfl)
    · simp at hx
  · have e : enterV (fnOf Tryd.prog F.laws_FnExactPartsBy) [(.leaf (.str x0) : SV true)] [] = laws_FnExactPartsBy_s0 x0 := by kernel_rfl
    rw [e] at on
    exact law_c0 hK on
  · subst he
    have h0'' : DataW.Trod enc Tryd.prog W' 0 (fun b => decide (b < W.heap.size)) true 9 (.string b0) d0 p0 :=
      WideElems.Trod_stays (by kernel_rfl) (by kernel_rfl) (of_decide_eq_true (by kernel_rfl)) h0' (fun p hp => bel.same (hW'.lt p (by simp [hp]))) (fun p hp => by simpa using hW'.lt p (by simp [hp]))
    exact ⟨_, rfl, _, _, _, [], _, [], hW', trodAll_mk1 (shut_bool Tryd.underlying4 _), (trodAll_cons_mk h0'' trodAll_mk0), rfl, bel.frame _, fun h => by cases h⟩
theorem over : Rows.fnExactPartsByRow.holds Tryd.pinned (OpenSpec.ofChange Rows.fnExactPartsBySpec) :=
  OpenClaim.holds_of_wide 4 Tryd.f4 rfl rfl rfl rfl rfl rfl rfl ⟨rfl, rfl, rfl, rfl, rfl⟩ rfl rfl rfl rfl rfl o1 Tryd.func4 o2 o3 o4
    (fun os started H enc _ => lifted os started H enc)
theorem card : Rows.FnExactPartsByCardSaid :=
  Claim7.holds_tied_plain_at .later [] [.data, .pinned] true (true, "1d82c346d234dc322dd333fb68131eb23df09f000a6462b3b873c60391f3b5d2") false
    over (fun _ h => by cases h) (by kernel_rfl) (fun _ h => by cases h) fnExactPartsBy_row_tie rfl ⟨rfl, rfl⟩ (by kernel_rfl) rfl
    (fun f fn hf hfn => by
      obtain rfl : f = 4 := Option.some.inj ((show Tryd.prog.funcNamed "loop.example/g00964/laws.FnExactPartsBy" = some 4 by kernel_rfl).symm.trans hf) |>.symm
      obtain rfl : fn = Tryd.f4 := (Option.some.inj (Tryd.func4.symm.trans hfn)).symm
      exact ⟨by kernel_rfl, fun j t ht => by
        rw [Tryd.params4] at ht
        have hm : t ∈ [9] := by simpa using Array.mem_of_getElem? ht
        have hall : ([9].all fun u => !Tryd.prog.wantsStandIn u) = true := by kernel_rfl
        exact (show Tryd.prog.wantsStandIn t = false by simpa using List.all_eq_true.1 hall t hm)⟩)
    (by kernel_rfl)
theorem proved : Rows.FnExactPartsByCardSaid := card
#print axioms proved
end Go.Proofs.YtoegkbokjmopnaaDoor.fnExactPartsBy
namespace Go.Proofs.YtoegkbokjmopnaaDoor
/-- The row, under a short name, for the claim. -/
theorem fnExactPartsBy_holds : Rows.FnExactPartsByCardSaid := fnExactPartsBy.proved
end Go.Proofs.YtoegkbokjmopnaaDoor
