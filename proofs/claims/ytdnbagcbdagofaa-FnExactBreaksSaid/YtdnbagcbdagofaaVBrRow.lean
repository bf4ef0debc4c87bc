/- laws.FnExactBreaks answers true for every slice of changes, and what was handed in reads as before; no condition. -/
import Derived.Test.YtdnbagcbdagofaaVBrT
import Derived.Test.YtdnbagcbdagofaaVVsRow
import Derived.Test.YtdnbagcbdagofaaRows
import Derived.WalkKit
import Derived.ProofKit
import Derived.OpenShut
import Derived.ShutString
import Derived.ChangeOld
import Derived.ChangeArms
import Derived.ChangeSame
import Derived.Below
import Derived.SizedLaws
import Derived.WideKeyArgs
namespace Go.Proofs.Ytdnbagcbdagofaa.fnExactBreaks
open Go.ChangeShapes Go.WideShapes Go.ChangeAt Go.RowKit Go.Vs
open Go.ChangeMaps (open_string shut_string)
set_option linter.unusedVariables false
set_option linter.unusedSimpArgs false
theorem own : ownKnob Try.prog.godebug = none := by kernel_rfl
theorem hP : Try.prog.follows .mixedOrders = true := by kernel_rfl
theorem hG : Try.prog.funcs.all (fun fn => !(fn.name == "runtime.NumGoroutine")) = true := by kernel_rfl
theorem dsound : DSound Try.prog Dn := den_sound hP hG tsound_none Hs
theorem tys : [32, 26, 3, 9].all (tyOk Try.prog [32, 26, 3, 9]) = true := by kernel_rfl
/-- A change's leaves. -/
theorem change_of {n : Nat} {ls : List (Leaf false)} (h : Shaped Try.prog fP n 26 ls) : ∃ c : Ch, ls = c.enc ∧ (Lit.int .i64 c.code).wf = true ∧ c.Ok := by
  cases n with
  | zero => exact h.elim
  | succ n =>
    unfold Shaped at h
    simp only [Try.underlying26, List.map_cons, List.map_nil, Parts] at h
    obtain ⟨a, _, rfl, ha, b, _, rfl, hb, c, _, rfl, hc, rfl⟩ := h
    cases n with
    | zero => exact ha.elim
    | succ n =>
      unfold Shaped at ha hb hc
      simp only [Try.underlying3, Try.underlying9] at ha hb hc
      obtain ⟨z, rfl, hz⟩ := ha
      obtain ⟨s, rfl, hs⟩ := hb
      obtain ⟨u, rfl, hu⟩ := hc
      exact ⟨⟨z, s, u⟩, rfl, hz, hs, hu⟩
theorem all_of {α β : Type} {p : α → Prop} {f : β → α} {q : β → Prop} (h : ∀ a, p a → ∃ b, a = f b ∧ q b) : ∀ l : List α, (∀ a ∈ l, p a) → ∃ l' : List β, l = l'.map f ∧ ∀ b ∈ l', q b
  | [], _ => ⟨[], rfl, by simp⟩
  | a :: l, hl => by
    obtain ⟨b, rfl, hq⟩ := h a (hl a (by simp))
    obtain ⟨l', rfl, hl'⟩ := all_of h l fun a ha => hl a (by simp [ha])
    exact ⟨b :: l', rfl, fun x hx => by
      rcases List.mem_cons.1 hx with rfl | hx
      · exact hq
      · exact hl' x hx⟩
theorem changes_of {n : Nat} {ls : List (Leaf false)} (h : Shaped Try.prog fP n 32 ls) : ∃ cs : List Ch, ls = [.sl fP (cs.map Ch.enc)] ∧ cs.length ≤ maxLen ∧ ∀ c ∈ cs, c.Ok := by
  cases n with
  | zero => exact h.elim
  | succ n =>
    unfold Shaped at h
    simp only [Try.underlying32] at h
    obtain ⟨es, rfl, hl, hs⟩ := h
    obtain ⟨cs, rfl, hc⟩ := all_of (q := fun c : Ch => c.Ok) (fun ls h => let ⟨c, e, _, ok⟩ := change_of h; ⟨c, e, ok⟩) es hs
    exact ⟨cs, rfl, by simpa using hl, hc⟩

set_option maxRecDepth 100000 in
theorem lifted (os : Os) (started : os.Started) (H : Type) (enc : TypeId × Value → H) :
    ReturnsInHanded {} Try.checked os 6 .any (Rows.fnExactBreaksSpec.pre6 enc Try.prog Try.f6 Rows.fnExactBreaksRow.domain false) (Rows.fnExactBreaksSpec.post enc Try.prog Try.f6 false true false false) := by
  refine returnsInHanded_of_change_sized (C := Try.checked) own started (by kernel_rfl) Try.func6
    (ChangeSpec.witness6 (enc := enc) (C := Try.checked) false ⟨#[], #[.slice none 0 0], []⟩ 8 (by kernel_rfl) (by kernel_rfl) (by kernel_rfl) (by kernel_rfl)) ?_
  intro W base args ds gs before hval0 hW hcnd hsz0 _
  have hval : ∀ (j : Nat) t v, Try.f6.params[j]? = some t → args[j]? = some v → Value.okWide Try.prog W .any base t v := hval0
  have hW' := hW
  obtain ⟨p, q, hA0, hV, rfl, hfz, hnd⟩ := hW
  have hA : DataW.TrodAll enc Try.prog W 0 (fun _ => true) true Try.f6.params.toList args.toList ds p := hA0
  rw [Try.params6] at hA hval
  obtain ⟨v0, vs0, d0, ds0, p0, q0, hargs, rfl, rfl, h0, r0⟩ := trodAll_cons hA
  obtain ⟨rfl, rfl, rfl⟩ := trodAll_nil r0
  obtain rfl : args = #[v0] := by cases args; simp_all
  obtain ⟨rfl, rfl⟩ := trodVars_none hV
  obtain ⟨A, len, cap, rfl⟩ := okWide_slice Try.underlying32 (hval 0 32 v0 rfl rfl)
  have h0' := h0
  obtain ⟨fuel, hf⟩ := h0
  obtain ⟨ls, hr, hs⟩ := trod_rep (m := false) (c := fP) (N := N0 W) (F := sealW W) rfl rfl (fun g j v h => sealW_lt h) (fun g => rfl) tys fuel 32 _ _ (by simp) hf
  obtain ⟨cs, rfl, hl, hc⟩ := changes_of hs
  have hrep : RepL W (sealW W) (N0 W) (.sl fP (cs.map Ch.enc)) (.slice A len cap) := hr.2 0 _ _ rfl rfl
  refine (law_calls dsound (d_laws_FnExactBreaks hc hl) rfl (W := W) (vals := #[.slice A len cap]) rfl ?_).mono fun e W' ⟨v, F', Ow', bm, al, he, hv, bel⟩ => ?_
  · intro j a v ha hv
    cases j with
    | zero => simp only [List.getElem?_cons_zero, Option.some.injEq] at ha; simp at hv; subst ha hv; exact hrep
    | succ j => simp at ha
  obtain rfl : v = .bool true := by cases hv; rfl
  subst he
  have h0'' : DataW.Trod enc Try.prog W' 0 (fun b => decide (b < W.heap.size)) true 32 (.slice A len cap) d0 p0 :=
    WideElems.Trod_stays (by kernel_rfl) (by kernel_rfl) (of_decide_eq_true (by kernel_rfl)) h0' (fun p hp => bel.same (hW'.lt p (by simpa using hp))) (fun p hp => by simpa using hW'.lt p (by simpa using hp))
  exact ⟨_, rfl, _, _, _, [], _, [], hW', trodAll_mk1 (shut_bool Try.underlying4 _), (trodAll_cons_mk h0'' trodAll_mk0), rfl, bel.frame _, fun h => by cases h⟩
theorem over : Rows.fnExactBreaksRow.holds Try.pinned (OpenSpec.ofChange Rows.fnExactBreaksSpec) :=
  OpenClaim.holds_of_wide 6 Try.f6 rfl rfl rfl rfl rfl rfl rfl ⟨rfl, rfl, rfl, rfl, rfl⟩ rfl rfl rfl rfl rfl (by kernel_rfl) Try.func6 (by kernel_rfl)
    (of_decide_eq_true (by kernel_rfl)) (by unfold Func.isWrapper; first | (rw [if_pos (by decide +kernel)]; kernel_rfl) | (rw [if_neg (by decide +kernel)]; exact ⟨rfl, rfl⟩))
    (fun os started H enc _ => lifted os started H enc)
theorem proved : Rows.FnExactBreaksSaid := over
#print axioms proved
end Go.Proofs.Ytdnbagcbdagofaa.fnExactBreaks
namespace Go.Proofs.Ytdnbagcbdagofaa
/-- The row, under a short name, for the claim. -/
theorem fnExactBreaks_holds : Rows.FnExactBreaksSaid := fnExactBreaks.proved
end Go.Proofs.Ytdnbagcbdagofaa
