/- laws.FnExactChangeLine answers true for every change, and what was handed in reads as before; no condition. -/
import Derived.Test.YtdnbagcbdagofaaRows
import Derived.Test.YtdnbagcbdagofaaPFnExactChangeLinex3
import Derived.Test.YtdnbagcbdagofaaPureFnExactChangeLine
import Derived.WalkKit
import Derived.ProofKit
import Derived.OpenShut
import Derived.ShutString
import Derived.ChangeOld
import Derived.ChangeArms
import Derived.ChangeSame
import Derived.Below
import Derived.SizedLaws
namespace Go.Proofs.Ytdnbagcbdagofaa.fnExactChangeLine
open Go.ChangeShapes Go.WideShapes Go.ChangeAt Go.RowKit
open Go.ChangeMaps (open_string shut_string)
set_option linter.unusedVariables false
set_option linter.unusedSimpArgs false
theorem own : ownKnob Try.prog.godebug = none := by kernel_rfl

/-- A change that is handed in: a number and two texts. -/
theorem open_change {H : Type} {enc : TypeId × Value → H} {W : World} {base b0 : Nat} {sp : Nat → Bool} {v0 : Value} {d0 : DataW H} {p0 : List MemPlace}
    (hv : Value.okWide Try.prog W .any b0 26 v0) (h : DataW.Trod enc Try.prog W base sp true 26 v0 d0 p0) :
    ∃ (a0 : Int) (a1 a2 : ByteArray), v0 = .agg #[.int .i64 a0, .string a1, .string a2] ∧ (Lit.int .i64 a0).wf = true ∧ a1.size ≤ maxLen ∧ a2.size ≤ maxLen ∧
      d0 = .agg [.lit (.int .i64 a0), .lit (.string a1.data.toList), .lit (.string a2.data.toList)] ∧ p0 = [] := by
  obtain ⟨cs, rfl, hcs⟩ := okWide_struct Try.underlying26 hv
  have h3 : Try.prog.cellsOf 26 = 3 := by kernel_rfl
  have c3 : Try.prog.cellsOf 3 = 1 := by kernel_rfl
  have c9 : Try.prog.cellsOf 9 = 1 := by kernel_rfl
  rw [h3] at hcs
  obtain ⟨x0, x1, x2, rfl⟩ : ∃ x0 x1 x2, cs = #[x0, x1, x2] := by
    rcases cs with ⟨_ | ⟨x0, _ | ⟨x1, _ | ⟨x2, _ | ⟨x3, l⟩⟩⟩⟩⟩ <;> simp at hcs
    exact ⟨x0, x1, x2, rfl⟩
  obtain ⟨fuel, hf⟩ := h
  obtain ⟨xs, n, rfl, hx, _, hl, he⟩ := DataW.trod_struct Try.underlying26 hf
  have e0 := he 0 _ rfl
  have e1 := he 1 _ rfl
  have e2 := he 2 _ rfl
  obtain ⟨y0, y1, y2, rfl⟩ : ∃ y0 y1 y2, xs = [y0, y1, y2] := by
    rcases xs with _ | ⟨x0, _ | ⟨x1, _ | ⟨x2, _ | ⟨x3, l⟩⟩⟩⟩ <;> simp at hl
    exact ⟨x0, x1, x2, rfl⟩
  simp only [List.getElem?_cons_zero, List.getElem?_cons_succ] at e0 e1 e2
  obtain ⟨n0, q0, rfl, w0⟩ := DataW.trod_int Try.underlying3 e0
  obtain ⟨s1, q1, rfl, w1⟩ := DataW.trod_string Try.underlying9 e1
  obtain ⟨s2, q2, rfl, w2⟩ := DataW.trod_string Try.underlying9 e2
  have q0' : [x0] = [Value.int .i64 n0] := by simpa [Value.cells, c3] using q0
  have q1' : [x1] = [Value.string s1] := by simpa [Value.cells, c9] using q1
  have q2' : [x2] = [Value.string s2] := by simpa [Value.cells, c9] using q2
  cases q0'
  cases q1'
  cases q2'
  cases hx
  exact ⟨n0, s1, s2, rfl, w0, w1, w2, rfl, rfl⟩

set_option maxRecDepth 100000 in
theorem lifted (os : Os) (started : os.Started) (H : Type) (enc : TypeId × Value → H) :
    ReturnsInHanded {} Try.checked os 5 .any (Rows.fnExactChangeLineSpec.pre6 enc Try.prog Try.f5 Rows.fnExactChangeLineRow.domain false) (Rows.fnExactChangeLineSpec.post enc Try.prog Try.f5 false true false false) := by
  refine returnsInHanded_of_change_sized (C := Try.checked) own started (by kernel_rfl) Try.func5
    (ChangeSpec.witness6 (enc := enc) (C := Try.checked) false ⟨#[], #[.agg #[.int .i64 0, .string ⟨#[]⟩, .string ⟨#[]⟩]], []⟩ 8 (by kernel_rfl) (by kernel_rfl) (by kernel_rfl) (by kernel_rfl)) ?_
  intro W base args ds gs before hval0 hW hcnd hsz0 _
  have hval : ∀ (j : Nat) t v, Try.f5.params[j]? = some t → args[j]? = some v → Value.okWide Try.prog W .any base t v := hval0
  have hW' := hW
  obtain ⟨p, q, hA0, hV, rfl, hfz, hnd⟩ := hW
  have hA : DataW.TrodAll enc Try.prog W 0 (fun _ => true) true Try.f5.params.toList args.toList ds p := hA0
  rw [Try.params5] at hA hval
  obtain ⟨v0, vs0, d0, ds0, p0, q0, hargs, rfl, rfl, h0, r0⟩ := trodAll_cons hA
  obtain ⟨rfl, rfl, rfl⟩ := trodAll_nil r0
  obtain rfl : args = #[v0] := by cases args; simp_all
  obtain ⟨rfl, rfl⟩ := trodVars_none hV
  obtain ⟨a0, a1, a2, rfl, w0, w1, w2, rfl, rfl⟩ := open_change (hval 0 26 v0 rfl rfl) h0
  refine (PFnExactChangeLine.laws_FnExactChangeLine.calls a0 a1 a2 true W (Pure.FnExactChangeLine a0 a1 a2 w0 w1 w2)).mono fun e W' ⟨he, bel⟩ => ?_
  subst he
  have h0' : DataW.Trod enc Try.prog W' 0 (fun b => decide (b < W.heap.size)) true 26 (.agg #[.int .i64 a0, .string a1, .string a2]) (.agg [.lit (.int .i64 a0), .lit (.string a1.data.toList), .lit (.string a2.data.toList)]) [] := by
    refine ⟨3, ?_⟩
    have h3 : Try.prog.cellsOf 26 = 3 := by kernel_rfl
    have c3 : Try.prog.cellsOf 3 = 1 := by kernel_rfl
    have c9 : Try.prog.cellsOf 9 = 1 := by kernel_rfl
    have k := trod_struct_mk (H := H) (enc := enc) (P := Try.prog) (w := W') (base := 0) (spare := fun b => decide (b < W.heap.size)) (held := true) (n := 2) (cs := [.int .i64 a0, .string a1, .string a2])
      (xs := [(.lit (.int .i64 a0), []), (.lit (.string a1.data.toList), []), (.lit (.string a2.data.toList), [])]) Try.underlying26 (by rw [h3]; rfl)
      (by simp [c3, c9, DataW.trod, Try.underlying3, Try.underlying9, w0, w1, w2])
    simpa [Value.cells] using k
  exact ⟨_, rfl, _, _, _, [], _, [], hW', trodAll_mk1 (shut_bool Try.underlying4 _), (trodAll_cons_mk h0' trodAll_mk0), rfl, bel.frame _, fun h => by cases h⟩
theorem over : Rows.fnExactChangeLineRow.holds Try.pinned (OpenSpec.ofChange Rows.fnExactChangeLineSpec) :=
  OpenClaim.holds_of_wide 5 Try.f5 rfl rfl rfl rfl rfl rfl rfl ⟨rfl, rfl, rfl, rfl, rfl⟩ rfl rfl rfl rfl rfl (by kernel_rfl) Try.func5 (by kernel_rfl)
    (of_decide_eq_true (by kernel_rfl)) (by unfold Func.isWrapper; first | (rw [if_pos (by decide +kernel)]; kernel_rfl) | (rw [if_neg (by decide +kernel)]; exact ⟨rfl, rfl⟩))
    (fun os started H enc _ => lifted os started H enc)
theorem proved : Rows.FnExactChangeLineSaid := over
#print axioms proved
end Go.Proofs.Ytdnbagcbdagofaa.fnExactChangeLine
namespace Go.Proofs.Ytdnbagcbdagofaa
/-- The row, under a short name, for the claim. -/
theorem fnExactChangeLine_holds : Rows.FnExactChangeLineSaid := fnExactChangeLine.proved
end Go.Proofs.Ytdnbagcbdagofaa
