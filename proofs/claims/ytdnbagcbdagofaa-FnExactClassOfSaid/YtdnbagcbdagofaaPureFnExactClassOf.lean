/- laws.FnExactClassOf answers true for every whole number of 64 bits; no condition. -/
import Derived.Test.YtdnbagcbdagofaaPFnExactClassOfx1
namespace Go.Proofs.Ytdnbagcbdagofaa.Pure
open Go.RowKit Go.Proofs.Ytdnbagcbdagofaa.PFnExactClassOf Go.Proofs.YtdnbagcbdagofaaW.PrintWords Go.Proofs.YtdnbagcbdagofaaW.PrintLast

/-- YOURS: ∀ (a0 : Int), (Lit.int .i64 a0).wf = true → laws_FnExactClassOf.f a0 = some true
What it reaches (each with k first where it has rounds; `.mono`: more rounds tell the same; `.l0`, ..: its loops, with `.mono_l`): spec_l01In.f, spec_ClassOf.f, impl_in.f, impl_ClassOf.f, laws_FnExactClassOf.f -/
theorem FnExactClassOf : laws_FnExactClassOf.Pure := by
  intro a0 _
  unfold laws_FnExactClassOf.f spec_ClassOf.f impl_ClassOf.f spec_l01In.f impl_in.f
  by_cases h1 : a0 ≥ 1 <;> by_cases h28 : a0 ≤ 28 <;> by_cases h15 : a0 ≤ 15 <;> by_cases h20 : a0 ≥ 20 <;> by_cases h24 : a0 ≤ 24 <;> by_cases h16 : a0 ≥ 16 <;>
    first | (exfalso; omega) | simp [h1, h28, h15, h20, h24, h16]

end Go.Proofs.Ytdnbagcbdagofaa.Pure
