/- laws.FnExactCodeWord answers true for every whole number of 64 bits; no condition. -/
import Derived.Test.YtdnbagcbdagofaaPFnExactCodeWordx1
namespace Go.Proofs.Ytdnbagcbdagofaa.Pure
open Go.RowKit Go.Proofs.Ytdnbagcbdagofaa.PFnExactCodeWord Go.Proofs.YtdnbagcbdagofaaW.PrintWords Go.Proofs.YtdnbagcbdagofaaW.PrintLast

/-- YOURS: ∀ (a0 : Int), (Lit.int .i64 a0).wf = true → laws_FnExactCodeWord.f a0 = some true
What it reaches (each with k first where it has rounds; `.mono`: more rounds tell the same; `.l0`, ..: its loops, with `.mono_l`): spec_l01In.f, spec_CodeWord.f, impl_in.f, impl_CodeWord.f, laws_FnExactCodeWord.f -/
theorem FnExactCodeWord : laws_FnExactCodeWord.Pure := by
  intro a0 _
  by_cases h : 1 ≤ a0 ∧ a0 ≤ 28
  · have e : a0 = 1 ∨ a0 = 2 ∨ a0 = 3 ∨ a0 = 4 ∨ a0 = 5 ∨ a0 = 6 ∨ a0 = 7 ∨ a0 = 8 ∨ a0 = 9 ∨ a0 = 10 ∨ a0 = 11 ∨ a0 = 12 ∨ a0 = 13 ∨ a0 = 14 ∨ a0 = 15 ∨ a0 = 16 ∨ a0 = 17 ∨ a0 = 18 ∨ a0 = 19 ∨ a0 = 20 ∨ a0 = 21 ∨ a0 = 22 ∨ a0 = 23 ∨ a0 = 24 ∨ a0 = 25 ∨ a0 = 26 ∨ a0 = 27 ∨ a0 = 28 := by omega
    rcases e with rfl | rfl | rfl | rfl | rfl | rfl | rfl | rfl | rfl | rfl | rfl | rfl | rfl | rfl | rfl | rfl | rfl | rfl | rfl | rfl | rfl | rfl | rfl | rfl | rfl | rfl | rfl | rfl <;> decide +kernel
  · have hs : spec_l01In.f a0 1 28 = some false := by
      unfold spec_l01In.f
      by_cases h1 : a0 ≥ 1
      · rw [if_pos h1, decide_eq_false (by omega)]
      · rw [if_neg h1]
    have hi : impl_in.f a0 1 28 = some false := hs
    unfold laws_FnExactCodeWord.f spec_CodeWord.f impl_CodeWord.f
    simp [hs, hi]

end Go.Proofs.Ytdnbagcbdagofaa.Pure
