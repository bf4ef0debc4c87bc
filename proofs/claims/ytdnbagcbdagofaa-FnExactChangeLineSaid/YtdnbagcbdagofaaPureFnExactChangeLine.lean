/- laws.FnExactChangeLine answers true for every change whose two texts are no longer than a text may be. -/
import Derived.Test.YtdnbagcbdagofaaPFnExactChangeLinex3
namespace Go.Proofs.Ytdnbagcbdagofaa.Pure
set_option linter.unusedSimpArgs false
open Go.RowKit Go.Proofs.Ytdnbagcbdagofaa.PFnExactChangeLine Go.Proofs.YtdnbagcbdagofaaW.PrintWords Go.Proofs.YtdnbagcbdagofaaW.PrintLast

theorem lineParts (a0 : Int) (hw : (Lit.int .i64 a0).wf = true) : ∃ (c : Int) (t : ByteArray), spec_ClassOf.f a0 = some c ∧ impl_ClassOf.f a0 = some c ∧ spec_CodeWord.f a0 = some t ∧ impl_CodeWord.f a0 = some t ∧
    (c = 0 ∨ c = 1 ∨ c = 2 ∨ c = 3) ∧ t.size ≤ 20 := by
  by_cases h : 1 ≤ a0 ∧ a0 ≤ 28
  · have e : a0 = 1 ∨ a0 = 2 ∨ a0 = 3 ∨ a0 = 4 ∨ a0 = 5 ∨ a0 = 6 ∨ a0 = 7 ∨ a0 = 8 ∨ a0 = 9 ∨ a0 = 10 ∨ a0 = 11 ∨ a0 = 12 ∨ a0 = 13 ∨ a0 = 14 ∨ a0 = 15 ∨ a0 = 16 ∨ a0 = 17 ∨ a0 = 18 ∨ a0 = 19 ∨ a0 = 20 ∨ a0 = 21 ∨ a0 = 22 ∨ a0 = 23 ∨ a0 = 24 ∨ a0 = 25 ∨ a0 = 26 ∨ a0 = 27 ∨ a0 = 28 := by omega
    rcases e with rfl | rfl | rfl | rfl | rfl | rfl | rfl | rfl | rfl | rfl | rfl | rfl | rfl | rfl | rfl | rfl | rfl | rfl | rfl | rfl | rfl | rfl | rfl | rfl | rfl | rfl | rfl | rfl <;>
      exact ⟨_, _, rfl, by decide +kernel, rfl, by decide +kernel, by decide +kernel, by decide +kernel⟩
  · have hs : spec_l01In.f a0 1 28 = some false := by
      unfold spec_l01In.f
      by_cases h1 : a0 ≥ 1
      · rw [if_pos h1, decide_eq_false (by omega)]
      · rw [if_neg h1]
    have hi : impl_in.f a0 1 28 = some false := hs
    refine ⟨0, ⟨#[63]⟩, ?_, ?_, ?_, ?_, Or.inl rfl, by decide +kernel⟩
    · unfold spec_ClassOf.f
      simp [hs]
    · unfold impl_ClassOf.f impl_in.f
      by_cases h1 : a0 ≥ 1 <;> by_cases h28 : a0 ≤ 28 <;> by_cases h15 : a0 ≤ 15 <;> by_cases h20 : a0 ≥ 20 <;> by_cases h24 : a0 ≤ 24 <;> by_cases h16 : a0 ≥ 16 <;>
        first | (exfalso; omega) | simp [h1, h28, h15, h20, h24, h16]
    · unfold spec_CodeWord.f
      simp [hs]
    · unfold impl_CodeWord.f
      simp [hi]

theorem wrap64_id {z : Int} (h1 : -9223372036854775808 ≤ z) (h2 : z ≤ 9223372036854775807) : wrap64 z = z := by
  unfold wrap64
  omega

theorem FnExactChangeLine (a0 : Int) (a1 a2 : ByteArray) (h0 : (Lit.int .i64 a0).wf = true) (h1 : a1.size ≤ maxLen) (h2 : a2.size ≤ maxLen) : laws_FnExactChangeLine.f a0 a1 a2 = some true := by
  obtain ⟨c, t, e1, e2, e3, e4, hc, ht⟩ := lineParts a0 h0
  unfold maxLen at h1 h2
  unfold laws_FnExactChangeLine.f laws_szChange.f
  rw [wrap64_id (by omega) (by omega)]
  by_cases g1 : (1048576 : Int) - (a1.size : Int) < 0
  · simp [g1]
  rw [if_neg g1, wrap64_id (by omega) (by omega)]
  by_cases g2 : (1048576 : Int) - (a1.size : Int) - (a2.size : Int) < 0
  · simp [g2]
  rw [if_neg g2]
  have hr : ∀ (y : List ByteArray), (y = ([(⟨#[63, 32]⟩ : ByteArray), (⟨#[98, 114, 101, 97, 107, 115, 32]⟩ : ByteArray), (⟨#[114, 105, 115, 107, 121, 32]⟩ : ByteArray), (⟨#[115, 97, 102, 101, 32]⟩ : ByteArray)] : List ByteArray)) → 0 ≤ c ∧ c < (y.length : Int) ∧ (rdOf ByteArray.empty y c).size ≤ 20 := by
    rintro y rfl
    rcases hc with rfl | rfl | rfl | rfl <;> decide +kernel
  simp only [Option.bind_some, g2, if_false, laws_toChange.f]
  unfold spec_ChangeLine.f impl_ChangeLine.f impl_lined.f
  generalize hy : ([(⟨#[63, 32]⟩ : ByteArray), (⟨#[98, 114, 101, 97, 107, 115, 32]⟩ : ByteArray), (⟨#[114, 105, 115, 107, 121, 32]⟩ : ByteArray), (⟨#[115, 97, 102, 101, 32]⟩ : ByteArray)] : List ByteArray) = y
  obtain ⟨r1, r2, r3⟩ := hr y hy.symm
  clear hr hy
  generalize hg : rdOf ByteArray.empty y c = g at r3
  have s1 : (⟨#[32]⟩ : ByteArray).size = 1 := rfl
  have s2 : (⟨#[10]⟩ : ByteArray).size = 1 := rfl
  simp only [Option.bind_some, e1, e2, e3, e4, r1, r2, if_true, hg, ByteArray.size_append, s1, s2]
  have k1 : g.size + t.size ≤ 9223372036854775807 := by omega
  have k2 : g.size + t.size + 1 ≤ 9223372036854775807 := by omega
  have k3 : g.size + t.size + 1 + a1.size ≤ 9223372036854775807 := by omega
  have k4 : g.size + t.size + 1 + a1.size + 1 ≤ 9223372036854775807 := by omega
  have k5 : g.size + t.size + 1 + a1.size + 1 + a2.size ≤ 9223372036854775807 := by omega
  have k6 : g.size + t.size + 1 + a1.size + 1 + a2.size + 1 ≤ 9223372036854775807 := by omega
  have k7 : a1.size + 1 ≤ 9223372036854775807 := by omega
  have k8 : a1.size + 1 + a2.size ≤ 9223372036854775807 := by omega
  have k9 : g.size + t.size + 1 + (a1.size + (1 + a2.size)) ≤ 9223372036854775807 := by omega
  have k10 : g.size + t.size + 1 + (a1.size + (1 + a2.size)) + 1 ≤ 9223372036854775807 := by omega
  by_cases g3 : a2.toList = ([] : List UInt8)
  · simp only [g3, k1, k2, k3, k4, if_true, Option.bind_some, ByteArray.size_append, s1, s2]
  · simp only [g3, k1, k2, k3, k4, k5, k6, k7, k8, k9, k10, if_true, if_false, Option.bind_some, ByteArray.size_append, s1, s2, ByteArray.append_assoc]

end Go.Proofs.Ytdnbagcbdagofaa.Pure
