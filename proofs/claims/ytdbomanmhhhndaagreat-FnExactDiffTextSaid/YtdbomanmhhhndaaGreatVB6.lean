/- What the program's functions compute, read off their text by the shadow runner (VToldE, VsBound, VTa, VTm0, VLi, VLj, VLk, VLb, VLr, VLd0); no condition. -/
import Derived.Test.YtdbomanmhhhndaaGreatShelf
import Derived.Shelf.Slices.In.SortNone
import Derived.Laws.Strings
import Derived.Test.YtdbomanmhhhndaaGreatVB5
section
open Go Go.Vs Go.Proofs
set_option linter.unusedVariables false
set_option linter.unusedSimpArgs false
namespace Go.Vs
open Go.RowKit Go.Sort in
abbrev tDf : TypeId := 31
noncomputable def iDf : TypeInfo := (Tryz.prog.info? T.aUI).getD default
theorem uDf : (Tryz.prog.underlying T.aUI).isSome = true := by kernel_rfl
theorem aSa : iDf.size = 11 := by kernel_rfl
theorem aSi : 0 < iDf.bytes := of_decide_eq_true (by kernel_rfl)
def lU (xs : List (List UInt8)) : List (List UInt8) := xs.mergeSort fun x y => decide (x ≤ y)
def aAY (xs : List (List UInt8)) : List (List UInt8) := Lib.compact xs ++ List.replicate (xs.length - (Lib.compact xs).length) []
open Classical in
noncomputable def aKU : List (SV false) → List (List (SV false)) → Ret false
  | [.bsl 0 1 0 n], [cs] => if h : ∃ xs, cs = mQ xs ∧ n = xs.length ∧ xs.length ≤ 1000000 then some (.tup [], [mQ (lU h.choose)]) else none
  | _, _ => none
open Classical in
noncomputable def aAg : List (SV false) → List (List (SV false)) → Ret false
  | [.bsl 0 1 0 n], [cs] => if h : ∃ xs, cs = mQ xs ∧ n = xs.length ∧ xs.length ≤ 1000000 then some (.bsl 0 1 0 (Lib.compact h.choose).length, [mQ (aAY h.choose)]) else none
  | _, _ => none
theorem wJ (xs : List (List UInt8)) : (lU xs).length = xs.length := List.length_mergeSort xs
theorem wH (xs : List (List UInt8)) : (Lib.compact xs).length ≤ xs.length := by
  unfold Lib.compact Lib.compactUpTo
  rw [List.length_map]
  exact Nat.le_trans (List.length_filter_le _ _) (by simp)
theorem aJu : lU [] = [] := List.eq_nil_of_length_eq_zero (wJ [])
theorem aKW (xs : List (List UInt8)) : (aAY xs).length = xs.length := by
  have := wH xs
  unfold aAY
  rw [List.length_append, List.length_replicate]; omega
abbrev tCh : TypeId := 47
noncomputable def iCh : TypeInfo := (Tryz.prog.info? T.aUl).getD default
noncomputable def aIc : aJc false := fun f => if f = F.aSw then some (yV Tryz.prog T.aUI iDf false) else if f = F.aSD then some aKU else if f = F.aSz then some aAg else if f = F.aSu then some (yV Tryz.prog T.aUl iCh true) else none
theorem aPo {N : Env} : mM Tryz.prog N (fun g args boxes => if g = F.aSw then yV (m := false) Tryz.prog T.aUI iDf false args boxes else none) := by
  intro g args boxes r hr hh hf
  replace hr : (if g = F.aSw then yV (m := false) Tryz.prog T.aUI iDf false args boxes else none) = some r := hr
  split at hr
  · rename_i hg
    subst hg
    exact aHZ (P := Tryz.prog) (t := tDf) (d0 := (Tryz.prog.underlying T.aUI).get uDf) (z := iDf.zero.getD undef) (by kernel_rfl : Tryz.prog.funcs[F.aSw]? = some (aHg Tryz.prog F.aSw)) (by kernel_rfl) (by kernel_rfl) (by kernel_rfl) (by kernel_rfl)
      (Option.some_get uDf).symm (by kernel_rfl) (by kernel_rfl) (by kernel_rfl) (by kernel_rfl) (Nat.lt_of_lt_of_eq (by decide : 0 < 11) aSa.symm) aSi false args boxes r hr hh hf
  · simp at hr
theorem aRh : ∃ fn, Tryz.prog.funcs[F.aSD]? = some fn ∧ (fn.name == "runtime.NumGoroutine") = false ∧ fn.body.isNone = false := ⟨aHg Tryz.prog F.aSD, by kernel_rfl, by kernel_rfl, by kernel_rfl⟩
theorem aOw : ∃ fn, Tryz.prog.funcs[F.aSz]? = some fn ∧ (fn.name == "runtime.NumGoroutine") = false ∧ fn.body.isNone = false := ⟨aHg Tryz.prog F.aSz, by kernel_rfl, by kernel_rfl, by kernel_rfl⟩
theorem aOL {s : St false} {vals : Array Value} {a : SV false} (h : s.tmps = [a]) (hl : s.tmps.length = vals.size) : vals = #[vals.getD 0 undef] := by
  have h3 : vals.size = 1 := by rw [← hl, h]; rfl
  apply Array.ext
  · simpa using h3
  · intro i hi hi2
    have : i = 0 := by omega
    subst this
    simp [Array.getD, hi]
theorem aMR {N : Env} {w : World} {F1 : Fr} {Ow : Own} {bm : Nat → Nat} {al : Nat → Bool} {loc : Loc} {n : Nat} {v : Value} (h : aU Tryz.prog w F1 N Ow bm al loc (.bsl 0 1 0 n : SV false) v) : yC bm al 0 1 0 n v := by simp -implicitDefEqProofs only [aU, dB] at h; exact h
theorem aN0 {N : Env} : mM Tryz.prog N (fun g a b => if g = F.aSD then aKU a b else none) := by
  intro g args boxes r hr hh hf
  replace hr : (if g = F.aSD then aKU args boxes else none) = some r := hr
  split at hr
  · rename_i hg
    subst hg
    unfold aKU at hr
    split at hr
    · rename_i n cs
      split at hr
      · rename_i hn
        simp -implicitDefEqProofs only [Option.some.injEq] at hr
        subst hr
        obtain ⟨hcs, hnn, hlx⟩ := hn.choose_spec
        generalize hn.choose = xs at hcs hnn hlx
        subst hcs hnn
        refine ⟨rfl, rfl, fun cs hcs c hc => ?_, aRh, fun w F1 Ow bm vals hI => ?_⟩
        · obtain rfl : cs = mQ (lU xs) := by simpa using hcs
          exact aGE _ c hc
        have htup : ∀ w', aU Tryz.prog w' F1 N Ow bm (fun b => (bB [some (mQ (lU xs))] b).isSome) (.tmp 0) (.tup [] : SV false) (.tuple #[]) := fun w' => by
          simp -implicitDefEqProofs only [aU]
          exact ⟨#[], rfl, rfl, fun j c u hc => by simp at hc⟩
        have hv := aOL rfl hI.len
        rcases aMR (hI.slot 0) with ⟨⟨h0, A, cap, hu⟩ | ⟨cap, hu, hcap⟩, _⟩
        · have hx : xs = [] := List.eq_nil_of_length_eq_zero h0
          subst hx
          simp -implicitDefEqProofs only [aJu] at htup ⊢
          rw [hu] at hv
          subst hv
          refine (Go.Proofs.Any.slices_Sort_string_none Tryz.lays190 A cap w).mono fun e w' ⟨he, hw⟩ => ?_
          subst hw
          obtain ⟨q1, q2⟩ := aJj hI (htup w')
          exact ⟨_, F1, Ow, he, q1, q2⟩
        · by_cases hx : xs = []
          · subst hx
            simp -implicitDefEqProofs only [aJu] at htup ⊢
            rw [hu] at hv
            subst hv
            refine (Go.Proofs.Any.slices_Sort_string_none Tryz.lays190 _ cap w).mono fun e w' ⟨he, hw⟩ => ?_
            subst hw
            obtain ⟨q1, q2⟩ := aJj hI (htup w')
            exact ⟨_, F1, Ow, he, q1, q2⟩
          · obtain ⟨cur, e0, hb, hl, hF, hO, hH⟩ := aK6 hI rfl hx
            rw [hu] at hv
            subst hv
            refine (Tryz.slices_Sort_string (bm 0) 0 cap xs w hH (Array.getElem?_eq_some_iff.1 hb).1 (by omega)).mono fun e w' ⟨he, k, os, hw⟩ => ?_
            obtain ⟨q1, q2⟩ := aJh (ys := lU xs) hI hb (by rw [wJ]; exact hl) hF hO hw (htup w')
            exact ⟨_, F1, Ow, he, q1, q2⟩
      · simp at hr
    · simp at hr
  · simp at hr
theorem aKo {N : Env} : mM Tryz.prog N (fun g a b => if g = F.aSz then aAg a b else none) := by
  intro g args boxes r hr hh hf
  replace hr : (if g = F.aSz then aAg args boxes else none) = some r := hr
  split at hr
  · rename_i hg
    subst hg
    unfold aAg at hr
    split at hr
    · rename_i n cs
      split at hr
      · rename_i hn
        simp -implicitDefEqProofs only [Option.some.injEq] at hr
        subst hr
        obtain ⟨hcs, hnn, hlx⟩ := hn.choose_spec
        generalize hn.choose = xs at hcs hnn hlx
        subst hcs hnn
        refine ⟨rfl, rfl, fun cs hcs c hc => ?_, aOw, fun w F1 Ow bm vals hI => ?_⟩
        · obtain rfl : cs = mQ (aAY xs) := by simpa using hcs
          exact aGE _ c hc
        have hbs : ∀ (w' : World) (u : Value), ((Lib.compact xs).length = 0 ∧ (∃ A cap, u = .slice A 0 cap) ∨ ∃ cap, u = .slice (some ⟨bm 0, 0 * 1, none⟩) (Lib.compact xs).length cap ∧ (Lib.compact xs).length ≤ cap) →
            aU Tryz.prog w' F1 N Ow bm (fun b => (bB [some (mQ (aAY xs))] b).isSome) (.tmp 0) (.bsl 0 1 0 (Lib.compact xs).length : SV false) u := fun w' u hu => by
          have h : yC bm (fun b => (bB [some (mQ (aAY xs))] b).isSome) 0 1 0 (Lib.compact xs).length u := ⟨hu, rfl⟩
          simp -implicitDefEqProofs only [aU, dB]; exact h
        have hv := aOL rfl hI.len
        have none_ : ∀ A cap, xs = [] → vals = #[.slice A 0 cap] → Calls Tryz.prog F.aSz vals w fun e w' => ∃ v F' Ow', e = .returned v ∧ Inv Tryz.prog { tmps := [(.bsl 0 1 0 (Lib.compact xs).length : SV false)], boxes := [mQ (aAY xs)].map some } #[v] w' F' N Ow' bm ∧ Far N w F1 Ow w' F' Ow' := by
          intro A cap hx hvv
          subst hx hvv
          refine (Tryz.slices_Compact_string_empty A cap w).mono fun e w' ⟨he, hw⟩ => ?_
          subst hw
          obtain ⟨q1, q2⟩ := aJj hI (hbs w' (.slice A 0 cap) (.inl ⟨rfl, A, cap, rfl⟩))
          exact ⟨_, F1, Ow, he, q1, q2⟩
        rcases aMR (hI.slot 0) with ⟨⟨h0, A, cap, hu⟩ | ⟨cap, hu, hcap⟩, _⟩
        · rw [hu] at hv
          exact none_ A cap (List.eq_nil_of_length_eq_zero h0) hv
        · by_cases hx : xs = []
          · rw [hu] at hv
            exact none_ (some ⟨bm 0, 0 * 1, none⟩) cap hx (by rw [hv, hx]; rfl)
          · obtain ⟨cur, e0, hb, hl, hF, hO, hH⟩ := aK6 hI rfl hx
            rw [hu] at hv
            subst hv
            refine (Tryz.slices_Compact_string (bm 0) 0 cap xs w hH (by omega) hcap).mono fun e w' ⟨he, k, hw⟩ => ?_
            have hw2 : w' = Go.Sort.grow (Go.Sort.putRow encStr (Go.Sort.ahead w k) (bm 0) 0 (aAY xs).toArray) #[] := by rw [Go.Sort.grow_empty]; exact hw
            obtain ⟨q1, q2⟩ := aJh (ys := aAY xs) hI hb (by rw [aKW]; exact hl) hF hO hw2 (hbs w' _ (.inr ⟨cap, rfl, Nat.le_trans (wH xs) hcap⟩))
            exact ⟨_, F1, Ow, he, q1, q2⟩
      · simp at hr
    · simp at hr
  · simp at hr
theorem uCh : (Tryz.prog.underlying T.aUl).isSome = true := by kernel_rfl
theorem aSh : iCh.size = 3 := by kernel_rfl
theorem aR1 : iCh.bytes = 40 := by kernel_rfl
theorem aQd {N : Env} : mM Tryz.prog N (fun g args boxes => if g = F.aSu then yV (m := false) Tryz.prog T.aUl iCh true args boxes else none) := by
  intro g args boxes r hr hh hf
  replace hr : (if g = F.aSu then yV (m := false) Tryz.prog T.aUl iCh true args boxes else none) = some r := hr
  split at hr
  · rename_i hg
    subst hg
    exact aHZ (P := Tryz.prog) (t := tCh) (d0 := (Tryz.prog.underlying T.aUl).get uCh) (z := iCh.zero.getD undef) (by kernel_rfl : Tryz.prog.funcs[F.aSu]? = some (aHg Tryz.prog F.aSu)) (by kernel_rfl) (by kernel_rfl) (by kernel_rfl) (by kernel_rfl)
      (Option.some_get uCh).symm (by kernel_rfl) (by kernel_rfl) (by kernel_rfl) (by kernel_rfl) (Nat.lt_of_lt_of_eq (by decide : 0 < 3) aSh.symm) (Nat.lt_of_lt_of_eq (by decide : 0 < 40) aR1.symm) true args boxes r hr hh hf
  · simp at hr
theorem aND {N : Env} : aNS Tryz.prog N aIc := by
  intro f t ht
  unfold aIc at ht
  split at ht
  · rename_i hff
    subst hff
    simp -implicitDefEqProofs only [Option.some.injEq] at ht
    subst ht
    exact aPo
  · split at ht
    · rename_i _ hff
      subst hff
      simp -implicitDefEqProofs only [Option.some.injEq] at ht
      subst ht
      exact aN0
    · split at ht
      · rename_i _ _ hff
        subst hff
        simp -implicitDefEqProofs only [Option.some.injEq] at ht
        subst ht
        exact aKo
      · split at ht
        · rename_i _ _ _ hff
          subst hff
          simp -implicitDefEqProofs only [Option.some.injEq] at ht
          subst ht
          exact aQd
        · simp at ht
end Go.Vs
end
section
set_option linter.unusedVariables false
namespace Go.Vs
mutual
def bdF (B : Nat) : aA false → Prop
  | .str s => s.size ≤ B
  | .sl _ es => es.length ≤ B ∧ bdE B es
  | _ => True
def bdL (B : Nat) : List (aA false) → Prop
  | [] => True
  | l :: r => bdF B l ∧ bdL B r
def bdE (B : Nat) : List (List (aA false)) → Prop
  | [] => True
  | e :: es => bdL B e ∧ bdE B es
end
theorem jH {B : Nat} : ∀ {es : List (List (aA false))}, bdE B es → ∀ e ∈ es, bdL B e
  | x :: r, h, e, he => by
    rw [bdE] at h
    rcases List.mem_cons.1 he with rfl | he
    · exact h.1
    · exact jH h.2 e he
mutual
theorem aRP {z B : Nat} (hB : (B : Int) ≤ cap) : ∀ (l : aA false) (n : Int), okF z l → 0 ≤ n → n ≤ B → 0 ≤ szF l n → bdF B l
  | .str s, n, ho, h0, hn, h => by
    have hm : maxLen = 9223372036854775807 := rfl
    simp only [okF] at ho
    simp only [szF, bdF, cap] at *
    rw [sN (by omega) (by omega)] at h
    split at h <;> omega
  | .sl _ es, n, ho, h0, hn, h => by
    have hm : maxLen = 9223372036854775807 := rfl
    simp only [okF] at ho
    simp only [szF, bdF] at *
    rw [sN (by simp only [cap] at hB; omega) (by simp only [cap] at hB; omega)] at h
    by_cases hl : n - (es.length : Int) < 0
    · simp [hl] at h
    · simp only [hl, if_false] at h
      exact ⟨by omega, aQI hB es _ ho.2 (by omega) (by omega) h⟩
  | .bool _, n, _, _, _, _ => by simp [bdF]
  | .int _ _, n, _, _, _, _ => by simp [bdF]
  | .unk, n, _, _, _, _ => by simp [bdF]
  | .nl _, n, _, _, _, _ => by simp [bdF]
theorem aLu {z B : Nat} (hB : (B : Int) ≤ cap) : ∀ (l : List (aA false)) (n : Int), okL z l → 0 ≤ n → n ≤ B → 0 ≤ szL l n → bdL B l
  | [], n, _, _, _, _ => by simp [bdL]
  | l :: r, n, ho, h0, hn, h => by
    simp only [okL] at ho
    simp only [szL, bdL] at *
    by_cases hl : szF l n < 0
    · simp [hl] at h
    · simp only [hl, if_false] at h
      have h1 := aRs l n ho.1 h0 (by omega) (by omega)
      exact ⟨aRP hB l n ho.1 h0 hn (by omega), aLu hB r _ ho.2 (by omega) (by omega) h⟩
theorem aQI {z B : Nat} (hB : (B : Int) ≤ cap) : ∀ (l : List (List (aA false))) (n : Int), okE z l → 0 ≤ n → n ≤ B → 0 ≤ szE l n → bdE B l
  | [], n, _, _, _, _ => by simp [bdE]
  | e :: r, n, ho, h0, hn, h => by
    simp only [okE] at ho
    simp only [szE, bdE] at *
    by_cases hl : szL e n < 0
    · simp [hl] at h
    · simp only [hl, if_false] at h
      have h1 := aMS e n ho.2.1 h0 (by omega) (by omega)
      exact ⟨aLu hB e n ho.2.1 h0 hn (by omega), aQI hB r _ ho.2.2 (by omega) (by omega) h⟩
end
end Go.Vs
end
section
open Go Go.Vs Go.Proofs
set_option linter.unusedVariables false
set_option linter.unusedSimpArgs false
namespace Go.Vs
noncomputable abbrev Dn : aP false := den Go.Proofs.Tryz.prog aIc Hs
theorem aW {f : FuncId} {a : List (SV false)} {b : List (List (SV false))} {r : SV false × List (List (SV false))} (h : bL Go.Proofs.Tryz.prog Dn Hs cB f a b = some r) (hf : aIc f = none := by rfl) : Dn f a b = some r :=
  aQj hf h
inductive lQ : List (aA false) → Prop
  | mk (s0 : ByteArray) (s1 : ByteArray) (h0 : s0.size ≤ maxLen) (h1 : s1.size ≤ maxLen) : lQ [.str s0, .str s1]
theorem lQ.ex {ls : List (aA false)} (h : lQ ls) : ∃ (s0 : ByteArray) (s1 : ByteArray), ls = [.str s0, .str s1] ∧ s0.size ≤ maxLen ∧ s1.size ≤ maxLen := by
  cases h with
  | mk s0 s1 h0 h1 => exact ⟨s0, s1, rfl, h0, h1⟩
theorem lQ.len {ls : List (aA false)} (h : lQ ls) : ls.length = 2 := by cases h; rfl
theorem lQ.ok {ls : List (aA false)} (h : lQ ls) : okL 16 ls := by
  cases h with
  | mk s0 s1 h0 h1 => simp only [okL, okF]; exact ⟨h0, h1, trivial⟩
inductive dM : List (aA false) → Prop
  | mk (i0 : Int) (s1 : ByteArray) (e2 : List (List (aA false))) (e3 : List (List (aA false))) (h1 : s1.size ≤ maxLen) (h2 : e2.length ≤ maxLen) (q2 : ∀ e ∈ e2, dM e) (h3 : e3.length ≤ maxLen) (q3 : ∀ e ∈ e3, dP e) : dM [.int .i64 i0, .str s1, .sl fP e2, .sl fP e3]
theorem dM.ex {ls : List (aA false)} (h : dM ls) : ∃ (i0 : Int) (s1 : ByteArray) (e2 : List (List (aA false))) (e3 : List (List (aA false))), ls = [.int .i64 i0, .str s1, .sl fP e2, .sl fP e3] ∧ s1.size ≤ maxLen ∧ e2.length ≤ maxLen ∧ (∀ e ∈ e2, dM e) ∧ e3.length ≤ maxLen ∧ (∀ e ∈ e3, dP e) := by
  cases h with
  | mk i0 s1 e2 e3 h1 h2 q2 h3 q3 => exact ⟨i0, s1, e2, e3, rfl, h1, h2, q2, h3, q3⟩
theorem dM.len {ls : List (aA false)} (h : dM ls) : ls.length = 4 := by cases h; rfl
theorem dM.ok {ls : List (aA false)} (h : dM ls) : okL 16 ls := by
  induction h with
  | mk i0 s1 e2 e3 h1 h2 q2 h3 q3 ih2 => simp only [okL, okF]; exact ⟨trivial, h1, ⟨h2, lR fun e he => ⟨by have := (q2 e he).len; omega, ih2 e he⟩⟩, ⟨h3, lR fun e he => ⟨by have := (q3 e he).len; omega, (q3 e he).ok⟩⟩, trivial⟩
inductive jW : List (aA false) → Prop
  | mk (s0 : ByteArray) (i1 : Int) (s2 : ByteArray) (e3 : List (List (aA false))) (e4 : List (List (aA false))) (h0 : s0.size ≤ maxLen) (h2 : s2.size ≤ maxLen) (h3 : e3.length ≤ maxLen) (q3 : ∀ e ∈ e3, dM e) (h4 : e4.length ≤ maxLen) (q4 : ∀ e ∈ e4, dP e) : jW [.str s0, .int .i64 i1, .str s2, .sl fP e3, .sl fP e4]
theorem jW.ex {ls : List (aA false)} (h : jW ls) : ∃ (s0 : ByteArray) (i1 : Int) (s2 : ByteArray) (e3 : List (List (aA false))) (e4 : List (List (aA false))), ls = [.str s0, .int .i64 i1, .str s2, .sl fP e3, .sl fP e4] ∧ s0.size ≤ maxLen ∧ s2.size ≤ maxLen ∧ e3.length ≤ maxLen ∧ (∀ e ∈ e3, dM e) ∧ e4.length ≤ maxLen ∧ (∀ e ∈ e4, dP e) := by
  cases h with
  | mk s0 i1 s2 e3 e4 h0 h2 h3 q3 h4 q4 => exact ⟨s0, i1, s2, e3, e4, rfl, h0, h2, h3, q3, h4, q4⟩
theorem jW.len {ls : List (aA false)} (h : jW ls) : ls.length = 5 := by cases h; rfl
theorem jW.ok {ls : List (aA false)} (h : jW ls) : okL 16 ls := by
  cases h with
  | mk s0 i1 s2 e3 e4 h0 h2 h3 q3 h4 q4 => simp only [okL, okF]; exact ⟨h0, trivial, h2, ⟨h3, lR fun e he => ⟨by have := (q3 e he).len; omega, (q3 e he).ok⟩⟩, ⟨h4, lR fun e he => ⟨by have := (q4 e he).len; omega, (q4 e he).ok⟩⟩, trivial⟩
inductive fO : List (aA false) → Prop
  | mk (s0 : ByteArray) (e1 : List (List (aA false))) (h0 : s0.size ≤ maxLen) (h1 : e1.length ≤ maxLen) (q1 : ∀ e ∈ e1, jW e) : fO [.str s0, .sl fP e1]
theorem fO.ex {ls : List (aA false)} (h : fO ls) : ∃ (s0 : ByteArray) (e1 : List (List (aA false))), ls = [.str s0, .sl fP e1] ∧ s0.size ≤ maxLen ∧ e1.length ≤ maxLen ∧ (∀ e ∈ e1, jW e) := by
  cases h with
  | mk s0 e1 h0 h1 q1 => exact ⟨s0, e1, rfl, h0, h1, q1⟩
theorem fO.len {ls : List (aA false)} (h : fO ls) : ls.length = 2 := by cases h; rfl
theorem fO.ok {ls : List (aA false)} (h : fO ls) : okL 16 ls := by
  cases h with
  | mk s0 e1 h0 h1 q1 => simp only [okL, okF]; exact ⟨h0, ⟨h1, lR fun e he => ⟨by have := (q1 e he).len; omega, (q1 e he).ok⟩⟩, trivial⟩
inductive cI : List (aA false) → Prop
  | mk (s0 : ByteArray) (s1 : ByteArray) (s2 : ByteArray) (s3 : ByteArray) (b4 : Bool) (i5 : Int) (s6 : ByteArray) (e7 : List (List (aA false))) (e8 : List (List (aA false))) (e9 : List (List (aA false))) (h0 : s0.size ≤ maxLen) (h1 : s1.size ≤ maxLen) (h2 : s2.size ≤ maxLen) (h3 : s3.size ≤ maxLen) (h6 : s6.size ≤ maxLen) (h7 : e7.length ≤ maxLen) (q7 : ∀ e ∈ e7, dM e) (h8 : e8.length ≤ maxLen) (q8 : ∀ e ∈ e8, dP e) (h9 : e9.length ≤ maxLen) (q9 : ∀ e ∈ e9, fO e) : cI [.str s0, .str s1, .str s2, .str s3, .bool b4, .int .i64 i5, .str s6, .sl fP e7, .sl fP e8, .sl fP e9]
theorem cI.ex {ls : List (aA false)} (h : cI ls) : ∃ (s0 : ByteArray) (s1 : ByteArray) (s2 : ByteArray) (s3 : ByteArray) (b4 : Bool) (i5 : Int) (s6 : ByteArray) (e7 : List (List (aA false))) (e8 : List (List (aA false))) (e9 : List (List (aA false))), ls = [.str s0, .str s1, .str s2, .str s3, .bool b4, .int .i64 i5, .str s6, .sl fP e7, .sl fP e8, .sl fP e9] ∧ s0.size ≤ maxLen ∧ s1.size ≤ maxLen ∧ s2.size ≤ maxLen ∧ s3.size ≤ maxLen ∧ s6.size ≤ maxLen ∧ e7.length ≤ maxLen ∧ (∀ e ∈ e7, dM e) ∧ e8.length ≤ maxLen ∧ (∀ e ∈ e8, dP e) ∧ e9.length ≤ maxLen ∧ (∀ e ∈ e9, fO e) := by
  cases h with
  | mk s0 s1 s2 s3 b4 i5 s6 e7 e8 e9 h0 h1 h2 h3 h6 h7 q7 h8 q8 h9 q9 => exact ⟨s0, s1, s2, s3, b4, i5, s6, e7, e8, e9, rfl, h0, h1, h2, h3, h6, h7, q7, h8, q8, h9, q9⟩
theorem cI.len {ls : List (aA false)} (h : cI ls) : ls.length = 10 := by cases h; rfl
theorem cI.ok {ls : List (aA false)} (h : cI ls) : okL 16 ls := by
  cases h with
  | mk s0 s1 s2 s3 b4 i5 s6 e7 e8 e9 h0 h1 h2 h3 h6 h7 q7 h8 q8 h9 q9 => simp only [okL, okF]; exact ⟨h0, h1, h2, h3, trivial, trivial, h6, ⟨h7, lR fun e he => ⟨by have := (q7 e he).len; omega, (q7 e he).ok⟩⟩, ⟨h8, lR fun e he => ⟨by have := (q8 e he).len; omega, (q8 e he).ok⟩⟩, ⟨h9, lR fun e he => ⟨by have := (q9 e he).len; omega, (q9 e he).ok⟩⟩, trivial⟩
inductive cE : List (aA false) → Prop
  | mk (s0 : ByteArray) (s1 : ByteArray) (e2 : List (List (aA false))) (s3 : ByteArray) (s4 : ByteArray) (e5 : List (List (aA false))) (h0 : s0.size ≤ maxLen) (h1 : s1.size ≤ maxLen) (h2 : e2.length ≤ maxLen) (q2 : ∀ e ∈ e2, cI e) (h3 : s3.size ≤ maxLen) (h4 : s4.size ≤ maxLen) (h5 : e5.length ≤ maxLen) (q5 : ∀ e ∈ e5, fO e) : cE [.str s0, .str s1, .sl fP e2, .str s3, .str s4, .sl fP e5]
theorem cE.ex {ls : List (aA false)} (h : cE ls) : ∃ (s0 : ByteArray) (s1 : ByteArray) (e2 : List (List (aA false))) (s3 : ByteArray) (s4 : ByteArray) (e5 : List (List (aA false))), ls = [.str s0, .str s1, .sl fP e2, .str s3, .str s4, .sl fP e5] ∧ s0.size ≤ maxLen ∧ s1.size ≤ maxLen ∧ e2.length ≤ maxLen ∧ (∀ e ∈ e2, cI e) ∧ s3.size ≤ maxLen ∧ s4.size ≤ maxLen ∧ e5.length ≤ maxLen ∧ (∀ e ∈ e5, fO e) := by
  cases h with
  | mk s0 s1 e2 s3 s4 e5 h0 h1 h2 q2 h3 h4 h5 q5 => exact ⟨s0, s1, e2, s3, s4, e5, rfl, h0, h1, h2, q2, h3, h4, h5, q5⟩
theorem cE.len {ls : List (aA false)} (h : cE ls) : ls.length = 6 := by cases h; rfl
theorem cE.ok {ls : List (aA false)} (h : cE ls) : okL 16 ls := by
  cases h with
  | mk s0 s1 e2 s3 s4 e5 h0 h1 h2 q2 h3 h4 h5 q5 => simp only [okL, okF]; exact ⟨h0, h1, ⟨h2, lR fun e he => ⟨by have := (q2 e he).len; omega, (q2 e he).ok⟩⟩, h3, h4, ⟨h5, lR fun e he => ⟨by have := (q5 e he).len; omega, (q5 e he).ok⟩⟩, trivial⟩
inductive cK : List (aA false) → Prop
  | mk (s0 : ByteArray) (s1 : ByteArray) (e2 : List (List (aA false))) (h0 : s0.size ≤ maxLen) (h1 : s1.size ≤ maxLen) (h2 : e2.length ≤ maxLen) (q2 : ∀ e ∈ e2, fO e) : cK [.str s0, .str s1, .sl fP e2]
theorem cK.ex {ls : List (aA false)} (h : cK ls) : ∃ (s0 : ByteArray) (s1 : ByteArray) (e2 : List (List (aA false))), ls = [.str s0, .str s1, .sl fP e2] ∧ s0.size ≤ maxLen ∧ s1.size ≤ maxLen ∧ e2.length ≤ maxLen ∧ (∀ e ∈ e2, fO e) := by
  cases h with
  | mk s0 s1 e2 h0 h1 h2 q2 => exact ⟨s0, s1, e2, rfl, h0, h1, h2, q2⟩
theorem cK.len {ls : List (aA false)} (h : cK ls) : ls.length = 3 := by cases h; rfl
theorem cK.ok {ls : List (aA false)} (h : cK ls) : okL 16 ls := by
  cases h with
  | mk s0 s1 e2 h0 h1 h2 q2 => simp only [okL, okF]; exact ⟨h0, h1, ⟨h2, lR fun e he => ⟨by have := (q2 e he).len; omega, (q2 e he).ok⟩⟩, trivial⟩
inductive eO : List (aA false) → Prop
  | mk (i0 : Int) (s1 : ByteArray) (h1 : s1.size ≤ maxLen) : eO [.int .i64 i0, .str s1]
theorem eO.ex {ls : List (aA false)} (h : eO ls) : ∃ (i0 : Int) (s1 : ByteArray), ls = [.int .i64 i0, .str s1] ∧ s1.size ≤ maxLen := by
  cases h with
  | mk i0 s1 h1 => exact ⟨i0, s1, rfl, h1⟩
theorem eO.len {ls : List (aA false)} (h : eO ls) : ls.length = 2 := by cases h; rfl
theorem eO.ok {ls : List (aA false)} (h : eO ls) : okL 16 ls := by
  cases h with
  | mk i0 s1 h1 => simp only [okL, okF]; exact ⟨trivial, h1, trivial⟩
inductive dS : List (aA false) → Prop
  | mk (i0 : Int) (b1 : Bool) (s2 : ByteArray) (s3 : ByteArray) (e4 : List (List (aA false))) (e5 : List (List (aA false))) (e6 : List (List (aA false))) (e7 : List (List (aA false))) (e8 : List (List (aA false))) (b9 : Bool) (e10 : List (List (aA false))) (h2 : s2.size ≤ maxLen) (h3 : s3.size ≤ maxLen) (h4 : e4.length ≤ maxLen) (q4 : ∀ e ∈ e4, dP e) (h5 : e5.length ≤ maxLen) (q5 : ∀ e ∈ e5, cE e) (h6 : e6.length ≤ maxLen) (q6 : ∀ e ∈ e6, cI e) (h7 : e7.length ≤ maxLen) (q7 : ∀ e ∈ e7, cK e) (h8 : e8.length ≤ maxLen) (q8 : ∀ e ∈ e8, eO e) (h10 : e10.length ≤ maxLen) (q10 : ∀ e ∈ e10, fO e) : dS [.int .i64 i0, .bool b1, .str s2, .str s3, .sl fP e4, .sl fP e5, .sl fP e6, .sl fP e7, .sl fP e8, .bool b9, .sl fP e10]
theorem dS.ex {ls : List (aA false)} (h : dS ls) : ∃ (i0 : Int) (b1 : Bool) (s2 : ByteArray) (s3 : ByteArray) (e4 : List (List (aA false))) (e5 : List (List (aA false))) (e6 : List (List (aA false))) (e7 : List (List (aA false))) (e8 : List (List (aA false))) (b9 : Bool) (e10 : List (List (aA false))), ls = [.int .i64 i0, .bool b1, .str s2, .str s3, .sl fP e4, .sl fP e5, .sl fP e6, .sl fP e7, .sl fP e8, .bool b9, .sl fP e10] ∧ s2.size ≤ maxLen ∧ s3.size ≤ maxLen ∧ e4.length ≤ maxLen ∧ (∀ e ∈ e4, dP e) ∧ e5.length ≤ maxLen ∧ (∀ e ∈ e5, cE e) ∧ e6.length ≤ maxLen ∧ (∀ e ∈ e6, cI e) ∧ e7.length ≤ maxLen ∧ (∀ e ∈ e7, cK e) ∧ e8.length ≤ maxLen ∧ (∀ e ∈ e8, eO e) ∧ e10.length ≤ maxLen ∧ (∀ e ∈ e10, fO e) := by
  cases h with
  | mk i0 b1 s2 s3 e4 e5 e6 e7 e8 b9 e10 h2 h3 h4 q4 h5 q5 h6 q6 h7 q7 h8 q8 h10 q10 => exact ⟨i0, b1, s2, s3, e4, e5, e6, e7, e8, b9, e10, rfl, h2, h3, h4, q4, h5, q5, h6, q6, h7, q7, h8, q8, h10, q10⟩
theorem dS.len {ls : List (aA false)} (h : dS ls) : ls.length = 11 := by cases h; rfl
theorem dS.ok {ls : List (aA false)} (h : dS ls) : okL 16 ls := by
  cases h with
  | mk i0 b1 s2 s3 e4 e5 e6 e7 e8 b9 e10 h2 h3 h4 q4 h5 q5 h6 q6 h7 q7 h8 q8 h10 q10 => simp only [okL, okF]; exact ⟨trivial, trivial, h2, h3, ⟨h4, lR fun e he => ⟨by have := (q4 e he).len; omega, (q4 e he).ok⟩⟩, ⟨h5, lR fun e he => ⟨by have := (q5 e he).len; omega, (q5 e he).ok⟩⟩, ⟨h6, lR fun e he => ⟨by have := (q6 e he).len; omega, (q6 e he).ok⟩⟩, ⟨h7, lR fun e he => ⟨by have := (q7 e he).len; omega, (q7 e he).ok⟩⟩, ⟨h8, lR fun e he => ⟨by have := (q8 e he).len; omega, (q8 e he).ok⟩⟩, trivial, ⟨h10, lR fun e he => ⟨by have := (q10 e he).len; omega, (q10 e he).ok⟩⟩, trivial⟩
inductive bW : List (aA false) → Prop
  | mk (e0 : List (List (aA false))) (e1 : List (List (aA false))) (e2 : List (List (aA false))) (h0 : e0.length ≤ maxLen) (q0 : ∀ e ∈ e0, dS e) (h1 : e1.length ≤ maxLen) (q1 : ∀ e ∈ e1, dS e) (h2 : e2.length ≤ maxLen) (q2 : ∀ e ∈ e2, eO e) : bW [.sl fP e0, .sl fP e1, .sl fP e2]
theorem bW.ex {ls : List (aA false)} (h : bW ls) : ∃ (e0 : List (List (aA false))) (e1 : List (List (aA false))) (e2 : List (List (aA false))), ls = [.sl fP e0, .sl fP e1, .sl fP e2] ∧ e0.length ≤ maxLen ∧ (∀ e ∈ e0, dS e) ∧ e1.length ≤ maxLen ∧ (∀ e ∈ e1, dS e) ∧ e2.length ≤ maxLen ∧ (∀ e ∈ e2, eO e) := by
  cases h with
  | mk e0 e1 e2 h0 q0 h1 q1 h2 q2 => exact ⟨e0, e1, e2, rfl, h0, q0, h1, q1, h2, q2⟩
theorem bW.len {ls : List (aA false)} (h : bW ls) : ls.length = 3 := by cases h; rfl
theorem bW.ok {ls : List (aA false)} (h : bW ls) : okL 16 ls := by
  cases h with
  | mk e0 e1 e2 h0 q0 h1 q1 h2 q2 => simp only [okL, okF]; exact ⟨⟨h0, lR fun e he => ⟨by have := (q0 e he).len; omega, (q0 e he).ok⟩⟩, ⟨h1, lR fun e he => ⟨by have := (q1 e he).len; omega, (q1 e he).ok⟩⟩, ⟨h2, lR fun e he => ⟨by have := (q2 e he).len; omega, (q2 e he).ok⟩⟩, trivial⟩
inductive cF : List (aA false) → Prop
  | mk (i0 : Int) (s1 : ByteArray) (s2 : ByteArray)  : cF [.int .i64 i0, .str s1, .str s2]
theorem cF.ex {ls : List (aA false)} (h : cF ls) : ∃ (i0 : Int) (s1 : ByteArray) (s2 : ByteArray), ls = [.int .i64 i0, .str s1, .str s2] := by
  cases h with
  | mk i0 s1 s2  => exact ⟨i0, s1, s2, rfl⟩
theorem cF.len {ls : List (aA false)} (h : cF ls) : ls.length = 3 := by cases h; rfl
theorem lQ.st {e : El} (h : lQ e) : ∃ x : nL, e = x.l ∧ lQ x.l := by
  cases h with
  | mk s0 s1 h0 h1 => exact ⟨⟨s0, s1⟩, rfl, .mk s0 s1 h0 h1⟩
theorem lQ.of {e : El} (h : lQ e) : (nL.of e).l = e := by obtain ⟨x, rfl, _⟩ := h.st; rfl
theorem lQ.nosl {e : El} (h : lQ e) : e.all aRU = true := by obtain ⟨x, rfl, _⟩ := h.st; rfl
theorem lQ.p {x : nL} (h : lQ x.l) : (x.a0.size ≤ maxLen) ∧ (x.a1.size ≤ maxLen) := by
  obtain ⟨s0, s1⟩ := x
  have h1 : lQ [.str s0, .str s1] := h
  cases h1 with
  | mk _ _ h0 h1 => exact ⟨h0, h1⟩
theorem dM.st {e : El} (h : dM e) : ∃ x : fN, e = x.l ∧ dM x.l := by
  cases h with
  | mk i0 s1 e2 e3 h1 h2 q2 h3 q3 => exact ⟨⟨i0, s1, e2, e3⟩, rfl, .mk i0 s1 e2 e3 h1 h2 q2 h3 q3⟩
theorem dM.of {e : El} (h : dM e) : (fN.of e).l = e := by obtain ⟨x, rfl, _⟩ := h.st; rfl
theorem dM.p {x : fN} (h : dM x.l) : (x.a1.size ≤ maxLen) ∧ (x.a2.length ≤ maxLen) ∧ (∀ e ∈ x.a2, dM e) ∧ (x.a3.length ≤ maxLen) ∧ (∀ e ∈ x.a3, dP e) := by
  obtain ⟨i0, s1, e2, e3⟩ := x
  have h1 : dM [.int .i64 i0, .str s1, .sl fP e2, .sl fP e3] := h
  cases h1 with
  | mk _ _ _ _ h1 h2 q2 h3 q3 => exact ⟨h1, h2, q2, h3, q3⟩
theorem jW.st {e : El} (h : jW e) : ∃ x : eY, e = x.l ∧ jW x.l := by
  cases h with
  | mk s0 i1 s2 e3 e4 h0 h2 h3 q3 h4 q4 => exact ⟨⟨s0, i1, s2, e3, e4⟩, rfl, .mk s0 i1 s2 e3 e4 h0 h2 h3 q3 h4 q4⟩
theorem jW.of {e : El} (h : jW e) : (eY.of e).l = e := by obtain ⟨x, rfl, _⟩ := h.st; rfl
theorem jW.p {x : eY} (h : jW x.l) : (x.a0.size ≤ maxLen) ∧ (x.a2.size ≤ maxLen) ∧ (x.a3.length ≤ maxLen) ∧ (∀ e ∈ x.a3, dM e) ∧ (x.a4.length ≤ maxLen) ∧ (∀ e ∈ x.a4, dP e) := by
  obtain ⟨s0, i1, s2, e3, e4⟩ := x
  have h1 : jW [.str s0, .int .i64 i1, .str s2, .sl fP e3, .sl fP e4] := h
  cases h1 with
  | mk _ _ _ _ _ h0 h2 h3 q3 h4 q4 => exact ⟨h0, h2, h3, q3, h4, q4⟩
theorem fO.st {e : El} (h : fO e) : ∃ x : rX, e = x.l ∧ fO x.l := by
  cases h with
  | mk s0 e1 h0 h1 q1 => exact ⟨⟨s0, e1⟩, rfl, .mk s0 e1 h0 h1 q1⟩
theorem fO.of {e : El} (h : fO e) : (rX.of e).l = e := by obtain ⟨x, rfl, _⟩ := h.st; rfl
theorem fO.p {x : rX} (h : fO x.l) : (x.a0.size ≤ maxLen) ∧ (x.a1.length ≤ maxLen) ∧ (∀ e ∈ x.a1, jW e) := by
  obtain ⟨s0, e1⟩ := x
  have h1 : fO [.str s0, .sl fP e1] := h
  cases h1 with
  | mk _ _ h0 h1 q1 => exact ⟨h0, h1, q1⟩
theorem cI.st {e : El} (h : cI e) : ∃ x : bR, e = x.l ∧ cI x.l := by
  cases h with
  | mk s0 s1 s2 s3 b4 i5 s6 e7 e8 e9 h0 h1 h2 h3 h6 h7 q7 h8 q8 h9 q9 => exact ⟨⟨s0, s1, s2, s3, b4, i5, s6, e7, e8, e9⟩, rfl, .mk s0 s1 s2 s3 b4 i5 s6 e7 e8 e9 h0 h1 h2 h3 h6 h7 q7 h8 q8 h9 q9⟩
theorem cI.of {e : El} (h : cI e) : (bR.of e).l = e := by obtain ⟨x, rfl, _⟩ := h.st; rfl
theorem cI.p {x : bR} (h : cI x.l) : (x.a0.size ≤ maxLen) ∧ (x.a1.size ≤ maxLen) ∧ (x.a2.size ≤ maxLen) ∧ (x.a3.size ≤ maxLen) ∧ (x.a6.size ≤ maxLen) ∧ (x.a7.length ≤ maxLen) ∧ (∀ e ∈ x.a7, dM e) ∧ (x.a8.length ≤ maxLen) ∧ (∀ e ∈ x.a8, dP e) ∧ (x.a9.length ≤ maxLen) ∧ (∀ e ∈ x.a9, fO e) := by
  obtain ⟨s0, s1, s2, s3, b4, i5, s6, e7, e8, e9⟩ := x
  have h1 : cI [.str s0, .str s1, .str s2, .str s3, .bool b4, .int .i64 i5, .str s6, .sl fP e7, .sl fP e8, .sl fP e9] := h
  cases h1 with
  | mk _ _ _ _ _ _ _ _ _ _ h0 h1 h2 h3 h6 h7 q7 h8 q8 h9 q9 => exact ⟨h0, h1, h2, h3, h6, h7, q7, h8, q8, h9, q9⟩
theorem cE.st {e : El} (h : cE e) : ∃ x : cO, e = x.l ∧ cE x.l := by
  cases h with
  | mk s0 s1 e2 s3 s4 e5 h0 h1 h2 q2 h3 h4 h5 q5 => exact ⟨⟨s0, s1, e2, s3, s4, e5⟩, rfl, .mk s0 s1 e2 s3 s4 e5 h0 h1 h2 q2 h3 h4 h5 q5⟩
theorem cE.of {e : El} (h : cE e) : (cO.of e).l = e := by obtain ⟨x, rfl, _⟩ := h.st; rfl
theorem cE.p {x : cO} (h : cE x.l) : (x.a0.size ≤ maxLen) ∧ (x.a1.size ≤ maxLen) ∧ (x.a2.length ≤ maxLen) ∧ (∀ e ∈ x.a2, cI e) ∧ (x.a3.size ≤ maxLen) ∧ (x.a4.size ≤ maxLen) ∧ (x.a5.length ≤ maxLen) ∧ (∀ e ∈ x.a5, fO e) := by
  obtain ⟨s0, s1, e2, s3, s4, e5⟩ := x
  have h1 : cE [.str s0, .str s1, .sl fP e2, .str s3, .str s4, .sl fP e5] := h
  cases h1 with
  | mk _ _ _ _ _ _ h0 h1 h2 q2 h3 h4 h5 q5 => exact ⟨h0, h1, h2, q2, h3, h4, h5, q5⟩
theorem cK.st {e : El} (h : cK e) : ∃ x : lY, e = x.l ∧ cK x.l := by
  cases h with
  | mk s0 s1 e2 h0 h1 h2 q2 => exact ⟨⟨s0, s1, e2⟩, rfl, .mk s0 s1 e2 h0 h1 h2 q2⟩
theorem cK.of {e : El} (h : cK e) : (lY.of e).l = e := by obtain ⟨x, rfl, _⟩ := h.st; rfl
theorem cK.p {x : lY} (h : cK x.l) : (x.a0.size ≤ maxLen) ∧ (x.a1.size ≤ maxLen) ∧ (x.a2.length ≤ maxLen) ∧ (∀ e ∈ x.a2, fO e) := by
  obtain ⟨s0, s1, e2⟩ := x
  have h1 : cK [.str s0, .str s1, .sl fP e2] := h
  cases h1 with
  | mk _ _ _ h0 h1 h2 q2 => exact ⟨h0, h1, h2, q2⟩
theorem eO.st {e : El} (h : eO e) : ∃ x : rB, e = x.l ∧ eO x.l := by
  cases h with
  | mk i0 s1 h1 => exact ⟨⟨i0, s1⟩, rfl, .mk i0 s1 h1⟩
theorem eO.of {e : El} (h : eO e) : (rB.of e).l = e := by obtain ⟨x, rfl, _⟩ := h.st; rfl
theorem eO.nosl {e : El} (h : eO e) : e.all aRU = true := by obtain ⟨x, rfl, _⟩ := h.st; rfl
theorem eO.p {x : rB} (h : eO x.l) : (x.a1.size ≤ maxLen) := by
  obtain ⟨i0, s1⟩ := x
  have h1 : eO [.int .i64 i0, .str s1] := h
  cases h1 with
  | mk _ _ h1 => exact h1
theorem dS.st {e : El} (h : dS e) : ∃ x : aE, e = x.l ∧ dS x.l := by
  cases h with
  | mk i0 b1 s2 s3 e4 e5 e6 e7 e8 b9 e10 h2 h3 h4 q4 h5 q5 h6 q6 h7 q7 h8 q8 h10 q10 => exact ⟨⟨i0, b1, s2, s3, e4, e5, e6, e7, e8, b9, e10⟩, rfl, .mk i0 b1 s2 s3 e4 e5 e6 e7 e8 b9 e10 h2 h3 h4 q4 h5 q5 h6 q6 h7 q7 h8 q8 h10 q10⟩
theorem dS.of {e : El} (h : dS e) : (aE.of e).l = e := by obtain ⟨x, rfl, _⟩ := h.st; rfl
theorem dS.p {x : aE} (h : dS x.l) : (x.a2.size ≤ maxLen) ∧ (x.a3.size ≤ maxLen) ∧ (x.a4.length ≤ maxLen) ∧ (∀ e ∈ x.a4, dP e) ∧ (x.a5.length ≤ maxLen) ∧ (∀ e ∈ x.a5, cE e) ∧ (x.a6.length ≤ maxLen) ∧ (∀ e ∈ x.a6, cI e) ∧ (x.a7.length ≤ maxLen) ∧ (∀ e ∈ x.a7, cK e) ∧ (x.a8.length ≤ maxLen) ∧ (∀ e ∈ x.a8, eO e) ∧ (x.a10.length ≤ maxLen) ∧ (∀ e ∈ x.a10, fO e) := by
  obtain ⟨i0, b1, s2, s3, e4, e5, e6, e7, e8, b9, e10⟩ := x
  have h1 : dS [.int .i64 i0, .bool b1, .str s2, .str s3, .sl fP e4, .sl fP e5, .sl fP e6, .sl fP e7, .sl fP e8, .bool b9, .sl fP e10] := h
  cases h1 with
  | mk _ _ _ _ _ _ _ _ _ _ _ h2 h3 h4 q4 h5 q5 h6 q6 h7 q7 h8 q8 h10 q10 => exact ⟨h2, h3, h4, q4, h5, q5, h6, q6, h7, q7, h8, q8, h10, q10⟩
theorem bW.st {e : El} (h : bW e) : ∃ x : dD, e = x.l ∧ bW x.l := by
  cases h with
  | mk e0 e1 e2 h0 q0 h1 q1 h2 q2 => exact ⟨⟨e0, e1, e2⟩, rfl, .mk e0 e1 e2 h0 q0 h1 q1 h2 q2⟩
theorem bW.of {e : El} (h : bW e) : (dD.of e).l = e := by obtain ⟨x, rfl, _⟩ := h.st; rfl
theorem bW.p {x : dD} (h : bW x.l) : (x.a0.length ≤ maxLen) ∧ (∀ e ∈ x.a0, dS e) ∧ (x.a1.length ≤ maxLen) ∧ (∀ e ∈ x.a1, dS e) ∧ (x.a2.length ≤ maxLen) ∧ (∀ e ∈ x.a2, eO e) := by
  obtain ⟨e0, e1, e2⟩ := x
  have h1 : bW [.sl fP e0, .sl fP e1, .sl fP e2] := h
  cases h1 with
  | mk _ _ _ h0 q0 h1 q1 h2 q2 => exact ⟨h0, q0, h1, q1, h2, q2⟩
theorem cF.st {e : El} (h : cF e) : ∃ x : eV, e = x.l ∧ cF x.l := by
  cases h with
  | mk i0 s1 s2 => exact ⟨⟨i0, s1, s2⟩, rfl, .mk i0 s1 s2⟩
theorem cF.of {e : El} (h : cF e) : (eV.of e).l = e := by obtain ⟨x, rfl, _⟩ := h.st; rfl
theorem cF.nosl {e : El} (h : cF e) : e.all aRU = true := by obtain ⟨x, rfl, _⟩ := h.st; rfl
end Go.Vs
end
section
open Go Go.Vs Go.Proofs
set_option linter.unusedVariables false
set_option linter.unusedSimpArgs false
namespace Go.Vs
end Go.Vs
end
section
open Go Go.Vs Go.Proofs
set_option linter.unusedVariables false
set_option linter.unusedSimpArgs false
namespace Go.Vs
theorem tl (s : ByteArray) : s.toList = s.data.toList := by first | exact ByteArray.toList_eq s | exact Go.ByteArray.toList_eq s
end Go.Vs
end
section
open Go Go.Vs Go.Proofs
set_option linter.unusedVariables false
set_option linter.unusedSimpArgs false
namespace Go.Vs
end Go.Vs
end
section
open Go Go.Vs Go.Proofs
set_option linter.unusedVariables false
set_option linter.unusedSimpArgs false
namespace Go.Vs
def sG (s : dD) (n : ByteArray) : Int := if s.a0.length > 60 then -1 else gY (at3 n) 0 s.a0
theorem aAj {s : dD} {n : ByteArray} (hs : bW s.l) (h : ¬ sG s n < 0) : ∃ (j : Nat) (hj : j < s.a0.length) (y : aE), sG s n = (j : Int) ∧ s.a0[j] = y.l ∧ dS y.l := by
  unfold sG at h ⊢
  split at h
  · omega
  · rename_i h60
    obtain ⟨j, hj, hi, _⟩ := xG h
    obtain ⟨y, hy, iy⟩ := (hs.p.2.1 _ (List.getElem_mem hj)).st
    exact ⟨j, hj, y, by rw [if_neg h60, hi], hy, iy⟩
def aEg : aE := ⟨0, false, nul, nul, [], [], [], [], [], false, []⟩
theorem aOU : dS aEg.l := show dS [.int .i64 0, .bool false, .str nul, .str nul, .sl fP [], .sl fP [], .sl fP [], .sl fP [], .sl fP [], .bool false, .sl fP []] from
  .mk 0 false nul nul [] [] [] [] [] false [] (by decide) (by decide) (by decide) (fun _ h => by cases h) (by decide) (fun _ h => by cases h) (by decide) (fun _ h => by cases h) (by decide) (fun _ h => by cases h) (by decide) (fun _ h => by cases h) (by decide) (fun _ h => by cases h)
def aKL (s : dD) (n : ByteArray) : aE := if sG s n < 0 then aEg else .of (s.a0.getD (sG s n).toNat [])
theorem aBS {s : dD} {n : ByteArray} {j : Nat} {hj : j < s.a0.length} {y : aE} (hi : sG s n = (j : Int)) (hy : s.a0[j] = y.l) : aKL s n = y := by
  unfold aKL
  rw [hi, if_neg (by omega), Int.toNat_natCast, aZ hj, hy]
  rfl
section
variable {s : dD} {n a b : ByteArray}
theorem aD7 (hs : bW s.l) : Dn F.aT5 [.agg s.l, .leaf (.str n)] [] = some (aG (sG s n), []) := by
  obtain ⟨hl, hq, _⟩ := hs.p
  refine aW ?_
  rw [aIp]
  unfold sG
  by_cases h60 : s.a0.length > 60
  · rw [if_pos h60, sI]
    simp -implicitDefEqProofs only [sS, bT, show ((s.a0.length : Int) ≤ 60) = False by simp; omega, decide_false, aI, aHV]
  · rw [if_neg h60]
    have h6 : ((s.a0.length : Nat) : Int) ≤ 60 := by omega
    refine aBP (es := s.a0) (A := fun i => eP Dn (tT n i s)) (by rw [sI]; simp [sS]) fun i hi => ?_
    obtain ⟨x, hx, _⟩ := (hq _ (List.getElem_mem hi)).st
    rw [sI]
    simp -implicitDefEqProofs only [inI, hi, h6, bT, sS, bC (Nat.lt_of_lt_of_le hi hl), aQ (fun e he => (hq e he).len), aZ hi, hx, atP]
    rfl
theorem aD8 (hs : bW s.l) : Dn F.aTW [.agg s.l, .leaf (.str n)] [] = some (aG (sG s n), []) := by
  obtain ⟨hl, hq, _⟩ := hs.p
  have key : Dn F.aSv [vsl s.a0, .fn F.aTT [.ptr 0 0]] [[.leaf (.str n)]] = some (aG (gY (at3 n) 0 s.a0), [[.leaf (.str n)]]) := by
    refine aW ?_
    rw [gB]
    refine aBP (es := s.a0) (A := fun i => bN Dn (cY s.a0 F.aTT s.a0.length i n)) (by rw [dH]; simp) fun i hi => ?_
    obtain ⟨x, hx, _⟩ := (hq _ (List.getElem_mem hi)).st
    have hc : Dn F.aTT [.agg x.l, .ptr 0 0] [[.leaf (.str n)]] = some (aN (x.a3.toList == n.toList), [[.leaf (.str n)]]) := aW (aAk ..)
    rw [dH]
    simp -implicitDefEqProofs only [inI, hi, bC (Nat.lt_of_lt_of_le hi hl), aQ (fun e he => (hq e he).len), aZ hi, hx, aE.rd_l, hc, aKE]
    rfl
  have k2 : Dn F.aUt [vsl s.a0, .leaf (.str n)] [] = some (aG (sG s n), []) := by
    refine aW ?_
    rw [aCb, key, aNx, bO]
    unfold sG
    by_cases h60 : s.a0.length > 60
    · rw [if_pos h60, if_pos (by simp; omega)]
    · rw [if_neg h60, if_neg (by simp; omega)]
  refine aW ?_
  rw [aIF, k2, pG]
theorem aI1 (hs : bW s.l) : Dn F.aTQ [.agg s.l, .leaf (.str n)] [] = some (.tup [.agg (aKL s n).l, aN (!decide (sG s n < 0))], []) := by
  refine aW ?_
  rw [aGA, aD8 hs, pG]
  by_cases h : sG s n < 0
  · have : aKL s n = aEg := by unfold aKL; rw [if_pos h]
    rw [this]
    simp -implicitDefEqProofs only [h, decide_true, aF]
    rfl
  · obtain ⟨j, hj, y, hi, hy, iy⟩ := aAj hs h
    have hn : ¬ ((j : Int) < 0) := by omega
    rw [aBS hi hy, hi]
    simp -implicitDefEqProofs only [hn, decide_false, aI, inI, hj, aQ (fun e he => (hs.p.2.1 e he).len), aZ hj, hy, aE.rd_l]
    rfl
end
end Go.Vs
end
section
open Go Go.Vs Go.Proofs
set_option linter.unusedVariables false
set_option linter.unusedSimpArgs false
namespace Go.Vs
def rZ (x : aE) : Bool := decide ((x.a4.length : Int) > 100) || (decide ((x.a5.length : Int) > 100) || (decide ((x.a6.length : Int) > 100) || (decide ((x.a7.length : Int) > 100) || x.a5.any fun f => decide (((slAt f 2).length : Int) > 100))))
theorem aNy {x : aE} (h : rZ x = false) : x.a4.length ≤ 100 ∧ x.a5.length ≤ 100 ∧ x.a6.length ≤ 100 ∧ x.a7.length ≤ 100 ∧ ∀ f ∈ x.a5, (slAt f 2).length ≤ 100 := by
  unfold rZ at h
  simp -implicitDefEqProofs only [Bool.or_eq_false_iff, decide_eq_false_iff_not, List.any_eq_false, decide_eq_true_eq] at h
  obtain ⟨h1, h2, h3, h4, h5⟩ := h
  exact ⟨by omega, by omega, by omega, by omega, fun f hf => by have := h5 f hf; omega⟩
theorem aDZ {x : aE} (hx : dS x.l) : Dn F.aTV [.agg x.l] [] = some (aN (rZ x), []) := by
  obtain ⟨_, _, _, _, hl, hq, _⟩ := hx.p
  refine aW ?_
  rw [aIx]
  have := aJg (es := x.a5) (p := fun f => decide (((slAt f 2).length : Int) > 100)) (A := fun i => kA Dn (tJ i x)) (yes := some (aN true, []))
    (no := some (aN (decide ((x.a4.length : Int) > 100) || (decide ((x.a5.length : Int) > 100) || (decide ((x.a6.length : Int) > 100) || decide ((x.a7.length : Int) > 100)))), [])) (by
      rw [zZ]
      simp -implicitDefEqProofs only [Int.lt_irrefl, decide_false, aI, bF, xH]
      cases decide ((x.a4.length : Int) > 100) <;> cases decide ((x.a5.length : Int) > 100) <;> cases decide ((x.a6.length : Int) > 100) <;> rfl) fun i hi => by
    obtain ⟨y, hy, _⟩ := (hq _ (List.getElem_mem hi)).st
    rw [zZ]
    simp -implicitDefEqProofs only [inI, hi, bC (Nat.lt_of_lt_of_le hi hl), aQ (fun e he => (hq e he).len), aZ hi, hy, atP]
    rfl
  rw [this]
  unfold rZ
  cases hb : x.a5.any fun f => decide (((slAt f 2).length : Int) > 100)
  · simp -implicitDefEqProofs only [Bool.false_eq_true, if_false, Bool.or_false]
  · simp -implicitDefEqProofs only [if_true, Bool.or_true]
theorem aKf {x : aE} (hx : dS x.l) : Dn F.aTH [.agg x.l] [] = some (aN (rZ x), []) := by
  obtain ⟨_, _, _, _, hl, hq, _⟩ := hx.p
  have key : Dn F.aSp [vsl x.a5, .fn F.aS5 []] [] = some (aG (gY (fun f => decide (((slAt f 2).length : Int) > 100)) 0 x.a5), []) := by
    refine aW ?_
    rw [jN]
    refine aBP (es := x.a5) (A := fun i => bK Dn (cZ x.a5 F.aS5 x.a5.length i)) (by rw [eK]; simp) fun i hi => ?_
    obtain ⟨y, hy, _⟩ := (hq _ (List.getElem_mem hi)).st
    have hc : Dn F.aS5 [.agg y.l] [] = some (aN (decide ((y.a2.length : Int) > 100)), []) := aW (aEH ..)
    rw [eK]
    simp -implicitDefEqProofs only [inI, hi, bC (Nat.lt_of_lt_of_le hi hl), aQ (fun e he => (hq e he).len), aZ hi, hy, cO.rd_l, hc, aC7]
    rfl
  have k2 : Dn F.aSo [vsl x.a5, .fn F.aS5 []] [] = some (aN (x.a5.any fun f => decide (((slAt f 2).length : Int) > 100)), []) := by
    refine aW ?_
    rw [iX, key, aMA, aCV _ _ _ (by omega)]
  refine aW ?_
  rw [aG0]
  unfold rZ
  simp -implicitDefEqProofs only [aFT, k2, aC7, bF, xH]
  cases decide ((x.a4.length : Int) > 100) <;> cases decide ((x.a5.length : Int) > 100) <;> cases decide ((x.a6.length : Int) > 100) <;> cases decide ((x.a7.length : Int) > 100) <;> rfl
end Go.Vs
end
section
open Go Go.Vs Go.Proofs
set_option linter.unusedVariables false
set_option linter.unusedSimpArgs false
namespace Go.Vs
section
variable {s : dD}
def opW (k : Int) : ByteArray := if (k == 1) = true then ByteArray.mk #[113, 117, 101, 114, 121] else if (k == 2) = true then ByteArray.mk #[109, 117, 116, 97, 116, 105, 111, 110] else if (k == 3) = true then ByteArray.mk #[115, 117, 98, 115, 99, 114, 105, 112, 116, 105, 111, 110] else ByteArray.mk #[]
theorem aD1 {k : Int} : Dn F.aT6 [aG k] [] = some (.leaf (.str (opW k)), []) := by
  refine aW ?_
  rw [aIl]
  unfold opW
  simp -implicitDefEqProofs only [bO]
  cases (k == 1) <;> cases (k == 2) <;> cases (k == 3) <;> rfl
theorem aEs {k : Int} : Dn F.aUi [aG k] [] = some (.leaf (.str (opW k)), []) := by
  have hi : Dn F.aUJ [aG k, aG 1, aG 3] [] = some (aN (decide (1 ≤ k) && decide (k ≤ 3)), []) := by
    refine aW ?_
    rw [aHJ]
    simp -implicitDefEqProofs only [bT]
    by_cases h : 1 ≤ k
    · simp [h]
    · simp [h]
  refine aW ?_
  rw [aIw, hi, lG]
  by_cases h : 1 ≤ k ∧ k ≤ 3
  · have hk : k = 1 ∨ k = 2 ∨ k = 3 := by omega
    rcases hk with rfl | rfl | rfl <;> rfl
  · have hb : (decide (1 ≤ k) && decide (k ≤ 3)) = false := by
      rw [Bool.and_eq_false_iff, decide_eq_false_iff_not, decide_eq_false_iff_not]; omega
    have h1 : (k == 1) = false := by rw [beq_eq_false_iff_ne]; omega
    have h2 : (k == 2) = false := by rw [beq_eq_false_iff_ne]; omega
    have h3 : (k == 3) = false := by rw [beq_eq_false_iff_ne]; omega
    rw [hb, Bool.not_false, aF]
    unfold opW
    rw [h1, h2, h3]
    rfl
def atI (k : Int) (e : El) : Bool := intAt e 0 == k
def pN (s : dD) (k : Int) : ByteArray := if gY (atI k) 0 s.a2 < 0 then ByteArray.mk #[] else aY (s.a2.getD (gY (atI k) 0 s.a2).toNat []) 1
theorem aDT {k : Int} (hs : bW s.l) : Dn F.aT8 [.agg s.l, aG k] [] = some (.leaf (.str (pN s k)), []) := by
  obtain ⟨_, _, _, _, hl, hq⟩ := hs.p
  refine aW ?_
  rw [aIt]
  have := sV (es := s.a2) (p := atI k) (A := fun i => jU Dn (tW k i s)) (yes := fun i => some (.leaf (.str (aY (s.a2.getD i.toNat []) 1)), [])) (no := some (.leaf (.str (ByteArray.mk #[])), []))
    (by rw [zM]; simp) fun i hi => by
      obtain ⟨y, hy, _⟩ := (hq _ (List.getElem_mem hi)).st
      have hw := bC (Nat.lt_of_lt_of_le hi hl)
      rw [zM]
      simp -implicitDefEqProofs only [inI, hi, aQ (fun e he => (hq e he).len), aZ hi, hy, atP, hw]
      rfl
  rw [this]
  unfold pN
  split <;> rfl
theorem aEi {k : Int} (hs : bW s.l) : Dn F.aUf [.agg s.l, aG k] [] = some (.leaf (.str (pN s k)), []) := by
  obtain ⟨_, _, _, _, hl, hq⟩ := hs.p
  refine aW ?_
  rw [aIf]
  have := sV (es := s.a2) (p := atI k) (A := fun i => kC Dn (tD k s.a2 s.a2.length i)) (yes := fun i => some (.leaf (.str (aY (s.a2.getD i.toNat []) 1)), [])) (no := some (.leaf (.str (ByteArray.mk #[])), []))
    (by rw [aAs]; simp) fun i hi => by
      obtain ⟨y, hy, _⟩ := (hq _ (List.getElem_mem hi)).st
      have hw := bC (Nat.lt_of_lt_of_le hi hl)
      rw [aAs]
      simp -implicitDefEqProofs only [inI, hi, aQ (fun e he => (hq e he).len), aZ hi, hy, rB.rd_l, hw]
      rfl
  rw [this]
  unfold pN
  split <;> rfl
end
end Go.Vs
end
section
open Go Go.Vs Go.Proofs
set_option linter.unusedVariables false
set_option linter.unusedSimpArgs false
namespace Go.Vs
def rO (es : List El) (n : ByteArray) : Int := if es.length > 60 then -1 else gY (at3 n) 0 es
theorem aGv {es : List El} {n : ByteArray} (hl : es.length ≤ maxLen) (hq : ∀ e ∈ es, dS e) : Dn F.aUt [vsl es, .leaf (.str n)] [] = some (aG (rO es n), []) := by
  have key : Dn F.aSv [vsl es, .fn F.aTT [.ptr 0 0]] [[.leaf (.str n)]] = some (aG (gY (at3 n) 0 es), [[.leaf (.str n)]]) := by
    refine aW ?_
    rw [gB]
    refine aBP (es := es) (A := fun i => bN Dn (cY es F.aTT es.length i n)) (by rw [dH]; simp) fun i hi => ?_
    obtain ⟨x, hx, _⟩ := (hq _ (List.getElem_mem hi)).st
    have hc : Dn F.aTT [.agg x.l, .ptr 0 0] [[.leaf (.str n)]] = some (aN (x.a3.toList == n.toList), [[.leaf (.str n)]]) := aW (aAk ..)
    rw [dH]
    simp -implicitDefEqProofs only [inI, hi, bC (Nat.lt_of_lt_of_le hi hl), aQ (fun e he => (hq e he).len), aZ hi, hx, aE.rd_l, hc, aKE]
    rfl
  refine aW ?_
  rw [aCb, key, aNx, bO]
  unfold rO
  by_cases h60 : es.length > 60
  · rw [if_pos h60, if_pos (by simp; omega)]
  · rw [if_neg h60, if_neg (by simp; omega)]
def aQv : List El := [[.str (ByteArray.mk #[70, 73, 69, 76, 68])], [.str (ByteArray.mk #[70, 82, 65, 71, 77, 69, 78, 84, 95, 83, 80, 82, 69, 65, 68])], [.str (ByteArray.mk #[73, 78, 76, 73, 78, 69, 95, 70, 82, 65, 71, 77, 69, 78, 84])]]
def ifL : List El := [[.str (ByteArray.mk #[105, 102]), .str (ByteArray.mk #[]), .str (ByteArray.mk #[66, 111, 111, 108, 101, 97, 110]), .str (ByteArray.mk #[33]), .bool false, .int .i64 0, .str (ByteArray.mk #[]), .sl fP [], .sl fP [], .sl fP []]]
def aLd (n : ByteArray) : aE := ⟨7, false, ByteArray.mk #[], n, aQv, [], ifL, [], [], false, []⟩
def aRc : aE := ⟨7, false, ByteArray.mk #[], ByteArray.mk #[100, 101, 112, 114, 101, 99, 97, 116, 101, 100], [[.str (ByteArray.mk #[70, 73, 69, 76, 68, 95, 68, 69, 70, 73, 78, 73, 84, 73, 79, 78])], [.str (ByteArray.mk #[65, 82, 71, 85, 77, 69, 78, 84, 95, 68, 69, 70, 73, 78, 73, 84, 73, 79, 78])], [.str (ByteArray.mk #[73, 78, 80, 85, 84, 95, 70, 73, 69, 76, 68, 95, 68, 69, 70, 73, 78, 73, 84, 73, 79, 78])], [.str (ByteArray.mk #[69, 78, 85, 77, 95, 86, 65, 76, 85, 69])]], [],
  [[.str (ByteArray.mk #[114, 101, 97, 115, 111, 110]), .str (ByteArray.mk #[]), .str (ByteArray.mk #[83, 116, 114, 105, 110, 103]), .str (ByteArray.mk #[]), .bool true, .int .i64 4, .str (ByteArray.mk #[78, 111, 32, 108, 111, 110, 103, 101, 114, 32, 115, 117, 112, 112, 111, 114, 116, 101, 100]), .sl fP [], .sl fP [], .sl fP []]], [], [], false, []⟩
def fM : List El := [aRc.l, (aLd (ByteArray.mk #[105, 110, 99, 108, 117, 100, 101])).l, (aLd (ByteArray.mk #[115, 107, 105, 112])).l]
theorem aOK {l : List ByteArray} (h : ∀ s ∈ l, s.size ≤ maxLen) : ∀ e ∈ l.map (fun s => [aA.str s]), dP e := fun e he => by
  obtain ⟨s, hs, rfl⟩ := List.mem_map.1 he
  exact ⟨s, rfl, h s hs⟩
theorem aRq {a b c d e : ByteArray} {q : Bool} {k : Int} (h0 : a.size ≤ 100) (h1 : b.size ≤ 100) (h2 : c.size ≤ 100) (h3 : d.size ≤ 100) (h4 : e.size ≤ 100) : ∀ x ∈ ([[.str a, .str b, .str c, .str d, .bool q, .int .i64 k, .str e, .sl fP [], .sl fP [], .sl fP []]] : List El), cI x := fun x hx => by
  have hm : maxLen = 9223372036854775807 := rfl
  rw [List.mem_singleton.1 hx]
  exact .mk a b c d q k e [] [] [] (by omega) (by omega) (by omega) (by omega) (by omega) (by decide) (fun _ h => by cases h) (by decide) (fun _ h => by cases h) (by decide) (fun _ h => by cases h)
theorem aMD {x : aE} (h2 : x.a2.size ≤ 100) (h3 : x.a3.size ≤ 100) (l4 : x.a4.length ≤ 100) (q4 : ∀ e ∈ x.a4, dP e) (h5 : x.a5 = []) (l6 : x.a6.length ≤ 100) (q6 : ∀ e ∈ x.a6, cI e) (h7 : x.a7 = []) (h8 : x.a8 = []) (h10 : x.a10 = []) : dS x.l := by
  have hm : maxLen = 9223372036854775807 := rfl
  obtain ⟨a0, a1, a2, a3, a4, a5, a6, a7, a8, a9, a10⟩ := x
  simp only at h2 h3 l4 q4 h5 l6 q6 h7 h8 h10
  subst h5 h7 h8 h10
  exact .mk a0 a1 a2 a3 a4 [] a6 [] [] a9 [] (by omega) (by omega) (by omega) q4 (by decide) (fun _ h => by cases h) (by omega) q6 (by decide) (fun _ h => by cases h) (by decide) (fun _ h => by cases h) (by decide) (fun _ h => by cases h)
theorem aQT {n : ByteArray} (h : n.size ≤ 100) : dS (aLd n).l :=
  aMD (show (ByteArray.mk #[]).size ≤ 100 by decide) h (show aQv.length ≤ 100 by decide) (aOK (l := [ByteArray.mk #[70, 73, 69, 76, 68], ByteArray.mk #[70, 82, 65, 71, 77, 69, 78, 84, 95, 83, 80, 82, 69, 65, 68], ByteArray.mk #[73, 78, 76, 73, 78, 69, 95, 70, 82, 65, 71, 77, 69, 78, 84]]) (by decide)) rfl (show ifL.length ≤ 100 by decide)
    (aRq (by decide) (by decide) (by decide) (by decide) (by decide)) rfl rfl rfl
theorem aR6 : dS aRc.l :=
  aMD (by decide) (by decide) (by decide) (aOK (l := [ByteArray.mk #[70, 73, 69, 76, 68, 95, 68, 69, 70, 73, 78, 73, 84, 73, 79, 78], ByteArray.mk #[65, 82, 71, 85, 77, 69, 78, 84, 95, 68, 69, 70, 73, 78, 73, 84, 73, 79, 78], ByteArray.mk #[73, 78, 80, 85, 84, 95, 70, 73, 69, 76, 68, 95, 68, 69, 70, 73, 78, 73, 84, 73, 79, 78], ByteArray.mk #[69, 78, 85, 77, 95, 86, 65, 76, 85, 69]]) (by decide)) rfl (by decide)
    (aRq (by decide) (by decide) (by decide) (by decide) (by decide)) rfl rfl rfl
theorem aAz : ∀ e ∈ fM, dS e := fun e he => by
  simp -implicitDefEqProofs only [fM, List.mem_cons, List.not_mem_nil, or_false] at he
  rcases he with rfl | rfl | rfl
  · exact aR6
  · exact aQT (by decide)
  · exact aQT (by decide)
theorem aGL : Dn F.aS7 [] [] = some (.own (some T.aUI) fM, []) := by
  have fl : ∀ n : ByteArray, Dn F.aTI [.leaf (.str n)] [] = some (.agg (aLd n).l, []) := fun n => aW (aHF ..)
  refine aW ?_
  rw [aFp, fl, fl]
  simp -implicitDefEqProofs only [rdR, aSc, beq_self_eq_true, Bool.not_true, Bool.not_false, Bool.and_true, Bool.true_and, bT, bF, aE.va_l]
  rfl
theorem aG8 : Dn F.aTk [] [] = some (.own (some T.aUI) fM, []) := by
  refine aW ?_
  have step : ∀ (e : List El) (i : Int) (n : ByteArray), e.length ≤ 10 → 0 ≤ i → i < 2 → ([[.str (ByteArray.mk #[105, 110, 99, 108, 117, 100, 101])], [.str (ByteArray.mk #[115, 107, 105, 112])]] : List El).getD i.toNat [] = [.str n] →
      eQ Dn (kJ e i) = eQ Dn (kJ (e ++ [(aLd n).l]) (IntKind.i64.wrap (i + 1))) := fun e i n he h0 h2 hg => by
    rw [vE, decide_eq_true h2, aF, hg]
    have hr : decide ((e.length + 1) * 200 ≤ aH) = true := decide_eq_true (by have hb : aH = 140737488355328 := rfl; omega)
    rw [show (decide (0 ≤ i) && true && true) = true by simp [h0], aC, aNY, hr, Bool.and_true, aC]
    rfl
  have e1 : bL Tryz.prog Dn Hs cB F.aTk [] [] = eQ Dn (kJ [aRc.l] 0) := aEY Dn
  rw [e1, step _ 0 _ (by decide) (by decide) (by decide) rfl, step _ (IntKind.i64.wrap (0 + 1)) _ (by simp) (by decide) (by decide) rfl, vE]
  rw [show decide (IntKind.i64.wrap (IntKind.i64.wrap (0 + 1) + 1) < 2) = false by decide, aI]
  rfl
section
variable {s : dD} {n : ByteArray}
def nP (s : dD) (n : ByteArray) : Bool := if rO s.a1 n < 0 then !decide (gY (at3 n) 0 fM < 0) else true
def qR (s : dD) (n : ByteArray) : aE :=
  if rO s.a1 n < 0 then (if gY (at3 n) 0 fM < 0 then aEg else .of (fM.getD (gY (at3 n) 0 fM).toNat [])) else .of (s.a1.getD (rO s.a1 n).toNat [])
theorem aE7 {es : List El} (hq : ∀ e ∈ es, dS e) (h : ¬ rO es n < 0) : ∃ (j : Nat) (hj : j < es.length) (y : aE), rO es n = (j : Int) ∧ es[j] = y.l ∧ dS y.l := by
  unfold rO at h ⊢
  split at h
  · omega
  · rename_i h60
    obtain ⟨j, hj, hi, _⟩ := xG h
    obtain ⟨y, hy, iy⟩ := (hq _ (List.getElem_mem hj)).st
    exact ⟨j, hj, y, by rw [if_neg h60, hi], hy, iy⟩
theorem aEd (hs : bW s.l) : Dn F.aUa [.agg s.l, .leaf (.str n)] [] = some (.tup [.agg (qR s n).l, aN (nP s n)], []) := by
  have l3 : fM.length = 3 := rfl
  have nb : rO fM n = gY (at3 n) 0 fM := by unfold rO; rw [if_neg (by rw [l3]; omega)]
  refine aW ?_
  rw [aIh, aGv hs.p.2.2.1 hs.p.2.2.2.1, pG, aG8, jQ, aGv (by rw [l3]; decide) aAz, pG, nb]
  unfold qR nP
  by_cases h : rO s.a1 n < 0
  · have h' : ¬ rO s.a1 n ≥ 0 := by omega
    rw [if_pos h, if_pos h]
    simp -implicitDefEqProofs only [h', decide_false, aI]
    by_cases k : gY (at3 n) 0 fM < 0
    · have k' : ¬ gY (at3 n) 0 fM ≥ 0 := by omega
      simp -implicitDefEqProofs only [k, k', decide_true, decide_false, aI, if_true, Bool.not_true]
      rfl
    · obtain ⟨j, hj, hi, _⟩ := xG k
      obtain ⟨y, hy, iy⟩ := (aAz _ (List.getElem_mem hj)).st
      have hn : ¬ ((j : Int) < 0) := by omega
      have hg : (j : Int) ≥ 0 := by omega
      rw [hi]
      simp -implicitDefEqProofs only [hn, hg, decide_true, decide_false, aF, if_false, Bool.not_false, inI, hj, aQ (fun e he => (aAz e he).len), aZ hj, hy, aE.rd_l, aE.of_l]
  · obtain ⟨j, hj, y, hi, hy, iy⟩ := aE7 hs.p.2.2.2.1 h
    have hn : ¬ ((j : Int) < 0) := by omega
    have hg : (j : Int) ≥ 0 := by omega
    rw [hi]
    simp -implicitDefEqProofs only [hn, hg, decide_true, aF, if_false, inI, hj, aQ (fun e he => (hs.p.2.2.2.1 e he).len), aZ hj, hy, aE.rd_l, aE.of_l]
theorem aD6 (hs : bW s.l) : Dn F.aT9 [.agg s.l, .leaf (.str n)] [] = some (.tup [.agg (qR s n).l, aN (nP s n)], []) := by
  obtain ⟨_, _, hl, hq, _⟩ := hs.p
  have l3 : fM.length = 3 := rfl
  refine aW ?_
  rw [aII]
  have tail : dA Dn (pT n fM 0) = if gY (at3 n) 0 fM < 0 then some (.tup [.agg aEg.l, aN false], []) else some (.tup [.agg (aE.of (fM.getD (gY (at3 n) 0 fM).toNat [])).l, aN true], []) := by
    refine sV (es := fM) (p := at3 n) (A := fun i => dA Dn (pT n fM i)) (yes := fun i => some (.tup [.agg (aE.of (fM.getD i.toNat [])).l, aN true], [])) (no := some (.tup [.agg aEg.l, aN false], [])) (by rw [zH]; simp -implicitDefEqProofs only [Int.lt_irrefl, decide_false, aI]; rfl) fun i hi => ?_
    obtain ⟨y, hy, _⟩ := (aAz _ (List.getElem_mem hi)).st
    have hw := aRj (i := i) (by rw [l3] at hi; omega)
    rw [zH]
    simp -implicitDefEqProofs only [inI, hi, aQ (fun e he => (aAz e he).len), aZ hi, hy, atP, aE.rd_l, aE.of_l, hw]
    rfl
  have bu : ∀ i : Int, dA Dn (tK n i false s) = if gY (at3 n) 0 fM < 0 then some (.tup [.agg aEg.l, aN false], []) else some (.tup [.agg (aE.of (fM.getD (gY (at3 n) 0 fM).toNat [])).l, aN true], []) := fun i => by
    rw [zN, aI, aGL, jQ, tail]
  unfold qR nP rO
  by_cases h60 : s.a1.length > 60
  · rw [if_pos h60]
    have e6 : ¬ ((s.a1.length : Int) ≤ 60) := by omega
    rw [sM, decide_eq_false e6, aHV, bu]
    by_cases k : gY (at3 n) 0 fM < 0
    · simp [k]
    · simp [k]
  · rw [if_neg h60]
    have e6 : ((s.a1.length : Int) ≤ 60) := by omega
    have := sV (es := s.a1) (p := at3 n) (A := fun i => dA Dn (sZ n i s)) (yes := fun i => some (.tup [.agg (aE.of (s.a1.getD i.toNat [])).l, aN true], []))
      (no := if gY (at3 n) 0 fM < 0 then some (.tup [.agg aEg.l, aN false], []) else some (.tup [.agg (aE.of (fM.getD (gY (at3 n) 0 fM).toNat [])).l, aN true], []))
      (by rw [sM]; simp -implicitDefEqProofs only [Int.lt_irrefl, decide_false, show (false == true) = false from rfl, aI, bu]) fun i hi => by
        obtain ⟨y, hy, _⟩ := (hq _ (List.getElem_mem hi)).st
        have hw := bC (Nat.lt_of_lt_of_le hi hl)
        rw [sM]
        simp -implicitDefEqProofs only [inI, hi, beq_self_eq_true, e6, zN, aQ (fun e he => (hq e he).len), aZ hi, hy, atP, aE.rd_l, aE.of_l, hw]
        rfl
    rw [this]
    by_cases h : gY (at3 n) 0 s.a1 < 0
    · simp -implicitDefEqProofs only [h, if_true]
      by_cases k : gY (at3 n) 0 fM < 0
      · simp [k]
      · simp [k]
    · simp -implicitDefEqProofs only [h, if_false]
end
end Go.Vs
end
