/- What the program's functions compute, read off their text by the shadow runner (WToldD, VsBound, WTa, WTs, WTe, WD); no condition. -/
import Derived.Test.YtdbomanmhhhndaaGreatShelf
import Derived.Shelf.Slices.In.SortNone
import Derived.Test.YtdbomanmhhhndaaGreatVB5
section
open Go Go.Vs Go.Proofs
set_option linter.unusedVariables false
set_option linter.unusedSimpArgs false
namespace Go.Vs
open Go.RowKit Go.Sort in
abbrev tDf : TypeId := 31
noncomputable def iDf : TypeInfo := (Tryz.prog.info? T.aWj).getD default
theorem uDf : (Tryz.prog.underlying T.aWj).isSome = true := by kernel_rfl
theorem aTy : iDf.size = 11 := by kernel_rfl
theorem aTO : 0 < iDf.bytes := of_decide_eq_true (by kernel_rfl)
def nG (xs : List (List UInt8)) : List (List UInt8) := xs.mergeSort fun x y => decide (x ≤ y)
def aCl (xs : List (List UInt8)) : List (List UInt8) := Lib.compact xs ++ List.replicate (xs.length - (Lib.compact xs).length) []
open Classical in
noncomputable def aMU : List (SV false) → List (List (SV false)) → Ret false
  | [.bsl 0 1 0 n], [cs] => if h : ∃ xs, cs = nL xs ∧ n = xs.length ∧ xs.length ≤ 1000000 then some (.tup [], [nL (nG h.choose)]) else none
  | _, _ => none
open Classical in
noncomputable def aAS : List (SV false) → List (List (SV false)) → Ret false
  | [.bsl 0 1 0 n], [cs] => if h : ∃ xs, cs = nL xs ∧ n = xs.length ∧ xs.length ≤ 1000000 then some (.bsl 0 1 0 (Lib.compact h.choose).length, [nL (aCl h.choose)]) else none
  | _, _ => none
theorem zK (xs : List (List UInt8)) : (nG xs).length = xs.length := List.length_mergeSort xs
theorem zD (xs : List (List UInt8)) : (Lib.compact xs).length ≤ xs.length := by
  unfold Lib.compact Lib.compactUpTo
  rw [List.length_map]
  exact Nat.le_trans (List.length_filter_le _ _) (by simp)
theorem aKv : nG [] = [] := List.eq_nil_of_length_eq_zero (zK [])
theorem aMR (xs : List (List UInt8)) : (aCl xs).length = xs.length := by
  have := zD xs
  unfold aCl
  rw [List.length_append, List.length_replicate]; omega
noncomputable def aLV : aJP false := fun f => if f = F.aT5 then some (aIl Tryz.prog T.aWj iDf false) else if f = F.aUc then some aMU else if f = F.aT9 then some aAS else none
theorem aRf {N : Env} : lD Tryz.prog N (fun g args boxes => if g = F.aT5 then aIl (m := false) Tryz.prog T.aWj iDf false args boxes else none) := by
  intro g args boxes r hr hh hf
  replace hr : (if g = F.aT5 then aIl (m := false) Tryz.prog T.aWj iDf false args boxes else none) = some r := hr
  split at hr
  · rename_i hg
    subst hg
    exact aOG (P := Tryz.prog) (t := tDf) (d0 := (Tryz.prog.underlying T.aWj).get uDf) (z := iDf.zero.getD undef) (by kernel_rfl : Tryz.prog.funcs[F.aT5]? = some (uJ Tryz.prog F.aT5)) (by kernel_rfl) (by kernel_rfl) (by kernel_rfl) (by kernel_rfl)
      (Option.some_get uDf).symm (by kernel_rfl) (by kernel_rfl) (by kernel_rfl) (by kernel_rfl) (Nat.lt_of_lt_of_eq (by decide : 0 < 11) aTy.symm) aTO false args boxes r hr hh hf
  · simp at hr
theorem aSG : ∃ fn, Tryz.prog.funcs[F.aUc]? = some fn ∧ (fn.name == "runtime.NumGoroutine") = false ∧ fn.body.isNone = false := ⟨uJ Tryz.prog F.aUc, by kernel_rfl, by kernel_rfl, by kernel_rfl⟩
theorem aPS : ∃ fn, Tryz.prog.funcs[F.aT9]? = some fn ∧ (fn.name == "runtime.NumGoroutine") = false ∧ fn.body.isNone = false := ⟨uJ Tryz.prog F.aT9, by kernel_rfl, by kernel_rfl, by kernel_rfl⟩
theorem aP5 {s : St false} {vals : Array Value} {a : SV false} (h : s.tmps = [a]) (hl : s.tmps.length = vals.size) : vals = #[vals.getD 0 undef] := by
  have h3 : vals.size = 1 := by rw [← hl, h]; rfl
  apply Array.ext
  · simpa using h3
  · intro i hi hi2
    have : i = 0 := by omega
    subst this
    simp [Array.getD, hi]
theorem aOr {N : Env} {w : World} {F1 : Fr} {Ow : Own} {bm : Nat → Nat} {al : Nat → Bool} {loc : Loc} {n : Nat} {v : Value} (h : aW Tryz.prog w F1 N Ow bm al loc (.bsl 0 1 0 n : SV false) v) : aAd bm al 0 1 0 n v := by simp -implicitDefEqProofs only [aW, dC] at h; exact h
theorem aPP {N : Env} : lD Tryz.prog N (fun g a b => if g = F.aUc then aMU a b else none) := by
  intro g args boxes r hr hh hf
  replace hr : (if g = F.aUc then aMU args boxes else none) = some r := hr
  split at hr
  · rename_i hg
    subst hg
    unfold aMU at hr
    split at hr
    · rename_i n cs
      split at hr
      · rename_i hn
        simp -implicitDefEqProofs only [Option.some.injEq] at hr
        subst hr
        obtain ⟨hcs, hnn, hlx⟩ := hn.choose_spec
        generalize hn.choose = xs at hcs hnn hlx
        subst hcs hnn
        refine ⟨rfl, rfl, fun cs hcs c hc => ?_, aSG, fun w F1 Ow bm vals hI => ?_⟩
        · obtain rfl : cs = nL (nG xs) := by simpa using hcs
          exact aIT _ c hc
        have htup : ∀ w', aW Tryz.prog w' F1 N Ow bm (fun b => (bA [some (nL (nG xs))] b).isSome) (.tmp 0) (.tup [] : SV false) (.tuple #[]) := fun w' => by
          simp -implicitDefEqProofs only [aW]
          exact ⟨#[], rfl, rfl, fun j c u hc => by simp at hc⟩
        have hv := aP5 rfl hI.len
        rcases aOr (hI.slot 0) with ⟨⟨h0, A, cap, hu⟩ | ⟨cap, hu, hcap⟩, _⟩
        · have hx : xs = [] := List.eq_nil_of_length_eq_zero h0
          subst hx
          simp -implicitDefEqProofs only [aKv] at htup ⊢
          rw [hu] at hv
          subst hv
          refine (Go.Proofs.Any.slices_Sort_string_none Tryz.lays190 A cap w).mono fun e w' ⟨he, hw⟩ => ?_
          subst hw
          obtain ⟨q1, q2⟩ := aLp hI (htup w')
          exact ⟨_, F1, Ow, he, q1, q2⟩
        · by_cases hx : xs = []
          · subst hx
            simp -implicitDefEqProofs only [aKv] at htup ⊢
            rw [hu] at hv
            subst hv
            refine (Go.Proofs.Any.slices_Sort_string_none Tryz.lays190 _ cap w).mono fun e w' ⟨he, hw⟩ => ?_
            subst hw
            obtain ⟨q1, q2⟩ := aLp hI (htup w')
            exact ⟨_, F1, Ow, he, q1, q2⟩
          · obtain ⟨cur, e0, hb, hl, hF, hO, hH⟩ := aL6 hI rfl hx
            rw [hu] at hv
            subst hv
            refine (Tryz.slices_Sort_string (bm 0) 0 cap xs w hH (Array.getElem?_eq_some_iff.1 hb).1 (by omega)).mono fun e w' ⟨he, k, os, hw⟩ => ?_
            obtain ⟨q1, q2⟩ := aKs (ys := nG xs) hI hb (by rw [zK]; exact hl) hF hO hw (htup w')
            exact ⟨_, F1, Ow, he, q1, q2⟩
      · simp at hr
    · simp at hr
  · simp at hr
theorem aLX {N : Env} : lD Tryz.prog N (fun g a b => if g = F.aT9 then aAS a b else none) := by
  intro g args boxes r hr hh hf
  replace hr : (if g = F.aT9 then aAS args boxes else none) = some r := hr
  split at hr
  · rename_i hg
    subst hg
    unfold aAS at hr
    split at hr
    · rename_i n cs
      split at hr
      · rename_i hn
        simp -implicitDefEqProofs only [Option.some.injEq] at hr
        subst hr
        obtain ⟨hcs, hnn, hlx⟩ := hn.choose_spec
        generalize hn.choose = xs at hcs hnn hlx
        subst hcs hnn
        refine ⟨rfl, rfl, fun cs hcs c hc => ?_, aPS, fun w F1 Ow bm vals hI => ?_⟩
        · obtain rfl : cs = nL (aCl xs) := by simpa using hcs
          exact aIT _ c hc
        have hbs : ∀ (w' : World) (u : Value), ((Lib.compact xs).length = 0 ∧ (∃ A cap, u = .slice A 0 cap) ∨ ∃ cap, u = .slice (some ⟨bm 0, 0 * 1, none⟩) (Lib.compact xs).length cap ∧ (Lib.compact xs).length ≤ cap) →
            aW Tryz.prog w' F1 N Ow bm (fun b => (bA [some (nL (aCl xs))] b).isSome) (.tmp 0) (.bsl 0 1 0 (Lib.compact xs).length : SV false) u := fun w' u hu => by
          have h : aAd bm (fun b => (bA [some (nL (aCl xs))] b).isSome) 0 1 0 (Lib.compact xs).length u := ⟨hu, rfl⟩
          simp -implicitDefEqProofs only [aW, dC]; exact h
        have hv := aP5 rfl hI.len
        have none_ : ∀ A cap, xs = [] → vals = #[.slice A 0 cap] → Calls Tryz.prog F.aT9 vals w fun e w' => ∃ v F' Ow', e = .returned v ∧ Inv Tryz.prog { tmps := [(.bsl 0 1 0 (Lib.compact xs).length : SV false)], boxes := [nL (aCl xs)].map some } #[v] w' F' N Ow' bm ∧ Far N w F1 Ow w' F' Ow' := by
          intro A cap hx hvv
          subst hx hvv
          refine (Tryz.slices_Compact_string_empty A cap w).mono fun e w' ⟨he, hw⟩ => ?_
          subst hw
          obtain ⟨q1, q2⟩ := aLp hI (hbs w' (.slice A 0 cap) (.inl ⟨rfl, A, cap, rfl⟩))
          exact ⟨_, F1, Ow, he, q1, q2⟩
        rcases aOr (hI.slot 0) with ⟨⟨h0, A, cap, hu⟩ | ⟨cap, hu, hcap⟩, _⟩
        · rw [hu] at hv
          exact none_ A cap (List.eq_nil_of_length_eq_zero h0) hv
        · by_cases hx : xs = []
          · rw [hu] at hv
            exact none_ (some ⟨bm 0, 0 * 1, none⟩) cap hx (by rw [hv, hx]; rfl)
          · obtain ⟨cur, e0, hb, hl, hF, hO, hH⟩ := aL6 hI rfl hx
            rw [hu] at hv
            subst hv
            refine (Tryz.slices_Compact_string (bm 0) 0 cap xs w hH (by omega) hcap).mono fun e w' ⟨he, k, hw⟩ => ?_
            have hw2 : w' = Go.Sort.grow (Go.Sort.putRow encStr (Go.Sort.ahead w k) (bm 0) 0 (aCl xs).toArray) #[] := by rw [Go.Sort.grow_empty]; exact hw
            obtain ⟨q1, q2⟩ := aKs (ys := aCl xs) hI hb (by rw [aMR]; exact hl) hF hO hw2 (hbs w' _ (.inr ⟨cap, rfl, Nat.le_trans (zD xs) hcap⟩))
            exact ⟨_, F1, Ow, he, q1, q2⟩
      · simp at hr
    · simp at hr
  · simp at hr
theorem aPO {N : Env} : aNm Tryz.prog N aLV := by
  intro f t ht
  unfold aLV at ht
  split at ht
  · rename_i hff
    subst hff
    simp -implicitDefEqProofs only [Option.some.injEq] at ht
    subst ht
    exact aRf
  · split at ht
    · rename_i _ hff
      subst hff
      simp -implicitDefEqProofs only [Option.some.injEq] at ht
      subst ht
      exact aPP
    · split at ht
      · rename_i _ _ hff
        subst hff
        simp -implicitDefEqProofs only [Option.some.injEq] at ht
        subst ht
        exact aLX
      · simp at ht
end Go.Vs
end
section
set_option linter.unusedVariables false
namespace Go.Vs
mutual
def bdF (B : Nat) : aA false → Prop
  | .str s => s.size ≤ B
  | .sl _ es => es.length ≤ B ∧ bdE B es
  | _ => True
def bdL (B : Nat) : List (aA false) → Prop
  | [] => True
  | l :: r => bdF B l ∧ bdL B r
def bdE (B : Nat) : List (List (aA false)) → Prop
  | [] => True
  | e :: es => bdL B e ∧ bdE B es
end
theorem aBy {B : Nat} : ∀ {es : List (List (aA false))}, bdE B es → ∀ e ∈ es, bdL B e
  | x :: r, h, e, he => by
    rw [bdE] at h
    rcases List.mem_cons.1 he with rfl | he
    · exact h.1
    · exact aBy h.2 e he
mutual
theorem aTi {z B : Nat} (hB : (B : Int) ≤ cap) : ∀ (l : aA false) (n : Int), okF z l → 0 ≤ n → n ≤ B → 0 ≤ szF l n → bdF B l
  | .str s, n, ho, h0, hn, h => by
    have hm : maxLen = 9223372036854775807 := rfl
    simp only [okF] at ho
    simp only [szF, bdF, cap] at *
    rw [nZ (by omega) (by omega)] at h
    split at h <;> omega
  | .sl _ es, n, ho, h0, hn, h => by
    have hm : maxLen = 9223372036854775807 := rfl
    simp only [okF] at ho
    simp only [szF, bdF] at *
    rw [nZ (by simp only [cap] at hB; omega) (by simp only [cap] at hB; omega)] at h
    by_cases hl : n - (es.length : Int) < 0
    · simp [hl] at h
    · simp only [hl, if_false] at h
      exact ⟨by omega, aRt hB es _ ho.2 (by omega) (by omega) h⟩
  | .bool _, n, _, _, _, _ => by simp [bdF]
  | .int _ _, n, _, _, _, _ => by simp [bdF]
  | .unk, n, _, _, _, _ => by simp [bdF]
  | .nl _, n, _, _, _, _ => by simp [bdF]
theorem aNp {z B : Nat} (hB : (B : Int) ≤ cap) : ∀ (l : List (aA false)) (n : Int), okL z l → 0 ≤ n → n ≤ B → 0 ≤ szL l n → bdL B l
  | [], n, _, _, _, _ => by simp [bdL]
  | l :: r, n, ho, h0, hn, h => by
    simp only [okL] at ho
    simp only [szL, bdL] at *
    by_cases hl : szF l n < 0
    · simp [hl] at h
    · simp only [hl, if_false] at h
      have h1 := aSS l n ho.1 h0 (by omega) (by omega)
      exact ⟨aTi hB l n ho.1 h0 hn (by omega), aNp hB r _ ho.2 (by omega) (by omega) h⟩
theorem aRt {z B : Nat} (hB : (B : Int) ≤ cap) : ∀ (l : List (List (aA false))) (n : Int), okE z l → 0 ≤ n → n ≤ B → 0 ≤ szE l n → bdE B l
  | [], n, _, _, _, _ => by simp [bdE]
  | e :: r, n, ho, h0, hn, h => by
    simp only [okE] at ho
    simp only [szE, bdE] at *
    by_cases hl : szL e n < 0
    · simp [hl] at h
    · simp only [hl, if_false] at h
      have h1 := aOb e n ho.2.1 h0 (by omega) (by omega)
      exact ⟨aNp hB e n ho.2.1 h0 hn (by omega), aRt hB r _ ho.2.2 (by omega) (by omega) h⟩
end
end Go.Vs
end
section
open Go Go.Vs Go.Proofs
set_option linter.unusedVariables false
set_option linter.unusedSimpArgs false
namespace Go.Vs
noncomputable abbrev Dn : aO false := den Go.Proofs.Tryz.prog aLV Hs
theorem bH {f : FuncId} {a : List (SV false)} {b : List (List (SV false))} {r : SV false × List (List (SV false))} (h : bM Go.Proofs.Tryz.prog Dn Hs cB f a b = some r) (hf : aLV f = none := by rfl) : Dn f a b = some r :=
  aN5 hf h
inductive mK : List (aA false) → Prop
  | mk (s0 : ByteArray) (s1 : ByteArray) (h0 : s0.size ≤ maxLen) (h1 : s1.size ≤ maxLen) : mK [.str s0, .str s1]
theorem mK.ex {ls : List (aA false)} (h : mK ls) : ∃ (s0 : ByteArray) (s1 : ByteArray), ls = [.str s0, .str s1] ∧ s0.size ≤ maxLen ∧ s1.size ≤ maxLen := by
  cases h with
  | mk s0 s1 h0 h1 => exact ⟨s0, s1, rfl, h0, h1⟩
theorem mK.len {ls : List (aA false)} (h : mK ls) : ls.length = 2 := by cases h; rfl
theorem mK.ok {ls : List (aA false)} (h : mK ls) : okL 16 ls := by
  cases h with
  | mk s0 s1 h0 h1 => simp only [okL, okF]; exact ⟨h0, h1, trivial⟩
inductive dH : List (aA false) → Prop
  | mk (i0 : Int) (s1 : ByteArray) (e2 : List (List (aA false))) (e3 : List (List (aA false))) (h1 : s1.size ≤ maxLen) (h2 : e2.length ≤ maxLen) (q2 : ∀ e ∈ e2, dH e) (h3 : e3.length ≤ maxLen) (q3 : ∀ e ∈ e3, dP e) : dH [.int .i64 i0, .str s1, .sl fP e2, .sl fP e3]
theorem dH.ex {ls : List (aA false)} (h : dH ls) : ∃ (i0 : Int) (s1 : ByteArray) (e2 : List (List (aA false))) (e3 : List (List (aA false))), ls = [.int .i64 i0, .str s1, .sl fP e2, .sl fP e3] ∧ s1.size ≤ maxLen ∧ e2.length ≤ maxLen ∧ (∀ e ∈ e2, dH e) ∧ e3.length ≤ maxLen ∧ (∀ e ∈ e3, dP e) := by
  cases h with
  | mk i0 s1 e2 e3 h1 h2 q2 h3 q3 => exact ⟨i0, s1, e2, e3, rfl, h1, h2, q2, h3, q3⟩
theorem dH.len {ls : List (aA false)} (h : dH ls) : ls.length = 4 := by cases h; rfl
theorem dH.ok {ls : List (aA false)} (h : dH ls) : okL 16 ls := by
  induction h with
  | mk i0 s1 e2 e3 h1 h2 q2 h3 q3 ih2 => simp only [okL, okF]; exact ⟨trivial, h1, ⟨h2, mM fun e he => ⟨by have := (q2 e he).len; omega, ih2 e he⟩⟩, ⟨h3, mM fun e he => ⟨by have := (q3 e he).len; omega, (q3 e he).ok⟩⟩, trivial⟩
inductive jU : List (aA false) → Prop
  | mk (s0 : ByteArray) (i1 : Int) (s2 : ByteArray) (e3 : List (List (aA false))) (e4 : List (List (aA false))) (h0 : s0.size ≤ maxLen) (h2 : s2.size ≤ maxLen) (h3 : e3.length ≤ maxLen) (q3 : ∀ e ∈ e3, dH e) (h4 : e4.length ≤ maxLen) (q4 : ∀ e ∈ e4, dP e) : jU [.str s0, .int .i64 i1, .str s2, .sl fP e3, .sl fP e4]
theorem jU.ex {ls : List (aA false)} (h : jU ls) : ∃ (s0 : ByteArray) (i1 : Int) (s2 : ByteArray) (e3 : List (List (aA false))) (e4 : List (List (aA false))), ls = [.str s0, .int .i64 i1, .str s2, .sl fP e3, .sl fP e4] ∧ s0.size ≤ maxLen ∧ s2.size ≤ maxLen ∧ e3.length ≤ maxLen ∧ (∀ e ∈ e3, dH e) ∧ e4.length ≤ maxLen ∧ (∀ e ∈ e4, dP e) := by
  cases h with
  | mk s0 i1 s2 e3 e4 h0 h2 h3 q3 h4 q4 => exact ⟨s0, i1, s2, e3, e4, rfl, h0, h2, h3, q3, h4, q4⟩
theorem jU.len {ls : List (aA false)} (h : jU ls) : ls.length = 5 := by cases h; rfl
theorem jU.ok {ls : List (aA false)} (h : jU ls) : okL 16 ls := by
  cases h with
  | mk s0 i1 s2 e3 e4 h0 h2 h3 q3 h4 q4 => simp only [okL, okF]; exact ⟨h0, trivial, h2, ⟨h3, mM fun e he => ⟨by have := (q3 e he).len; omega, (q3 e he).ok⟩⟩, ⟨h4, mM fun e he => ⟨by have := (q4 e he).len; omega, (q4 e he).ok⟩⟩, trivial⟩
inductive fO : List (aA false) → Prop
  | mk (s0 : ByteArray) (e1 : List (List (aA false))) (h0 : s0.size ≤ maxLen) (h1 : e1.length ≤ maxLen) (q1 : ∀ e ∈ e1, jU e) : fO [.str s0, .sl fP e1]
theorem fO.ex {ls : List (aA false)} (h : fO ls) : ∃ (s0 : ByteArray) (e1 : List (List (aA false))), ls = [.str s0, .sl fP e1] ∧ s0.size ≤ maxLen ∧ e1.length ≤ maxLen ∧ (∀ e ∈ e1, jU e) := by
  cases h with
  | mk s0 e1 h0 h1 q1 => exact ⟨s0, e1, rfl, h0, h1, q1⟩
theorem fO.len {ls : List (aA false)} (h : fO ls) : ls.length = 2 := by cases h; rfl
theorem fO.ok {ls : List (aA false)} (h : fO ls) : okL 16 ls := by
  cases h with
  | mk s0 e1 h0 h1 q1 => simp only [okL, okF]; exact ⟨h0, ⟨h1, mM fun e he => ⟨by have := (q1 e he).len; omega, (q1 e he).ok⟩⟩, trivial⟩
inductive cI : List (aA false) → Prop
  | mk (s0 : ByteArray) (s1 : ByteArray) (s2 : ByteArray) (s3 : ByteArray) (b4 : Bool) (i5 : Int) (s6 : ByteArray) (e7 : List (List (aA false))) (e8 : List (List (aA false))) (e9 : List (List (aA false))) (h0 : s0.size ≤ maxLen) (h1 : s1.size ≤ maxLen) (h2 : s2.size ≤ maxLen) (h3 : s3.size ≤ maxLen) (h6 : s6.size ≤ maxLen) (h7 : e7.length ≤ maxLen) (q7 : ∀ e ∈ e7, dH e) (h8 : e8.length ≤ maxLen) (q8 : ∀ e ∈ e8, dP e) (h9 : e9.length ≤ maxLen) (q9 : ∀ e ∈ e9, fO e) : cI [.str s0, .str s1, .str s2, .str s3, .bool b4, .int .i64 i5, .str s6, .sl fP e7, .sl fP e8, .sl fP e9]
theorem cI.ex {ls : List (aA false)} (h : cI ls) : ∃ (s0 : ByteArray) (s1 : ByteArray) (s2 : ByteArray) (s3 : ByteArray) (b4 : Bool) (i5 : Int) (s6 : ByteArray) (e7 : List (List (aA false))) (e8 : List (List (aA false))) (e9 : List (List (aA false))), ls = [.str s0, .str s1, .str s2, .str s3, .bool b4, .int .i64 i5, .str s6, .sl fP e7, .sl fP e8, .sl fP e9] ∧ s0.size ≤ maxLen ∧ s1.size ≤ maxLen ∧ s2.size ≤ maxLen ∧ s3.size ≤ maxLen ∧ s6.size ≤ maxLen ∧ e7.length ≤ maxLen ∧ (∀ e ∈ e7, dH e) ∧ e8.length ≤ maxLen ∧ (∀ e ∈ e8, dP e) ∧ e9.length ≤ maxLen ∧ (∀ e ∈ e9, fO e) := by
  cases h with
  | mk s0 s1 s2 s3 b4 i5 s6 e7 e8 e9 h0 h1 h2 h3 h6 h7 q7 h8 q8 h9 q9 => exact ⟨s0, s1, s2, s3, b4, i5, s6, e7, e8, e9, rfl, h0, h1, h2, h3, h6, h7, q7, h8, q8, h9, q9⟩
theorem cI.len {ls : List (aA false)} (h : cI ls) : ls.length = 10 := by cases h; rfl
theorem cI.ok {ls : List (aA false)} (h : cI ls) : okL 16 ls := by
  cases h with
  | mk s0 s1 s2 s3 b4 i5 s6 e7 e8 e9 h0 h1 h2 h3 h6 h7 q7 h8 q8 h9 q9 => simp only [okL, okF]; exact ⟨h0, h1, h2, h3, trivial, trivial, h6, ⟨h7, mM fun e he => ⟨by have := (q7 e he).len; omega, (q7 e he).ok⟩⟩, ⟨h8, mM fun e he => ⟨by have := (q8 e he).len; omega, (q8 e he).ok⟩⟩, ⟨h9, mM fun e he => ⟨by have := (q9 e he).len; omega, (q9 e he).ok⟩⟩, trivial⟩
inductive cE : List (aA false) → Prop
  | mk (s0 : ByteArray) (s1 : ByteArray) (e2 : List (List (aA false))) (s3 : ByteArray) (s4 : ByteArray) (e5 : List (List (aA false))) (h0 : s0.size ≤ maxLen) (h1 : s1.size ≤ maxLen) (h2 : e2.length ≤ maxLen) (q2 : ∀ e ∈ e2, cI e) (h3 : s3.size ≤ maxLen) (h4 : s4.size ≤ maxLen) (h5 : e5.length ≤ maxLen) (q5 : ∀ e ∈ e5, fO e) : cE [.str s0, .str s1, .sl fP e2, .str s3, .str s4, .sl fP e5]
theorem cE.ex {ls : List (aA false)} (h : cE ls) : ∃ (s0 : ByteArray) (s1 : ByteArray) (e2 : List (List (aA false))) (s3 : ByteArray) (s4 : ByteArray) (e5 : List (List (aA false))), ls = [.str s0, .str s1, .sl fP e2, .str s3, .str s4, .sl fP e5] ∧ s0.size ≤ maxLen ∧ s1.size ≤ maxLen ∧ e2.length ≤ maxLen ∧ (∀ e ∈ e2, cI e) ∧ s3.size ≤ maxLen ∧ s4.size ≤ maxLen ∧ e5.length ≤ maxLen ∧ (∀ e ∈ e5, fO e) := by
  cases h with
  | mk s0 s1 e2 s3 s4 e5 h0 h1 h2 q2 h3 h4 h5 q5 => exact ⟨s0, s1, e2, s3, s4, e5, rfl, h0, h1, h2, q2, h3, h4, h5, q5⟩
theorem cE.len {ls : List (aA false)} (h : cE ls) : ls.length = 6 := by cases h; rfl
theorem cE.ok {ls : List (aA false)} (h : cE ls) : okL 16 ls := by
  cases h with
  | mk s0 s1 e2 s3 s4 e5 h0 h1 h2 q2 h3 h4 h5 q5 => simp only [okL, okF]; exact ⟨h0, h1, ⟨h2, mM fun e he => ⟨by have := (q2 e he).len; omega, (q2 e he).ok⟩⟩, h3, h4, ⟨h5, mM fun e he => ⟨by have := (q5 e he).len; omega, (q5 e he).ok⟩⟩, trivial⟩
inductive cK : List (aA false) → Prop
  | mk (s0 : ByteArray) (s1 : ByteArray) (e2 : List (List (aA false))) (h0 : s0.size ≤ maxLen) (h1 : s1.size ≤ maxLen) (h2 : e2.length ≤ maxLen) (q2 : ∀ e ∈ e2, fO e) : cK [.str s0, .str s1, .sl fP e2]
theorem cK.ex {ls : List (aA false)} (h : cK ls) : ∃ (s0 : ByteArray) (s1 : ByteArray) (e2 : List (List (aA false))), ls = [.str s0, .str s1, .sl fP e2] ∧ s0.size ≤ maxLen ∧ s1.size ≤ maxLen ∧ e2.length ≤ maxLen ∧ (∀ e ∈ e2, fO e) := by
  cases h with
  | mk s0 s1 e2 h0 h1 h2 q2 => exact ⟨s0, s1, e2, rfl, h0, h1, h2, q2⟩
theorem cK.len {ls : List (aA false)} (h : cK ls) : ls.length = 3 := by cases h; rfl
theorem cK.ok {ls : List (aA false)} (h : cK ls) : okL 16 ls := by
  cases h with
  | mk s0 s1 e2 h0 h1 h2 q2 => simp only [okL, okF]; exact ⟨h0, h1, ⟨h2, mM fun e he => ⟨by have := (q2 e he).len; omega, (q2 e he).ok⟩⟩, trivial⟩
inductive eI : List (aA false) → Prop
  | mk (i0 : Int) (s1 : ByteArray) (h1 : s1.size ≤ maxLen) : eI [.int .i64 i0, .str s1]
theorem eI.ex {ls : List (aA false)} (h : eI ls) : ∃ (i0 : Int) (s1 : ByteArray), ls = [.int .i64 i0, .str s1] ∧ s1.size ≤ maxLen := by
  cases h with
  | mk i0 s1 h1 => exact ⟨i0, s1, rfl, h1⟩
theorem eI.len {ls : List (aA false)} (h : eI ls) : ls.length = 2 := by cases h; rfl
theorem eI.ok {ls : List (aA false)} (h : eI ls) : okL 16 ls := by
  cases h with
  | mk i0 s1 h1 => simp only [okL, okF]; exact ⟨trivial, h1, trivial⟩
inductive dV : List (aA false) → Prop
  | mk (i0 : Int) (b1 : Bool) (s2 : ByteArray) (s3 : ByteArray) (e4 : List (List (aA false))) (e5 : List (List (aA false))) (e6 : List (List (aA false))) (e7 : List (List (aA false))) (e8 : List (List (aA false))) (b9 : Bool) (e10 : List (List (aA false))) (h2 : s2.size ≤ maxLen) (h3 : s3.size ≤ maxLen) (h4 : e4.length ≤ maxLen) (q4 : ∀ e ∈ e4, dP e) (h5 : e5.length ≤ maxLen) (q5 : ∀ e ∈ e5, cE e) (h6 : e6.length ≤ maxLen) (q6 : ∀ e ∈ e6, cI e) (h7 : e7.length ≤ maxLen) (q7 : ∀ e ∈ e7, cK e) (h8 : e8.length ≤ maxLen) (q8 : ∀ e ∈ e8, eI e) (h10 : e10.length ≤ maxLen) (q10 : ∀ e ∈ e10, fO e) : dV [.int .i64 i0, .bool b1, .str s2, .str s3, .sl fP e4, .sl fP e5, .sl fP e6, .sl fP e7, .sl fP e8, .bool b9, .sl fP e10]
theorem dV.ex {ls : List (aA false)} (h : dV ls) : ∃ (i0 : Int) (b1 : Bool) (s2 : ByteArray) (s3 : ByteArray) (e4 : List (List (aA false))) (e5 : List (List (aA false))) (e6 : List (List (aA false))) (e7 : List (List (aA false))) (e8 : List (List (aA false))) (b9 : Bool) (e10 : List (List (aA false))), ls = [.int .i64 i0, .bool b1, .str s2, .str s3, .sl fP e4, .sl fP e5, .sl fP e6, .sl fP e7, .sl fP e8, .bool b9, .sl fP e10] ∧ s2.size ≤ maxLen ∧ s3.size ≤ maxLen ∧ e4.length ≤ maxLen ∧ (∀ e ∈ e4, dP e) ∧ e5.length ≤ maxLen ∧ (∀ e ∈ e5, cE e) ∧ e6.length ≤ maxLen ∧ (∀ e ∈ e6, cI e) ∧ e7.length ≤ maxLen ∧ (∀ e ∈ e7, cK e) ∧ e8.length ≤ maxLen ∧ (∀ e ∈ e8, eI e) ∧ e10.length ≤ maxLen ∧ (∀ e ∈ e10, fO e) := by
  cases h with
  | mk i0 b1 s2 s3 e4 e5 e6 e7 e8 b9 e10 h2 h3 h4 q4 h5 q5 h6 q6 h7 q7 h8 q8 h10 q10 => exact ⟨i0, b1, s2, s3, e4, e5, e6, e7, e8, b9, e10, rfl, h2, h3, h4, q4, h5, q5, h6, q6, h7, q7, h8, q8, h10, q10⟩
theorem dV.len {ls : List (aA false)} (h : dV ls) : ls.length = 11 := by cases h; rfl
theorem dV.ok {ls : List (aA false)} (h : dV ls) : okL 16 ls := by
  cases h with
  | mk i0 b1 s2 s3 e4 e5 e6 e7 e8 b9 e10 h2 h3 h4 q4 h5 q5 h6 q6 h7 q7 h8 q8 h10 q10 => simp only [okL, okF]; exact ⟨trivial, trivial, h2, h3, ⟨h4, mM fun e he => ⟨by have := (q4 e he).len; omega, (q4 e he).ok⟩⟩, ⟨h5, mM fun e he => ⟨by have := (q5 e he).len; omega, (q5 e he).ok⟩⟩, ⟨h6, mM fun e he => ⟨by have := (q6 e he).len; omega, (q6 e he).ok⟩⟩, ⟨h7, mM fun e he => ⟨by have := (q7 e he).len; omega, (q7 e he).ok⟩⟩, ⟨h8, mM fun e he => ⟨by have := (q8 e he).len; omega, (q8 e he).ok⟩⟩, trivial, ⟨h10, mM fun e he => ⟨by have := (q10 e he).len; omega, (q10 e he).ok⟩⟩, trivial⟩
inductive bX : List (aA false) → Prop
  | mk (e0 : List (List (aA false))) (e1 : List (List (aA false))) (e2 : List (List (aA false))) (h0 : e0.length ≤ maxLen) (q0 : ∀ e ∈ e0, dV e) (h1 : e1.length ≤ maxLen) (q1 : ∀ e ∈ e1, dV e) (h2 : e2.length ≤ maxLen) (q2 : ∀ e ∈ e2, eI e) : bX [.sl fP e0, .sl fP e1, .sl fP e2]
theorem bX.ex {ls : List (aA false)} (h : bX ls) : ∃ (e0 : List (List (aA false))) (e1 : List (List (aA false))) (e2 : List (List (aA false))), ls = [.sl fP e0, .sl fP e1, .sl fP e2] ∧ e0.length ≤ maxLen ∧ (∀ e ∈ e0, dV e) ∧ e1.length ≤ maxLen ∧ (∀ e ∈ e1, dV e) ∧ e2.length ≤ maxLen ∧ (∀ e ∈ e2, eI e) := by
  cases h with
  | mk e0 e1 e2 h0 q0 h1 q1 h2 q2 => exact ⟨e0, e1, e2, rfl, h0, q0, h1, q1, h2, q2⟩
theorem bX.len {ls : List (aA false)} (h : bX ls) : ls.length = 3 := by cases h; rfl
theorem bX.ok {ls : List (aA false)} (h : bX ls) : okL 16 ls := by
  cases h with
  | mk e0 e1 e2 h0 q0 h1 q1 h2 q2 => simp only [okL, okF]; exact ⟨⟨h0, mM fun e he => ⟨by have := (q0 e he).len; omega, (q0 e he).ok⟩⟩, ⟨h1, mM fun e he => ⟨by have := (q1 e he).len; omega, (q1 e he).ok⟩⟩, ⟨h2, mM fun e he => ⟨by have := (q2 e he).len; omega, (q2 e he).ok⟩⟩, trivial⟩
inductive dG : List (aA false) → Prop
  | mk (i0 : Int) (s1 : ByteArray) (s2 : ByteArray)  : dG [.int .i64 i0, .str s1, .str s2]
theorem dG.ex {ls : List (aA false)} (h : dG ls) : ∃ (i0 : Int) (s1 : ByteArray) (s2 : ByteArray), ls = [.int .i64 i0, .str s1, .str s2] := by
  cases h with
  | mk i0 s1 s2  => exact ⟨i0, s1, s2, rfl⟩
theorem dG.len {ls : List (aA false)} (h : dG ls) : ls.length = 3 := by cases h; rfl
theorem mK.st {e : El} (h : mK e) : ∃ x : oM, e = x.l ∧ mK x.l := by
  cases h with
  | mk s0 s1 h0 h1 => exact ⟨⟨s0, s1⟩, rfl, .mk s0 s1 h0 h1⟩
theorem mK.of {e : El} (h : mK e) : (oM.of e).l = e := by obtain ⟨x, rfl, _⟩ := h.st; rfl
theorem mK.nosl {e : El} (h : mK e) : e.all aQV = true := by obtain ⟨x, rfl, _⟩ := h.st; rfl
theorem mK.p {x : oM} (h : mK x.l) : (x.a0.size ≤ maxLen) ∧ (x.a1.size ≤ maxLen) := by
  obtain ⟨s0, s1⟩ := x
  have h1 : mK [.str s0, .str s1] := h
  cases h1 with
  | mk _ _ h0 h1 => exact ⟨h0, h1⟩
theorem dH.st {e : El} (h : dH e) : ∃ x : fX, e = x.l ∧ dH x.l := by
  cases h with
  | mk i0 s1 e2 e3 h1 h2 q2 h3 q3 => exact ⟨⟨i0, s1, e2, e3⟩, rfl, .mk i0 s1 e2 e3 h1 h2 q2 h3 q3⟩
theorem dH.of {e : El} (h : dH e) : (fX.of e).l = e := by obtain ⟨x, rfl, _⟩ := h.st; rfl
theorem dH.p {x : fX} (h : dH x.l) : (x.a1.size ≤ maxLen) ∧ (x.a2.length ≤ maxLen) ∧ (∀ e ∈ x.a2, dH e) ∧ (x.a3.length ≤ maxLen) ∧ (∀ e ∈ x.a3, dP e) := by
  obtain ⟨i0, s1, e2, e3⟩ := x
  have h1 : dH [.int .i64 i0, .str s1, .sl fP e2, .sl fP e3] := h
  cases h1 with
  | mk _ _ _ _ h1 h2 q2 h3 q3 => exact ⟨h1, h2, q2, h3, q3⟩
theorem jU.st {e : El} (h : jU e) : ∃ x : fD, e = x.l ∧ jU x.l := by
  cases h with
  | mk s0 i1 s2 e3 e4 h0 h2 h3 q3 h4 q4 => exact ⟨⟨s0, i1, s2, e3, e4⟩, rfl, .mk s0 i1 s2 e3 e4 h0 h2 h3 q3 h4 q4⟩
theorem jU.of {e : El} (h : jU e) : (fD.of e).l = e := by obtain ⟨x, rfl, _⟩ := h.st; rfl
theorem jU.p {x : fD} (h : jU x.l) : (x.a0.size ≤ maxLen) ∧ (x.a2.size ≤ maxLen) ∧ (x.a3.length ≤ maxLen) ∧ (∀ e ∈ x.a3, dH e) ∧ (x.a4.length ≤ maxLen) ∧ (∀ e ∈ x.a4, dP e) := by
  obtain ⟨s0, i1, s2, e3, e4⟩ := x
  have h1 : jU [.str s0, .int .i64 i1, .str s2, .sl fP e3, .sl fP e4] := h
  cases h1 with
  | mk _ _ _ _ _ h0 h2 h3 q3 h4 q4 => exact ⟨h0, h2, h3, q3, h4, q4⟩
theorem fO.st {e : El} (h : fO e) : ∃ x : tW, e = x.l ∧ fO x.l := by
  cases h with
  | mk s0 e1 h0 h1 q1 => exact ⟨⟨s0, e1⟩, rfl, .mk s0 e1 h0 h1 q1⟩
theorem fO.of {e : El} (h : fO e) : (tW.of e).l = e := by obtain ⟨x, rfl, _⟩ := h.st; rfl
theorem fO.p {x : tW} (h : fO x.l) : (x.a0.size ≤ maxLen) ∧ (x.a1.length ≤ maxLen) ∧ (∀ e ∈ x.a1, jU e) := by
  obtain ⟨s0, e1⟩ := x
  have h1 : fO [.str s0, .sl fP e1] := h
  cases h1 with
  | mk _ _ h0 h1 q1 => exact ⟨h0, h1, q1⟩
theorem cI.st {e : El} (h : cI e) : ∃ x : bV, e = x.l ∧ cI x.l := by
  cases h with
  | mk s0 s1 s2 s3 b4 i5 s6 e7 e8 e9 h0 h1 h2 h3 h6 h7 q7 h8 q8 h9 q9 => exact ⟨⟨s0, s1, s2, s3, b4, i5, s6, e7, e8, e9⟩, rfl, .mk s0 s1 s2 s3 b4 i5 s6 e7 e8 e9 h0 h1 h2 h3 h6 h7 q7 h8 q8 h9 q9⟩
theorem cI.of {e : El} (h : cI e) : (bV.of e).l = e := by obtain ⟨x, rfl, _⟩ := h.st; rfl
theorem cI.p {x : bV} (h : cI x.l) : (x.a0.size ≤ maxLen) ∧ (x.a1.size ≤ maxLen) ∧ (x.a2.size ≤ maxLen) ∧ (x.a3.size ≤ maxLen) ∧ (x.a6.size ≤ maxLen) ∧ (x.a7.length ≤ maxLen) ∧ (∀ e ∈ x.a7, dH e) ∧ (x.a8.length ≤ maxLen) ∧ (∀ e ∈ x.a8, dP e) ∧ (x.a9.length ≤ maxLen) ∧ (∀ e ∈ x.a9, fO e) := by
  obtain ⟨s0, s1, s2, s3, b4, i5, s6, e7, e8, e9⟩ := x
  have h1 : cI [.str s0, .str s1, .str s2, .str s3, .bool b4, .int .i64 i5, .str s6, .sl fP e7, .sl fP e8, .sl fP e9] := h
  cases h1 with
  | mk _ _ _ _ _ _ _ _ _ _ h0 h1 h2 h3 h6 h7 q7 h8 q8 h9 q9 => exact ⟨h0, h1, h2, h3, h6, h7, q7, h8, q8, h9, q9⟩
theorem cE.st {e : El} (h : cE e) : ∃ x : cQ, e = x.l ∧ cE x.l := by
  cases h with
  | mk s0 s1 e2 s3 s4 e5 h0 h1 h2 q2 h3 h4 h5 q5 => exact ⟨⟨s0, s1, e2, s3, s4, e5⟩, rfl, .mk s0 s1 e2 s3 s4 e5 h0 h1 h2 q2 h3 h4 h5 q5⟩
theorem cE.of {e : El} (h : cE e) : (cQ.of e).l = e := by obtain ⟨x, rfl, _⟩ := h.st; rfl
theorem cE.p {x : cQ} (h : cE x.l) : (x.a0.size ≤ maxLen) ∧ (x.a1.size ≤ maxLen) ∧ (x.a2.length ≤ maxLen) ∧ (∀ e ∈ x.a2, cI e) ∧ (x.a3.size ≤ maxLen) ∧ (x.a4.size ≤ maxLen) ∧ (x.a5.length ≤ maxLen) ∧ (∀ e ∈ x.a5, fO e) := by
  obtain ⟨s0, s1, e2, s3, s4, e5⟩ := x
  have h1 : cE [.str s0, .str s1, .sl fP e2, .str s3, .str s4, .sl fP e5] := h
  cases h1 with
  | mk _ _ _ _ _ _ h0 h1 h2 q2 h3 h4 h5 q5 => exact ⟨h0, h1, h2, q2, h3, h4, h5, q5⟩
theorem cK.st {e : El} (h : cK e) : ∃ x : mO, e = x.l ∧ cK x.l := by
  cases h with
  | mk s0 s1 e2 h0 h1 h2 q2 => exact ⟨⟨s0, s1, e2⟩, rfl, .mk s0 s1 e2 h0 h1 h2 q2⟩
theorem cK.of {e : El} (h : cK e) : (mO.of e).l = e := by obtain ⟨x, rfl, _⟩ := h.st; rfl
theorem cK.p {x : mO} (h : cK x.l) : (x.a0.size ≤ maxLen) ∧ (x.a1.size ≤ maxLen) ∧ (x.a2.length ≤ maxLen) ∧ (∀ e ∈ x.a2, fO e) := by
  obtain ⟨s0, s1, e2⟩ := x
  have h1 : cK [.str s0, .str s1, .sl fP e2] := h
  cases h1 with
  | mk _ _ _ h0 h1 h2 q2 => exact ⟨h0, h1, h2, q2⟩
theorem eI.st {e : El} (h : eI e) : ∃ x : sR, e = x.l ∧ eI x.l := by
  cases h with
  | mk i0 s1 h1 => exact ⟨⟨i0, s1⟩, rfl, .mk i0 s1 h1⟩
theorem eI.of {e : El} (h : eI e) : (sR.of e).l = e := by obtain ⟨x, rfl, _⟩ := h.st; rfl
theorem eI.nosl {e : El} (h : eI e) : e.all aQV = true := by obtain ⟨x, rfl, _⟩ := h.st; rfl
theorem eI.p {x : sR} (h : eI x.l) : (x.a1.size ≤ maxLen) := by
  obtain ⟨i0, s1⟩ := x
  have h1 : eI [.int .i64 i0, .str s1] := h
  cases h1 with
  | mk _ _ h1 => exact h1
theorem dV.st {e : El} (h : dV e) : ∃ x : aE, e = x.l ∧ dV x.l := by
  cases h with
  | mk i0 b1 s2 s3 e4 e5 e6 e7 e8 b9 e10 h2 h3 h4 q4 h5 q5 h6 q6 h7 q7 h8 q8 h10 q10 => exact ⟨⟨i0, b1, s2, s3, e4, e5, e6, e7, e8, b9, e10⟩, rfl, .mk i0 b1 s2 s3 e4 e5 e6 e7 e8 b9 e10 h2 h3 h4 q4 h5 q5 h6 q6 h7 q7 h8 q8 h10 q10⟩
theorem dV.of {e : El} (h : dV e) : (aE.of e).l = e := by obtain ⟨x, rfl, _⟩ := h.st; rfl
theorem dV.p {x : aE} (h : dV x.l) : (x.a2.size ≤ maxLen) ∧ (x.a3.size ≤ maxLen) ∧ (x.a4.length ≤ maxLen) ∧ (∀ e ∈ x.a4, dP e) ∧ (x.a5.length ≤ maxLen) ∧ (∀ e ∈ x.a5, cE e) ∧ (x.a6.length ≤ maxLen) ∧ (∀ e ∈ x.a6, cI e) ∧ (x.a7.length ≤ maxLen) ∧ (∀ e ∈ x.a7, cK e) ∧ (x.a8.length ≤ maxLen) ∧ (∀ e ∈ x.a8, eI e) ∧ (x.a10.length ≤ maxLen) ∧ (∀ e ∈ x.a10, fO e) := by
  obtain ⟨i0, b1, s2, s3, e4, e5, e6, e7, e8, b9, e10⟩ := x
  have h1 : dV [.int .i64 i0, .bool b1, .str s2, .str s3, .sl fP e4, .sl fP e5, .sl fP e6, .sl fP e7, .sl fP e8, .bool b9, .sl fP e10] := h
  cases h1 with
  | mk _ _ _ _ _ _ _ _ _ _ _ h2 h3 h4 q4 h5 q5 h6 q6 h7 q7 h8 q8 h10 q10 => exact ⟨h2, h3, h4, q4, h5, q5, h6, q6, h7, q7, h8, q8, h10, q10⟩
theorem bX.st {e : El} (h : bX e) : ∃ x : cT, e = x.l ∧ bX x.l := by
  cases h with
  | mk e0 e1 e2 h0 q0 h1 q1 h2 q2 => exact ⟨⟨e0, e1, e2⟩, rfl, .mk e0 e1 e2 h0 q0 h1 q1 h2 q2⟩
theorem bX.of {e : El} (h : bX e) : (cT.of e).l = e := by obtain ⟨x, rfl, _⟩ := h.st; rfl
theorem bX.p {x : cT} (h : bX x.l) : (x.a0.length ≤ maxLen) ∧ (∀ e ∈ x.a0, dV e) ∧ (x.a1.length ≤ maxLen) ∧ (∀ e ∈ x.a1, dV e) ∧ (x.a2.length ≤ maxLen) ∧ (∀ e ∈ x.a2, eI e) := by
  obtain ⟨e0, e1, e2⟩ := x
  have h1 : bX [.sl fP e0, .sl fP e1, .sl fP e2] := h
  cases h1 with
  | mk _ _ _ h0 q0 h1 q1 h2 q2 => exact ⟨h0, q0, h1, q1, h2, q2⟩
theorem dG.st {e : El} (h : dG e) : ∃ x : nE, e = x.l ∧ dG x.l := by
  cases h with
  | mk i0 s1 s2 => exact ⟨⟨i0, s1, s2⟩, rfl, .mk i0 s1 s2⟩
theorem dG.of {e : El} (h : dG e) : (nE.of e).l = e := by obtain ⟨x, rfl, _⟩ := h.st; rfl
theorem dG.nosl {e : El} (h : dG e) : e.all aQV = true := by obtain ⟨x, rfl, _⟩ := h.st; rfl
end Go.Vs
end
section
open Go Go.Vs Go.Proofs
set_option linter.unusedVariables false
set_option linter.unusedSimpArgs false
namespace Go.Vs
theorem aE9 {es : List (List (aA false))} (hl : es.length ≤ maxLen) (hq : ∀ e ∈ es, dP e) : ∀ i : Nat, i ≤ es.length → ∀ n : Int, 0 ≤ n →
    iC Dn (pZ es n i) = some (aJ (szE (es.drop i) n), []) := by
  refine bY ?_ ?_
  · intro n hn; rw [xA]; simp [szE]
  · intro i hi ih n hn
    obtain ⟨s, he, hs⟩ := hq _ (List.getElem_mem hi)
    rw [xA, cY hi]
    simp only [Int.ofNat_lt, hi, decide_true, aF, Int.natCast_nonneg, Bool.and_true, Int.toNat_natCast, aD, bB (Nat.lt_of_lt_of_le hi hl), aR (fun e he => (hq e he).len), bI hi]
    rw [he]
    simp only [bL, aY]
    exact aSa fun hk => ih _ hk
theorem aAJ {es : List (List (aA false))} (hl : es.length ≤ maxLen) (hq : ∀ e ∈ es, dP e) {n : Int} (hn : 0 ≤ n) :
    Dn F.aUZ [vsl es, aJ n] [] = some (aJ (szF (.sl fP es) n), []) := by
  refine bH ?_
  rw [aGl]
  refine aBD fun hk => ?_
  have := aE9 hl hq 0 (Nat.zero_le _) _ hk
  simpa using this
theorem aFA {ls : List (aA false)} (h : mK ls) : ∀ {n : Int}, 0 ≤ n → Dn F.aVK [.agg ls, aJ n] [] = some (aJ (szL ls n), []) := by
  cases h with
  | mk s0 s1 h0 h1 =>
    intro n hn
    refine bH ?_
    rw [aKd]
    refine tC fun hn => ?_
    refine tC fun hn => ?_
    rfl
theorem aGI {es : List (List (aA false))} (hl : es.length ≤ maxLen) (hq : ∀ e ∈ es, dH e) (hd : ∀ e ∈ es, ∀ n : Int, 0 ≤ n → Dn F.aVt [.agg e, aJ n] [] = some (aJ (szL e n), [])) : ∀ i : Nat, i ≤ es.length → ∀ n : Int, 0 ≤ n →
    iO Dn (rP es n i) = some (aJ (szE (es.drop i) n), []) := by
  refine bY ?_ ?_
  · intro n hn; rw [yJ]; simp [szE]
  · intro i hi ih n hn
    have hci := hd _ (List.getElem_mem hi) n hn
    obtain ⟨i0, s1, e2, e3, he, h1, h2, q2, h3, q3⟩ := (hq _ (List.getElem_mem hi)).ex
    rw [yJ, cY hi]
    simp only [Int.ofNat_lt, hi, decide_true, aF, Int.natCast_nonneg, Bool.and_true, Int.toNat_natCast, aD, bB (Nat.lt_of_lt_of_le hi hl), aR (fun e he => (hq e he).len), bI hi]
    rw [he] at hci ⊢
    simp only [dI, bL, cF, cA, aY, bQ, dK]
    exact aAa hci fun k hk => ih k hk
theorem aGN {es : List (List (aA false))} (hl : es.length ≤ maxLen) (hq : ∀ e ∈ es, dH e) (hd : ∀ e ∈ es, ∀ n : Int, 0 ≤ n → Dn F.aVt [.agg e, aJ n] [] = some (aJ (szL e n), [])) {n : Int} (hn : 0 ≤ n) :
    Dn F.aU4 [vsl es, aJ n] [] = some (aJ (szF (.sl fP es) n), []) := by
  refine bH ?_
  rw [aHw]
  refine aBD fun hk => ?_
  have := aGI hl hq hd 0 (Nat.zero_le _) _ hk
  simpa using this
theorem aCR {ls : List (aA false)} (h : dH ls) : ∀ {n : Int}, 0 ≤ n → Dn F.aVt [.agg ls, aJ n] [] = some (aJ (szL ls n), []) := by
  induction h with
  | mk i0 s1 e2 e3 h1 h2 q2 h3 q3 ih2 =>
    intro n hn
    refine bH ?_
    rw [aIx]
    refine aPd hn ?_
    refine tC fun hn => ?_
    refine kD (aGN h2 q2 (fun e he n hn => ih2 e he hn) hn) fun k hn => ?_
    refine kD (aAJ h3 q3 hn) fun k hn => ?_
    rfl
theorem aI8 {es : List (List (aA false))} (hl : es.length ≤ maxLen) (hq : ∀ e ∈ es, jU e) (hd : ∀ e ∈ es, ∀ n : Int, 0 ≤ n → Dn F.aV6 [.agg e, aJ n] [] = some (aJ (szL e n), [])) : ∀ i : Nat, i ≤ es.length → ∀ n : Int, 0 ≤ n →
    kQ Dn (vH es n i) = some (aJ (szE (es.drop i) n), []) := by
  refine bY ?_ ?_
  · intro n hn; rw [aAM]; simp [szE]
  · intro i hi ih n hn
    have hci := hd _ (List.getElem_mem hi) n hn
    obtain ⟨s0, i1, s2, e3, e4, he, h0, h2, h3, q3, h4, q4⟩ := (hq _ (List.getElem_mem hi)).ex
    rw [aAM, cY hi]
    simp only [Int.ofNat_lt, hi, decide_true, aF, Int.natCast_nonneg, Bool.and_true, Int.toNat_natCast, aD, bB (Nat.lt_of_lt_of_le hi hl), aR (fun e he => (hq e he).len), bI hi]
    rw [he] at hci ⊢
    simp only [dI, bL, cF, cA, aY, bQ, dK]
    exact aAa hci fun k hk => ih k hk
theorem aIS {es : List (List (aA false))} (hl : es.length ≤ maxLen) (hq : ∀ e ∈ es, jU e) (hd : ∀ e ∈ es, ∀ n : Int, 0 ≤ n → Dn F.aV6 [.agg e, aJ n] [] = some (aJ (szL e n), [])) {n : Int} (hn : 0 ≤ n) :
    Dn F.aVP [vsl es, aJ n] [] = some (aJ (szF (.sl fP es) n), []) := by
  refine bH ?_
  rw [aKb]
  refine aBD fun hk => ?_
  have := aI8 hl hq hd 0 (Nat.zero_le _) _ hk
  simpa using this
theorem aNb {ls : List (aA false)} (h : jU ls) : ∀ {n : Int}, 0 ≤ n → Dn F.aV6 [.agg ls, aJ n] [] = some (aJ (szL ls n), []) := by
  cases h with
  | mk s0 i1 s2 e3 e4 h0 h2 h3 q3 h4 q4 =>
    intro n hn
    refine bH ?_
    rw [aLc]
    refine tC fun hn => ?_
    refine aKi (a := [.int .i64 i1, .str s2, .sl fP e3, .sl fP e4]) (aCR (.mk i1 s2 e3 e4 h2 h3 q3 h4 q4) hn) hn fun k hn => ?_
    rfl
theorem aLT {es : List (List (aA false))} (hl : es.length ≤ maxLen) (hq : ∀ e ∈ es, jU e) {n : Int} (hn : 0 ≤ n) : Dn F.aVP [vsl es, aJ n] [] = some (aJ (szF (.sl fP es) n), []) := aIS hl hq (fun e he n hn => aNb (hq e he) hn) hn
theorem aIV {es : List (List (aA false))} (hl : es.length ≤ maxLen) (hq : ∀ e ∈ es, fO e) (hd : ∀ e ∈ es, ∀ n : Int, 0 ≤ n → Dn F.aWa [.agg e, aJ n] [] = some (aJ (szL e n), [])) : ∀ i : Nat, i ≤ es.length → ∀ n : Int, 0 ≤ n →
    kS Dn (vM es n i) = some (aJ (szE (es.drop i) n), []) := by
  refine bY ?_ ?_
  · intro n hn; rw [aAU]; simp [szE]
  · intro i hi ih n hn
    have hci := hd _ (List.getElem_mem hi) n hn
    obtain ⟨s0, e1, he, h0, h1, q1⟩ := (hq _ (List.getElem_mem hi)).ex
    rw [aAU, cY hi]
    simp only [Int.ofNat_lt, hi, decide_true, aF, Int.natCast_nonneg, Bool.and_true, Int.toNat_natCast, aD, bB (Nat.lt_of_lt_of_le hi hl), aR (fun e he => (hq e he).len), bI hi]
    rw [he] at hci ⊢
    simp only [dI, bL, cF, cA, aY, bQ, dK]
    exact aAa hci fun k hk => ih k hk
theorem aIa {es : List (List (aA false))} (hl : es.length ≤ maxLen) (hq : ∀ e ∈ es, fO e) (hd : ∀ e ∈ es, ∀ n : Int, 0 ≤ n → Dn F.aWa [.agg e, aJ n] [] = some (aJ (szL e n), [])) {n : Int} (hn : 0 ≤ n) :
    Dn F.aVN [vsl es, aJ n] [] = some (aJ (szF (.sl fP es) n), []) := by
  refine bH ?_
  rw [aJ9]
  refine aBD fun hk => ?_
  have := aIV hl hq hd 0 (Nat.zero_le _) _ hk
  simpa using this
theorem aNk {ls : List (aA false)} (h : fO ls) : ∀ {n : Int}, 0 ≤ n → Dn F.aWa [.agg ls, aJ n] [] = some (aJ (szL ls n), []) := by
  cases h with
  | mk s0 e1 h0 h1 q1 =>
    intro n hn
    refine bH ?_
    rw [aLJ]
    refine tC fun hn => ?_
    refine kD (aLT h1 q1 hn) fun k hn => ?_
    rfl
theorem vC {es : List (List (aA false))} (hl : es.length ≤ maxLen) (hq : ∀ e ∈ es, fO e) {n : Int} (hn : 0 ≤ n) : Dn F.aVN [vsl es, aJ n] [] = some (aJ (szF (.sl fP es) n), []) := aIa hl hq (fun e he n hn => aNk (hq e he) hn) hn
theorem aGs {es : List (List (aA false))} (hl : es.length ≤ maxLen) (hq : ∀ e ∈ es, cI e) (hd : ∀ e ∈ es, ∀ n : Int, 0 ≤ n → Dn F.aVv [.agg e, aJ n] [] = some (aJ (szL e n), [])) : ∀ i : Nat, i ≤ es.length → ∀ n : Int, 0 ≤ n →
    iS Dn (rQ es n i) = some (aJ (szE (es.drop i) n), []) := by
  refine bY ?_ ?_
  · intro n hn; rw [yW]; simp [szE]
  · intro i hi ih n hn
    have hci := hd _ (List.getElem_mem hi) n hn
    obtain ⟨s0, s1, s2, s3, b4, i5, s6, e7, e8, e9, he, h0, h1, h2, h3, h6, h7, q7, h8, q8, h9, q9⟩ := (hq _ (List.getElem_mem hi)).ex
    rw [yW, cY hi]
    simp only [Int.ofNat_lt, hi, decide_true, aF, Int.natCast_nonneg, Bool.and_true, Int.toNat_natCast, aD, bB (Nat.lt_of_lt_of_le hi hl), aR (fun e he => (hq e he).len), bI hi]
    rw [he] at hci ⊢
    simp only [dI, bL, cF, cA, aY, bQ, dK]
    exact aAa hci fun k hk => ih k hk
theorem aGM {es : List (List (aA false))} (hl : es.length ≤ maxLen) (hq : ∀ e ∈ es, cI e) (hd : ∀ e ∈ es, ∀ n : Int, 0 ≤ n → Dn F.aVv [.agg e, aJ n] [] = some (aJ (szL e n), [])) {n : Int} (hn : 0 ≤ n) :
    Dn F.aVd [vsl es, aJ n] [] = some (aJ (szF (.sl fP es) n), []) := by
  refine bH ?_
  rw [aH2]
  refine aBD fun hk => ?_
  have := aGs hl hq hd 0 (Nat.zero_le _) _ hk
  simpa using this
theorem aKu {ls : List (aA false)} (h : cI ls) : ∀ {n : Int}, 0 ≤ n → Dn F.aVv [.agg ls, aJ n] [] = some (aJ (szL ls n), []) := by
  cases h with
  | mk s0 s1 s2 s3 b4 i5 s6 e7 e8 e9 h0 h1 h2 h3 h6 h7 q7 h8 q8 h9 q9 =>
    intro n hn
    refine bH ?_
    rw [aI9]
    refine tC fun hn => ?_
    refine tC fun hn => ?_
    refine aKi (a := [.str s2, .str s3]) (aFA (.mk s2 s3 h2 h3) hn) hn fun k hn => ?_
    refine aNO hn ?_
    refine aKi (a := [.int .i64 i5, .str s6, .sl fP e7, .sl fP e8]) (aCR (.mk i5 s6 e7 e8 h6 h7 q7 h8 q8) hn) hn fun k hn => ?_
    refine kD (vC h9 q9 hn) fun k hn => ?_
    rfl
theorem aCf {es : List (List (aA false))} (hl : es.length ≤ maxLen) (hq : ∀ e ∈ es, cI e) {n : Int} (hn : 0 ≤ n) : Dn F.aVd [vsl es, aJ n] [] = some (aJ (szF (.sl fP es) n), []) := aGM hl hq (fun e he n hn => aKu (hq e he) hn) hn
theorem aCE {es : List (List (aA false))} (hl : es.length ≤ maxLen) (hq : ∀ e ∈ es, cE e) (hd : ∀ e ∈ es, ∀ n : Int, 0 ≤ n → Dn F.aUy [.agg e, aJ n] [] = some (aJ (szL e n), [])) : ∀ i : Nat, i ≤ es.length → ∀ n : Int, 0 ≤ n →
    fL Dn (oC es n i) = some (aJ (szE (es.drop i) n), []) := by
  refine bY ?_ ?_
  · intro n hn; rw [uA]; simp [szE]
  · intro i hi ih n hn
    have hci := hd _ (List.getElem_mem hi) n hn
    obtain ⟨s0, s1, e2, s3, s4, e5, he, h0, h1, h2, q2, h3, h4, h5, q5⟩ := (hq _ (List.getElem_mem hi)).ex
    rw [uA, cY hi]
    simp only [Int.ofNat_lt, hi, decide_true, aF, Int.natCast_nonneg, Bool.and_true, Int.toNat_natCast, aD, bB (Nat.lt_of_lt_of_le hi hl), aR (fun e he => (hq e he).len), bI hi]
    rw [he] at hci ⊢
    simp only [dI, bL, cF, cA, aY, bQ, dK]
    exact aAa hci fun k hk => ih k hk
theorem aCy {es : List (List (aA false))} (hl : es.length ≤ maxLen) (hq : ∀ e ∈ es, cE e) (hd : ∀ e ∈ es, ∀ n : Int, 0 ≤ n → Dn F.aUy [.agg e, aJ n] [] = some (aJ (szL e n), [])) {n : Int} (hn : 0 ≤ n) :
    Dn F.aUl [vsl es, aJ n] [] = some (aJ (szF (.sl fP es) n), []) := by
  refine bH ?_
  rw [aDN]
  refine aBD fun hk => ?_
  have := aCE hl hq hd 0 (Nat.zero_le _) _ hk
  simpa using this
theorem aHV {ls : List (aA false)} (h : cE ls) : ∀ {n : Int}, 0 ≤ n → Dn F.aUy [.agg ls, aJ n] [] = some (aJ (szL ls n), []) := by
  cases h with
  | mk s0 s1 e2 s3 s4 e5 h0 h1 h2 q2 h3 h4 h5 q5 =>
    intro n hn
    refine bH ?_
    rw [aFr]
    refine tC fun hn => ?_
    refine tC fun hn => ?_
    refine kD (aCf h2 q2 hn) fun k hn => ?_
    refine aKi (a := [.str s3, .str s4]) (aFA (.mk s3 s4 h3 h4) hn) hn fun k hn => ?_
    refine kD (vC h5 q5 hn) fun k hn => ?_
    rfl
theorem aGX {es : List (List (aA false))} (hl : es.length ≤ maxLen) (hq : ∀ e ∈ es, cE e) {n : Int} (hn : 0 ≤ n) : Dn F.aUl [vsl es, aJ n] [] = some (aJ (szF (.sl fP es) n), []) := aCy hl hq (fun e he n hn => aHV (hq e he) hn) hn
theorem aCN {es : List (List (aA false))} (hl : es.length ≤ maxLen) (hq : ∀ e ∈ es, cK e) (hd : ∀ e ∈ es, ∀ n : Int, 0 ≤ n → Dn F.aUM [.agg e, aJ n] [] = some (aJ (szL e n), [])) : ∀ i : Nat, i ≤ es.length → ∀ n : Int, 0 ≤ n →
    gJ Dn (oW es n i) = some (aJ (szE (es.drop i) n), []) := by
  refine bY ?_ ?_
  · intro n hn; rw [vY]; simp [szE]
  · intro i hi ih n hn
    have hci := hd _ (List.getElem_mem hi) n hn
    obtain ⟨s0, s1, e2, he, h0, h1, h2, q2⟩ := (hq _ (List.getElem_mem hi)).ex
    rw [vY, cY hi]
    simp only [Int.ofNat_lt, hi, decide_true, aF, Int.natCast_nonneg, Bool.and_true, Int.toNat_natCast, aD, bB (Nat.lt_of_lt_of_le hi hl), aR (fun e he => (hq e he).len), bI hi]
    rw [he] at hci ⊢
    simp only [dI, bL, cF, cA, aY, bQ, dK]
    exact aAa hci fun k hk => ih k hk
theorem aEm {es : List (List (aA false))} (hl : es.length ≤ maxLen) (hq : ∀ e ∈ es, cK e) (hd : ∀ e ∈ es, ∀ n : Int, 0 ≤ n → Dn F.aUM [.agg e, aJ n] [] = some (aJ (szL e n), [])) {n : Int} (hn : 0 ≤ n) :
    Dn F.aUv [vsl es, aJ n] [] = some (aJ (szF (.sl fP es) n), []) := by
  refine bH ?_
  rw [aEP]
  refine aBD fun hk => ?_
  have := aCN hl hq hd 0 (Nat.zero_le _) _ hk
  simpa using this
theorem aIz {ls : List (aA false)} (h : cK ls) : ∀ {n : Int}, 0 ≤ n → Dn F.aUM [.agg ls, aJ n] [] = some (aJ (szL ls n), []) := by
  cases h with
  | mk s0 s1 e2 h0 h1 h2 q2 =>
    intro n hn
    refine bH ?_
    rw [aGy]
    refine tC fun hn => ?_
    refine tC fun hn => ?_
    refine kD (vC h2 q2 hn) fun k hn => ?_
    rfl
theorem aHL {es : List (List (aA false))} (hl : es.length ≤ maxLen) (hq : ∀ e ∈ es, cK e) {n : Int} (hn : 0 ≤ n) : Dn F.aUv [vsl es, aJ n] [] = some (aJ (szF (.sl fP es) n), []) := aEm hl hq (fun e he n hn => aIz (hq e he) hn) hn
theorem aG9 {es : List (List (aA false))} (hl : es.length ≤ maxLen) (hq : ∀ e ∈ es, eI e) (hd : ∀ e ∈ es, ∀ n : Int, 0 ≤ n → Dn F.aVR [.agg e, aJ n] [] = some (aJ (szL e n), [])) : ∀ i : Nat, i ≤ es.length → ∀ n : Int, 0 ≤ n →
    jQ Dn (sS es n i) = some (aJ (szE (es.drop i) n), []) := by
  refine bY ?_ ?_
  · intro n hn; rw [zQ]; simp [szE]
  · intro i hi ih n hn
    have hci := hd _ (List.getElem_mem hi) n hn
    obtain ⟨i0, s1, he, h1⟩ := (hq _ (List.getElem_mem hi)).ex
    rw [zQ, cY hi]
    simp only [Int.ofNat_lt, hi, decide_true, aF, Int.natCast_nonneg, Bool.and_true, Int.toNat_natCast, aD, bB (Nat.lt_of_lt_of_le hi hl), aR (fun e he => (hq e he).len), bI hi]
    rw [he] at hci ⊢
    simp only [dI, bL, cF, cA, aY, bQ, dK]
    exact aAa hci fun k hk => ih k hk
theorem aHJ {es : List (List (aA false))} (hl : es.length ≤ maxLen) (hq : ∀ e ∈ es, eI e) (hd : ∀ e ∈ es, ∀ n : Int, 0 ≤ n → Dn F.aVR [.agg e, aJ n] [] = some (aJ (szL e n), [])) {n : Int} (hn : 0 ≤ n) :
    Dn F.aVq [vsl es, aJ n] [] = some (aJ (szF (.sl fP es) n), []) := by
  refine bH ?_
  rw [aIj]
  refine aBD fun hk => ?_
  have := aG9 hl hq hd 0 (Nat.zero_le _) _ hk
  simpa using this
theorem aLL {ls : List (aA false)} (h : eI ls) : ∀ {n : Int}, 0 ≤ n → Dn F.aVR [.agg ls, aJ n] [] = some (aJ (szL ls n), []) := by
  cases h with
  | mk i0 s1 h1 =>
    intro n hn
    refine bH ?_
    rw [aJS]
    refine aPd hn ?_
    refine tC fun hn => ?_
    rfl
theorem aDA {es : List (List (aA false))} (hl : es.length ≤ maxLen) (hq : ∀ e ∈ es, eI e) {n : Int} (hn : 0 ≤ n) : Dn F.aVq [vsl es, aJ n] [] = some (aJ (szF (.sl fP es) n), []) := aHJ hl hq (fun e he n hn => aLL (hq e he) hn) hn
theorem aJa {es : List (List (aA false))} (hl : es.length ≤ maxLen) (hq : ∀ e ∈ es, dV e) (hd : ∀ e ∈ es, ∀ n : Int, 0 ≤ n → Dn F.aV5 [.agg e, aJ n] [] = some (aJ (szL e n), [])) : ∀ i : Nat, i ≤ es.length → ∀ n : Int, 0 ≤ n →
    kL Dn (vU es n i) = some (aJ (szE (es.drop i) n), []) := by
  refine bY ?_ ?_
  · intro n hn; rw [aAZ]; simp [szE]
  · intro i hi ih n hn
    have hci := hd _ (List.getElem_mem hi) n hn
    obtain ⟨i0, b1, s2, s3, e4, e5, e6, e7, e8, b9, e10, he, h2, h3, h4, q4, h5, q5, h6, q6, h7, q7, h8, q8, h10, q10⟩ := (hq _ (List.getElem_mem hi)).ex
    rw [aAZ, cY hi]
    simp only [Int.ofNat_lt, hi, decide_true, aF, Int.natCast_nonneg, Bool.and_true, Int.toNat_natCast, aD, bB (Nat.lt_of_lt_of_le hi hl), aR (fun e he => (hq e he).len), bI hi]
    rw [he] at hci ⊢
    simp only [dI, bL, cF, cA, aY, bQ, dK]
    exact aAa hci fun k hk => ih k hk
theorem aIP {es : List (List (aA false))} (hl : es.length ≤ maxLen) (hq : ∀ e ∈ es, dV e) (hd : ∀ e ∈ es, ∀ n : Int, 0 ≤ n → Dn F.aV5 [.agg e, aJ n] [] = some (aJ (szL e n), [])) {n : Int} (hn : 0 ≤ n) :
    Dn F.aVT [vsl es, aJ n] [] = some (aJ (szF (.sl fP es) n), []) := by
  refine bH ?_
  rw [aJ0]
  refine aBD fun hk => ?_
  have := aJa hl hq hd 0 (Nat.zero_le _) _ hk
  simpa using this
theorem aNi {ls : List (aA false)} (h : dV ls) : ∀ {n : Int}, 0 ≤ n → Dn F.aV5 [.agg ls, aJ n] [] = some (aJ (szL ls n), []) := by
  cases h with
  | mk i0 b1 s2 s3 e4 e5 e6 e7 e8 b9 e10 h2 h3 h4 q4 h5 q5 h6 q6 h7 q7 h8 q8 h10 q10 =>
    intro n hn
    refine bH ?_
    rw [aLn]
    refine aPd hn ?_
    refine aNO hn ?_
    refine tC fun hn => ?_
    refine tC fun hn => ?_
    refine kD (aAJ h4 q4 hn) fun k hn => ?_
    refine kD (aGX h5 q5 hn) fun k hn => ?_
    refine kD (aCf h6 q6 hn) fun k hn => ?_
    refine kD (aHL h7 q7 hn) fun k hn => ?_
    refine kD (aDA h8 q8 hn) fun k hn => ?_
    refine aNO hn ?_
    refine kD (vC h10 q10 hn) fun k hn => ?_
    rfl
theorem aF2 {es : List (List (aA false))} (hl : es.length ≤ maxLen) (hq : ∀ e ∈ es, dV e) {n : Int} (hn : 0 ≤ n) : Dn F.aVT [vsl es, aJ n] [] = some (aJ (szF (.sl fP es) n), []) := aIP hl hq (fun e he n hn => aNi (hq e he) hn) hn
theorem aB4 {ls : List (aA false)} (h : bX ls) : ∀ {n : Int}, 0 ≤ n → Dn F.aVa [.agg ls, aJ n] [] = some (aJ (szL ls n), []) := by
  cases h with
  | mk e0 e1 e2 h0 q0 h1 q1 h2 q2 =>
    intro n hn
    refine bH ?_
    rw [aH5]
    refine kD (aF2 h0 q0 hn) fun k hn => ?_
    refine kD (aF2 h1 q1 hn) fun k hn => ?_
    refine kD (aDA h2 q2 hn) fun k hn => ?_
    rfl
end Go.Vs
end
section
open Go Go.Vs Go.Proofs
set_option linter.unusedVariables false
set_option linter.unusedSimpArgs false
namespace Go.Vs
theorem aE8 {es : List (List (aA false))} (hl : es.length ≤ maxLen) (hq : ∀ e ∈ es, dP e) : ∀ i : Nat, i ≤ es.length →
    hX Dn (qL es es i) = some (aP true, []) := by
  refine bY ?_ ?_
  · rw [xE]; simp
  · intro i hi ih
    obtain ⟨s, he, hs⟩ := hq _ (List.getElem_mem hi)
    rw [xE]
    simp only [Int.ofNat_lt, hi, decide_true, aF, Int.natCast_nonneg, Bool.and_true, Int.toNat_natCast, aD, bB (Nat.lt_of_lt_of_le hi hl), aR (fun e he => (hq e he).len), bI hi]
    rw [he]
    simp only [bL, aY, beq_self_eq_true, Bool.not_true, aG]
    exact ih
theorem aBg {es : List (List (aA false))} (hl : es.length ≤ maxLen) (hq : ∀ e ∈ es, dP e) : Dn F.aUK [vsl es, vsl es] [] = some (aP true, []) := by
  refine bH ?_
  rw [aGS]
  have := aE8 hl hq 0 (Nat.zero_le _)
  simpa using this
theorem aFP {ls : List (aA false)} (h : mK ls) : Dn F.aVA [.agg ls, .agg ls] [] = some (aP true, []) := by
  cases h with
  | mk s0 s1 h0 h1 =>
    refine bH ?_
    rw [aKa]
    simp []
theorem aGz {es : List (List (aA false))} (hl : es.length ≤ maxLen) (hq : ∀ e ∈ es, dH e) (hd : ∀ e ∈ es, Dn F.aVu [.agg e, .agg e] [] = some (aP true, [])) : ∀ i : Nat, i ≤ es.length →
    iY Dn (rT es es i) = some (aP true, []) := by
  refine bY ?_ ?_
  · rw [yU]; simp
  · intro i hi ih
    have hci := hd _ (List.getElem_mem hi)
    obtain ⟨i0, s1, e2, e3, he, h1, h2, q2, h3, q3⟩ := (hq _ (List.getElem_mem hi)).ex
    rw [yU]
    simp only [Int.ofNat_lt, hi, decide_true, aF, Int.natCast_nonneg, Bool.and_true, Int.toNat_natCast, aD, bB (Nat.lt_of_lt_of_le hi hl), aR (fun e he => (hq e he).len), bI hi]
    rw [he] at hci ⊢
    simp only [dI, bL, cF, cA, aY, bQ, dK, hci, Option.bind_some, aV, Bool.not_true, aG]
    exact ih
theorem aGF {es : List (List (aA false))} (hl : es.length ≤ maxLen) (hq : ∀ e ∈ es, dH e) (hd : ∀ e ∈ es, Dn F.aVu [.agg e, .agg e] [] = some (aP true, [])) : Dn F.aU6 [vsl es, vsl es] [] = some (aP true, []) := by
  refine bH ?_
  rw [aHI]
  have := aGz hl hq hd 0 (Nat.zero_le _)
  simpa using this
theorem aDk {ls : List (aA false)} (h : dH ls) : Dn F.aVu [.agg ls, .agg ls] [] = some (aP true, []) := by
  induction h with
  | mk i0 s1 e2 e3 h1 h2 q2 h3 q3 ih2 =>
    refine bH ?_
    rw [aIK]
    have c2 := aGF h2 q2 ih2
    have c3 := aBg h3 q3
    simp [c2, c3]
theorem aIA {es : List (List (aA false))} (hl : es.length ≤ maxLen) (hq : ∀ e ∈ es, jU e) (hd : ∀ e ∈ es, Dn F.aV3 [.agg e, .agg e] [] = some (aP true, [])) : ∀ i : Nat, i ≤ es.length →
    kU Dn (vD es es i) = some (aP true, []) := by
  refine bY ?_ ?_
  · rw [aA3]; simp
  · intro i hi ih
    have hci := hd _ (List.getElem_mem hi)
    obtain ⟨s0, i1, s2, e3, e4, he, h0, h2, h3, q3, h4, q4⟩ := (hq _ (List.getElem_mem hi)).ex
    rw [aA3]
    simp only [Int.ofNat_lt, hi, decide_true, aF, Int.natCast_nonneg, Bool.and_true, Int.toNat_natCast, aD, bB (Nat.lt_of_lt_of_le hi hl), aR (fun e he => (hq e he).len), bI hi]
    rw [he] at hci ⊢
    simp only [dI, bL, cF, cA, aY, bQ, dK, hci, Option.bind_some, aV, Bool.not_true, aG]
    exact ih
theorem aIQ {es : List (List (aA false))} (hl : es.length ≤ maxLen) (hq : ∀ e ∈ es, jU e) (hd : ∀ e ∈ es, Dn F.aV3 [.agg e, .agg e] [] = some (aP true, [])) : Dn F.aVM [vsl es, vsl es] [] = some (aP true, []) := by
  refine bH ?_
  rw [aJN]
  have := aIA hl hq hd 0 (Nat.zero_le _)
  simpa using this
theorem aNw {ls : List (aA false)} (h : jU ls) : Dn F.aV3 [.agg ls, .agg ls] [] = some (aP true, []) := by
  cases h with
  | mk s0 i1 s2 e3 e4 h0 h2 h3 q3 h4 q4 =>
    refine bH ?_
    rw [aK8]
    have c1 := aDk (.mk i1 s2 e3 e4 h2 h3 q3 h4 q4)
    simp [c1]
theorem aLN {es : List (List (aA false))} (hl : es.length ≤ maxLen) (hq : ∀ e ∈ es, jU e) : Dn F.aVM [vsl es, vsl es] [] = some (aP true, []) := aIQ hl hq fun e he => aNw (hq e he)
theorem aIe {es : List (List (aA false))} (hl : es.length ≤ maxLen) (hq : ∀ e ∈ es, fO e) (hd : ∀ e ∈ es, Dn F.aV2 [.agg e, .agg e] [] = some (aP true, [])) : ∀ i : Nat, i ≤ es.length →
    kP Dn (vP es es i) = some (aP true, []) := by
  refine bY ?_ ?_
  · rw [aA0]; simp
  · intro i hi ih
    have hci := hd _ (List.getElem_mem hi)
    obtain ⟨s0, e1, he, h0, h1, q1⟩ := (hq _ (List.getElem_mem hi)).ex
    rw [aA0]
    simp only [Int.ofNat_lt, hi, decide_true, aF, Int.natCast_nonneg, Bool.and_true, Int.toNat_natCast, aD, bB (Nat.lt_of_lt_of_le hi hl), aR (fun e he => (hq e he).len), bI hi]
    rw [he] at hci ⊢
    simp only [dI, bL, cF, cA, aY, bQ, dK, hci, Option.bind_some, aV, Bool.not_true, aG]
    exact ih
theorem aIY {es : List (List (aA false))} (hl : es.length ≤ maxLen) (hq : ∀ e ∈ es, fO e) (hd : ∀ e ∈ es, Dn F.aV2 [.agg e, .agg e] [] = some (aP true, [])) : Dn F.aVY [vsl es, vsl es] [] = some (aP true, []) := by
  refine bH ?_
  rw [aJ8]
  have := aIe hl hq hd 0 (Nat.zero_le _)
  simpa using this
theorem aM3 {ls : List (aA false)} (h : fO ls) : Dn F.aV2 [.agg ls, .agg ls] [] = some (aP true, []) := by
  cases h with
  | mk s0 e1 h0 h1 q1 =>
    refine bH ?_
    rw [aKL]
    have c1 := aLN h1 q1
    simp [c1]
theorem vT {es : List (List (aA false))} (hl : es.length ≤ maxLen) (hq : ∀ e ∈ es, fO e) : Dn F.aVY [vsl es, vsl es] [] = some (aP true, []) := aIY hl hq fun e he => aM3 (hq e he)
theorem aF8 {es : List (List (aA false))} (hl : es.length ≤ maxLen) (hq : ∀ e ∈ es, cI e) (hd : ∀ e ∈ es, Dn F.aVo [.agg e, .agg e] [] = some (aP true, [])) : ∀ i : Nat, i ≤ es.length →
    iQ Dn (rU es es i) = some (aP true, []) := by
  refine bY ?_ ?_
  · rw [zJ]; simp
  · intro i hi ih
    have hci := hd _ (List.getElem_mem hi)
    obtain ⟨s0, s1, s2, s3, b4, i5, s6, e7, e8, e9, he, h0, h1, h2, h3, h6, h7, q7, h8, q8, h9, q9⟩ := (hq _ (List.getElem_mem hi)).ex
    rw [zJ]
    simp only [Int.ofNat_lt, hi, decide_true, aF, Int.natCast_nonneg, Bool.and_true, Int.toNat_natCast, aD, bB (Nat.lt_of_lt_of_le hi hl), aR (fun e he => (hq e he).len), bI hi]
    rw [he] at hci ⊢
    simp only [dI, bL, cF, cA, aY, bQ, dK, hci, Option.bind_some, aV, Bool.not_true, aG]
    exact ih
theorem aGp {es : List (List (aA false))} (hl : es.length ≤ maxLen) (hq : ∀ e ∈ es, cI e) (hd : ∀ e ∈ es, Dn F.aVo [.agg e, .agg e] [] = some (aP true, [])) : Dn F.aVh [vsl es, vsl es] [] = some (aP true, []) := by
  refine bH ?_
  rw [aHz]
  have := aF8 hl hq hd 0 (Nat.zero_le _)
  simpa using this
theorem aKO {ls : List (aA false)} (h : cI ls) : Dn F.aVo [.agg ls, .agg ls] [] = some (aP true, []) := by
  cases h with
  | mk s0 s1 s2 s3 b4 i5 s6 e7 e8 e9 h0 h1 h2 h3 h6 h7 q7 h8 q8 h9 q9 =>
    refine bH ?_
    rw [aIu]
    have c2 := aFP (.mk s2 s3 h2 h3)
    have c5 := aDk (.mk i5 s6 e7 e8 h6 h7 q7 h8 q8)
    have c9 := vT h9 q9
    simp [c2, c5, c9]
theorem aCm {es : List (List (aA false))} (hl : es.length ≤ maxLen) (hq : ∀ e ∈ es, cI e) : Dn F.aVh [vsl es, vsl es] [] = some (aP true, []) := aGp hl hq fun e he => aKO (hq e he)
theorem aCA {es : List (List (aA false))} (hl : es.length ≤ maxLen) (hq : ∀ e ∈ es, cE e) (hd : ∀ e ∈ es, Dn F.aUE [.agg e, .agg e] [] = some (aP true, [])) : ∀ i : Nat, i ≤ es.length →
    fJ Dn (nS es es i) = some (aP true, []) := by
  refine bY ?_ ?_
  · rw [tY]; simp
  · intro i hi ih
    have hci := hd _ (List.getElem_mem hi)
    obtain ⟨s0, s1, e2, s3, s4, e5, he, h0, h1, h2, q2, h3, h4, h5, q5⟩ := (hq _ (List.getElem_mem hi)).ex
    rw [tY]
    simp only [Int.ofNat_lt, hi, decide_true, aF, Int.natCast_nonneg, Bool.and_true, Int.toNat_natCast, aD, bB (Nat.lt_of_lt_of_le hi hl), aR (fun e he => (hq e he).len), bI hi]
    rw [he] at hci ⊢
    simp only [dI, bL, cF, cA, aY, bQ, dK, hci, Option.bind_some, aV, Bool.not_true, aG]
    exact ih
theorem aCM {es : List (List (aA false))} (hl : es.length ≤ maxLen) (hq : ∀ e ∈ es, cE e) (hd : ∀ e ∈ es, Dn F.aUE [.agg e, .agg e] [] = some (aP true, [])) : Dn F.aUp [vsl es, vsl es] [] = some (aP true, []) := by
  refine bH ?_
  rw [aC9]
  have := aCA hl hq hd 0 (Nat.zero_le _)
  simpa using this
theorem aH3 {ls : List (aA false)} (h : cE ls) : Dn F.aUE [.agg ls, .agg ls] [] = some (aP true, []) := by
  cases h with
  | mk s0 s1 e2 s3 s4 e5 h0 h1 h2 q2 h3 h4 h5 q5 =>
    refine bH ?_
    rw [aE1]
    have c2 := aCm h2 q2
    have c3 := aFP (.mk s3 s4 h3 h4)
    have c5 := vT h5 q5
    simp [c2, c3, c5]
theorem aGC {es : List (List (aA false))} (hl : es.length ≤ maxLen) (hq : ∀ e ∈ es, cE e) : Dn F.aUp [vsl es, vsl es] [] = some (aP true, []) := aCM hl hq fun e he => aH3 (hq e he)
theorem aDz {es : List (List (aA false))} (hl : es.length ≤ maxLen) (hq : ∀ e ∈ es, cK e) (hd : ∀ e ∈ es, Dn F.aUX [.agg e, .agg e] [] = some (aP true, [])) : ∀ i : Nat, i ≤ es.length →
    gB Dn (oV es es i) = some (aP true, []) := by
  refine bY ?_ ?_
  · rw [vV]; simp
  · intro i hi ih
    have hci := hd _ (List.getElem_mem hi)
    obtain ⟨s0, s1, e2, he, h0, h1, h2, q2⟩ := (hq _ (List.getElem_mem hi)).ex
    rw [vV]
    simp only [Int.ofNat_lt, hi, decide_true, aF, Int.natCast_nonneg, Bool.and_true, Int.toNat_natCast, aD, bB (Nat.lt_of_lt_of_le hi hl), aR (fun e he => (hq e he).len), bI hi]
    rw [he] at hci ⊢
    simp only [dI, bL, cF, cA, aY, bQ, dK, hci, Option.bind_some, aV, Bool.not_true, aG]
    exact ih
theorem aD0 {es : List (List (aA false))} (hl : es.length ≤ maxLen) (hq : ∀ e ∈ es, cK e) (hd : ∀ e ∈ es, Dn F.aUX [.agg e, .agg e] [] = some (aP true, [])) : Dn F.aUG [vsl es, vsl es] [] = some (aP true, []) := by
  refine bH ?_
  rw [aEQ]
  have := aDz hl hq hd 0 (Nat.zero_le _)
  simpa using this
theorem aIg {ls : List (aA false)} (h : cK ls) : Dn F.aUX [.agg ls, .agg ls] [] = some (aP true, []) := by
  cases h with
  | mk s0 s1 e2 h0 h1 h2 q2 =>
    refine bH ?_
    rw [aGd]
    have c2 := vT h2 q2
    simp [c2]
theorem aG5 {es : List (List (aA false))} (hl : es.length ≤ maxLen) (hq : ∀ e ∈ es, cK e) : Dn F.aUG [vsl es, vsl es] [] = some (aP true, []) := aD0 hl hq fun e he => aIg (hq e he)
theorem aHd {es : List (List (aA false))} (hl : es.length ≤ maxLen) (hq : ∀ e ∈ es, eI e) (hd : ∀ e ∈ es, Dn F.aVJ [.agg e, .agg e] [] = some (aP true, [])) : ∀ i : Nat, i ≤ es.length →
    jO Dn (tD es es i) = some (aP true, []) := by
  refine bY ?_ ?_
  · rw [zP]; simp
  · intro i hi ih
    have hci := hd _ (List.getElem_mem hi)
    obtain ⟨i0, s1, he, h1⟩ := (hq _ (List.getElem_mem hi)).ex
    rw [zP]
    simp only [Int.ofNat_lt, hi, decide_true, aF, Int.natCast_nonneg, Bool.and_true, Int.toNat_natCast, aD, bB (Nat.lt_of_lt_of_le hi hl), aR (fun e he => (hq e he).len), bI hi]
    rw [he] at hci ⊢
    simp only [dI, bL, cF, cA, aY, bQ, dK, hci, Option.bind_some, aV, Bool.not_true, aG]
    exact ih
theorem aHs {es : List (List (aA false))} (hl : es.length ≤ maxLen) (hq : ∀ e ∈ es, eI e) (hd : ∀ e ∈ es, Dn F.aVJ [.agg e, .agg e] [] = some (aP true, [])) : Dn F.aVp [vsl es, vsl es] [] = some (aP true, []) := by
  refine bH ?_
  rw [aH8]
  have := aHd hl hq hd 0 (Nat.zero_le _)
  simpa using this
theorem aLO {ls : List (aA false)} (h : eI ls) : Dn F.aVJ [.agg ls, .agg ls] [] = some (aP true, []) := by
  cases h with
  | mk i0 s1 h1 =>
    refine bH ?_
    rw [aJX]
    simp []
theorem aDD {es : List (List (aA false))} (hl : es.length ≤ maxLen) (hq : ∀ e ∈ es, eI e) : Dn F.aVp [vsl es, vsl es] [] = some (aP true, []) := aHs hl hq fun e he => aLO (hq e he)
theorem aIs {es : List (List (aA false))} (hl : es.length ≤ maxLen) (hq : ∀ e ∈ es, dV e) (hd : ∀ e ∈ es, Dn F.aV9 [.agg e, .agg e] [] = some (aP true, [])) : ∀ i : Nat, i ≤ es.length →
    kT Dn (vF es es i) = some (aP true, []) := by
  refine bY ?_ ?_
  · rw [aBf]; simp
  · intro i hi ih
    have hci := hd _ (List.getElem_mem hi)
    obtain ⟨i0, b1, s2, s3, e4, e5, e6, e7, e8, b9, e10, he, h2, h3, h4, q4, h5, q5, h6, q6, h7, q7, h8, q8, h10, q10⟩ := (hq _ (List.getElem_mem hi)).ex
    rw [aBf]
    simp only [Int.ofNat_lt, hi, decide_true, aF, Int.natCast_nonneg, Bool.and_true, Int.toNat_natCast, aD, bB (Nat.lt_of_lt_of_le hi hl), aR (fun e he => (hq e he).len), bI hi]
    rw [he] at hci ⊢
    simp only [dI, bL, cF, cA, aY, bQ, dK, hci, Option.bind_some, aV, Bool.not_true, aG]
    exact ih
theorem aI1 {es : List (List (aA false))} (hl : es.length ≤ maxLen) (hq : ∀ e ∈ es, dV e) (hd : ∀ e ∈ es, Dn F.aV9 [.agg e, .agg e] [] = some (aP true, [])) : Dn F.aVz [vsl es, vsl es] [] = some (aP true, []) := by
  refine bH ?_
  rw [aJY]
  have := aIs hl hq hd 0 (Nat.zero_le _)
  simpa using this
theorem aNB {ls : List (aA false)} (h : dV ls) : Dn F.aV9 [.agg ls, .agg ls] [] = some (aP true, []) := by
  cases h with
  | mk i0 b1 s2 s3 e4 e5 e6 e7 e8 b9 e10 h2 h3 h4 q4 h5 q5 h6 q6 h7 q7 h8 q8 h10 q10 =>
    refine bH ?_
    rw [aKr]
    have c4 := aBg h4 q4
    have c5 := aGC h5 q5
    have c6 := aCm h6 q6
    have c7 := aG5 h7 q7
    have c8 := aDD h8 q8
    have c10 := vT h10 q10
    simp [c4, c5, c6, c7, c8, c10]
theorem aFJ {es : List (List (aA false))} (hl : es.length ≤ maxLen) (hq : ∀ e ∈ es, dV e) : Dn F.aVz [vsl es, vsl es] [] = some (aP true, []) := aI1 hl hq fun e he => aNB (hq e he)
theorem aCk {ls : List (aA false)} (h : bX ls) : Dn F.aU9 [.agg ls, .agg ls] [] = some (aP true, []) := by
  cases h with
  | mk e0 e1 e2 h0 q0 h1 q1 h2 q2 =>
    refine bH ?_
    rw [aHp]
    have c0 := aFJ h0 q0
    have c1 := aFJ h1 q1
    have c2 := aDD h2 q2
    simp [c0, c1, c2]
theorem aEZ {es : List (List (aA false))} (hl : es.length ≤ maxLen) (hq : ∀ e ∈ es, dG e) (hd : ∀ e ∈ es, Dn F.aVi [.agg e, .agg e] [] = some (aP true, [])) : ∀ i : Nat, i ≤ es.length →
    gX Dn (pW es es i) = some (aP true, []) := by
  refine bY ?_ ?_
  · rw [xS]; simp
  · intro i hi ih
    have hci := hd _ (List.getElem_mem hi)
    obtain ⟨i0, s1, s2, he⟩ := (hq _ (List.getElem_mem hi)).ex
    rw [xS]
    simp only [Int.ofNat_lt, hi, decide_true, aF, Int.natCast_nonneg, Bool.and_true, Int.toNat_natCast, aD, bB (Nat.lt_of_lt_of_le hi hl), aR (fun e he => (hq e he).len), bI hi]
    rw [he] at hci ⊢
    simp only [dI, bL, cF, cA, aY, bQ, dK, hci, Option.bind_some, aV, Bool.not_true, aG]
    exact ih
theorem aE5 {es : List (List (aA false))} (hl : es.length ≤ maxLen) (hq : ∀ e ∈ es, dG e) (hd : ∀ e ∈ es, Dn F.aVi [.agg e, .agg e] [] = some (aP true, [])) : Dn F.aUV [vsl es, vsl es] [] = some (aP true, []) := by
  refine bH ?_
  rw [aGm]
  have := aEZ hl hq hd 0 (Nat.zero_le _)
  simpa using this
theorem aKe {ls : List (aA false)} (h : dG ls) : Dn F.aVi [.agg ls, .agg ls] [] = some (aP true, []) := by
  cases h with
  | mk i0 s1 s2 =>
    refine bH ?_
    rw [aG7]
    simp []
theorem aIw {es : List (List (aA false))} (hl : es.length ≤ maxLen) (hq : ∀ e ∈ es, dG e) : Dn F.aUV [vsl es, vsl es] [] = some (aP true, []) := aE5 hl hq fun e he => aKe (hq e he)
end Go.Vs
end
section
open Go Go.Vs Go.Proofs
set_option maxRecDepth 100000
set_option linter.unusedVariables false
namespace Go.Vs
noncomputable section
variable (D : aO true)
def aAp := atA D F.aU7
theorem aET (c0_0 : Fl true) (e0_0 : LT) (c0_1 : Fl true) (e0_1 : LT) (c0_2 : Fl true) (e0_2 : LT) : bM Tryz.prog D Hs cB F.aU7 [.agg [.sl c0_0 e0_0,.sl c0_1 e0_1,.sl c0_2 e0_2]] [] = (D F.aVZ [.leaf (.sl c0_0 e0_0)] []).bind fun r => oK r.fst fun c es => (D F.aVZ [.leaf (.sl c0_1 e0_1)] []).bind fun r => oK r.fst fun c_1 es_1 => (D F.aVl [.leaf (.sl c0_2 e0_2)] []).bind fun r => oK r.fst fun c_2 es_2 => some (.agg [.sl c es,.sl c_1 es_1,.sl c_2 es_2],[]) := by refine (aI (J := aAp D) (by kernel_rfl) (fun _ _ => rfl) []).trans ?_; generalize aAp D = J; revert J; refine id ?_; intro J; kernel_rfl
def xJ := atA D F.aUw
theorem aCu (c0_0 : Fl true) (e0_0 : LT) (c0_1 : Fl true) (e0_1 : LT) (c0_2 : Fl true) (e0_2 : LT) (i1 : Int) : bM Tryz.prog D Hs cB F.aUw [.agg [.sl c0_0 e0_0,.sl c0_1 e0_1,.sl c0_2 e0_2],.leaf (.int .i64 i1)] [] = (D F.aVg [.leaf (.sl c0_0 e0_0),.leaf (.int .i64 i1)] []).bind fun r => aM r.fst fun l => dF .i64 l fun n => (D F.aVg [.leaf (.sl c0_1 e0_1),.leaf (.int .i64 n)] []).bind fun r => aM r.fst fun l => dF .i64 l fun n => (D F.aU0 [.leaf (.sl c0_2 e0_2),.leaf (.int .i64 n)] []).bind fun r => aM r.fst fun l => dF .i64 l fun n => some (.leaf (.int .i64 n),[]) := by refine (aI (J := xJ D) (by kernel_rfl) (fun _ _ => rfl) []).trans ?_; generalize xJ D = J; revert J; refine id ?_; intro J; kernel_rfl
section
variable (c0 : Fl true) (e0 : LT) (n3 : Nat) (i4 : Int) (vx7 : List (SV true))
def iP := atA D F.aVZ
def rO : PT := ([1,1,0,1,0],St.mk ([.leaf (.sl c0 e0),.any,.any,.bsl 7 11 0 n3,.leaf (.int .i64 i4)] ++ bJ 18) (noB 7 ++ [some vx7] ++ noB 15))
theorem zC : iP D (rO c0 e0 n3 i4 vx7) = aC (decide (i4 < (↑e0.length : Int))) (aB (decide (0 ≤ i4) && decide (i4 < (↑e0.length : Int)) && sized 11 e0) (fB (e0.getD i4.toNat []) fun e => atK e 0 fun l => dF .i64 l fun n => atK e 1 fun l => cL l fun b => atK e 2 fun l => bO l fun s => atK e 3 fun l => bO l fun s_1 => atK e 4 fun l => slK l fun c es => atK e 5 fun l => slK l fun c_1 es_1 => atK e 6 fun l => slK l fun c_2 es_2 => atK e 7 fun l => slK l fun c_3 es_3 => atK e 8 fun l => slK l fun c_4 es_4 => atK e 9 fun l => cL l fun b_1 => atK e 10 fun l => slK l fun c_5 es_5 => (D F.aV4 [.agg [.int .i64 n,.bool b,.str s,.str s_1,.sl c es,.sl c_1 es_1,.sl c_2 es_2,.sl c_3 es_3,.sl c_4 es_4,.bool b_1,.sl c_5 es_5]] []).bind fun r => dU r.fst fun cs => aB (cs.length == 11) (atK cs 0 fun l => dF .i64 l fun n => atK cs 1 fun l => cL l fun b => atK cs 2 fun l => bO l fun s => atK cs 3 fun l => bO l fun s_2 => atK cs 4 fun l => slK l fun c es => atK cs 5 fun l => slK l fun c_6 es_6 => atK cs 6 fun l => slK l fun c_7 es_7 => atK cs 7 fun l => slK l fun c_8 es_8 => atK cs 8 fun l => slK l fun c_9 es_9 => atK cs 9 fun l => cL l fun b_2 => atK cs 10 fun l => slK l fun c_10 es_10 => aB (decide (0 ≤ i4) && decide (i4 < (↑n3 : Int))) (aB (decide ((0 + i4.toNat) * 11 + 11 ≤ vx7.length)) (iP D (rO c0 e0 n3 (IntKind.i64.wrap (i4 + 1)) (jK vx7 ((0 + i4.toNat) * 11) [.leaf (.int .i64 n),.leaf (.bool b),.leaf (.str s),.leaf (.str s_2),.leaf (.sl c es),.leaf (.sl c_6 es_6),.leaf (.sl c_7 es_7),.leaf (.sl c_8 es_8),.leaf (.sl c_9 es_9),.leaf (.bool b_2),.leaf (.sl c_10 es_10)]))))))) (aB (decide (n3 * 11 ≤ vx7.length)) ((cN (List.take (n3 * 11) vx7)).bind fun l => some (.leaf (.sl aS (jN 11 n3 l)),[]))) := by refine (aL (J := iP D) (fun _ _ => rfl) [[1,1,0,1,0]] _).trans ?_; generalize iP D = J; revert J; refine id ?_; intro J; kernel_rfl
theorem aHv : bM Tryz.prog D Hs cB F.aVZ [.leaf (.sl c0 e0)] [] = aB ((↑e0.length : Int) == (↑e0.length : Int) && decide ((↑e0.length : Int).toNat * 200 ≤ aH) && decide ((↑e0.length : Int).toNat ≤ aH)) (iP D (rO c0 e0 (decide (0 ≤ (↑e0.length : Int)) && (↑e0.length : Int) == (↑e0.length : Int) && decide ((↑e0.length : Int).toNat * Tryz.prog.types[90].bytes ≤ aH) && decide ((↑e0.length : Int).toNat ≤ aH),(Tryz.prog.types[90].size,(↑e0.length : Int).toNat),List.map SV.leaf (List.replicate (↑e0.length : Int).toNat ((fun (x : List (aA true)) => .int .i64 0 :: x) ((fun (x : List (aA true)) => .bool false :: x) ((fun (x : List (aA true)) => .str (ByteArray.mk #[]) :: x) ((fun (x : List (aA true)) => .str (ByteArray.mk #[]) :: x) ((fun (x : List (aA true)) => .sl (Fl.new true) [] :: x) ((fun (x : List (aA true)) => .sl (Fl.new true) [] :: x) ((fun (x : List (aA true)) => .sl (Fl.new true) [] :: x) ((fun (x : List (aA true)) => .sl (Fl.new true) [] :: x) ((fun (x : List (aA true)) => .sl (Fl.new true) [] :: x) ((fun (x : List (aA true)) => .bool false :: x) ((fun (x : List (aA true)) => .sl (Fl.new true) [] :: x) [])))))))))))).flatten).snd.fst.snd 0 (decide (0 ≤ (↑e0.length : Int)) && (↑e0.length : Int) == (↑e0.length : Int) && decide ((↑e0.length : Int).toNat * Tryz.prog.types[90].bytes ≤ aH) && decide ((↑e0.length : Int).toNat ≤ aH),(Tryz.prog.types[90].size,(↑e0.length : Int).toNat),List.map SV.leaf (List.replicate (↑e0.length : Int).toNat ((fun (x : List (aA true)) => .int .i64 0 :: x) ((fun (x : List (aA true)) => .bool false :: x) ((fun (x : List (aA true)) => .str (ByteArray.mk #[]) :: x) ((fun (x : List (aA true)) => .str (ByteArray.mk #[]) :: x) ((fun (x : List (aA true)) => .sl (Fl.new true) [] :: x) ((fun (x : List (aA true)) => .sl (Fl.new true) [] :: x) ((fun (x : List (aA true)) => .sl (Fl.new true) [] :: x) ((fun (x : List (aA true)) => .sl (Fl.new true) [] :: x) ((fun (x : List (aA true)) => .sl (Fl.new true) [] :: x) ((fun (x : List (aA true)) => .bool false :: x) ((fun (x : List (aA true)) => .sl (Fl.new true) [] :: x) [])))))))))))).flatten).snd.snd)) := by refine (aI (J := iP D) (by kernel_rfl) (fun _ _ => rfl) [[1,1,0,1,0]]).trans ?_; generalize iP D = J; revert J; refine id ?_; intro J; kernel_rfl
end
section
variable (c0 : Fl true) (e0 : LT) (n3 : Nat) (i4 : Int) (vx7 : List (SV true))
def gW := atA D F.aVl
def qI : PT := ([1,1,0,1,0],St.mk ([.leaf (.sl c0 e0),.any,.any,.bsl 7 2 0 n3,.leaf (.int .i64 i4)] ++ bJ 18) (noB 7 ++ [some vx7] ++ noB 15))
theorem xB : gW D (qI c0 e0 n3 i4 vx7) = aC (decide (i4 < (↑e0.length : Int))) (aB (decide (0 ≤ i4) && decide (i4 < (↑e0.length : Int)) && sized 2 e0) (fB (e0.getD i4.toNat []) fun e => atK e 0 fun l => dF .i64 l fun n => atK e 1 fun l => bO l fun s => (D F.aVC [.agg [.int .i64 n,.str s]] []).bind fun r => dU r.fst fun cs => aB (cs.length == 2) (atK cs 0 fun l => dF .i64 l fun n => atK cs 1 fun l => bO l fun s => aB (decide (0 ≤ i4) && decide (i4 < (↑n3 : Int))) (aB (decide ((0 + i4.toNat) * 2 + 2 ≤ vx7.length)) (gW D (qI c0 e0 n3 (IntKind.i64.wrap (i4 + 1)) (jK vx7 ((0 + i4.toNat) * 2) [.leaf (.int .i64 n),.leaf (.str s)]))))))) (aB (decide (n3 * 2 ≤ vx7.length)) ((cN (List.take (n3 * 2) vx7)).bind fun l => some (.leaf (.sl aS (jN 2 n3 l)),[]))) := by refine (aL (J := gW D) (fun _ _ => rfl) [[1,1,0,1,0]] _).trans ?_; generalize gW D = J; revert J; refine id ?_; intro J; kernel_rfl
theorem aGZ : bM Tryz.prog D Hs cB F.aVl [.leaf (.sl c0 e0)] [] = aB ((↑e0.length : Int) == (↑e0.length : Int) && decide ((↑e0.length : Int).toNat * 24 ≤ aH) && decide ((↑e0.length : Int).toNat ≤ aH)) (gW D (qI c0 e0 (decide (0 ≤ (↑e0.length : Int)) && (↑e0.length : Int) == (↑e0.length : Int) && decide ((↑e0.length : Int).toNat * Tryz.prog.types[123].bytes ≤ aH) && decide ((↑e0.length : Int).toNat ≤ aH),(Tryz.prog.types[123].size,(↑e0.length : Int).toNat),List.map SV.leaf (List.replicate (↑e0.length : Int).toNat ((fun (x : List (aA true)) => .int .i64 0 :: x) ((fun (x : List (aA true)) => .str (ByteArray.mk #[]) :: x) []))).flatten).snd.fst.snd 0 (decide (0 ≤ (↑e0.length : Int)) && (↑e0.length : Int) == (↑e0.length : Int) && decide ((↑e0.length : Int).toNat * Tryz.prog.types[123].bytes ≤ aH) && decide ((↑e0.length : Int).toNat ≤ aH),(Tryz.prog.types[123].size,(↑e0.length : Int).toNat),List.map SV.leaf (List.replicate (↑e0.length : Int).toNat ((fun (x : List (aA true)) => .int .i64 0 :: x) ((fun (x : List (aA true)) => .str (ByteArray.mk #[]) :: x) []))).flatten).snd.snd)) := by refine (aI (J := gW D) (by kernel_rfl) (fun _ _ => rfl) [[1,1,0,1,0]]).trans ?_; generalize gW D = J; revert J; refine id ?_; intro J; kernel_rfl
end
section
variable (c0 : Fl true) (e0 : LT) (i1 i5 : Int)
def gC := atA D F.aVg
def pF : PT := ([1,0,1,0],St.mk ([.leaf (.sl c0 e0),.leaf (.int .i64 i1),.any,.any,.any,.leaf (.int .i64 i5)] ++ bJ 90) (noB 96))
theorem wE : gC D (pF c0 e0 i1 i5) = aC (decide (i5 < (↑e0.length : Int))) (aB (decide (0 ≤ i5) && decide (i5 < (↑e0.length : Int)) && sized 11 e0) (if (c0.isSoft = true ∧ eO (e0.getD i5.toNat []) 0 = true) ∧ ((.leaf (.int .i64 i1) : SV true)).plain = true ∧ dR Tryz.prog 3 = some 1 then aB (decide (0 ≤ i5) && decide (i5 < (↑e0.length : Int)) && sized 11 e0) (if (c0.isSoft = true ∧ eO (e0.getD i5.toNat []) 1 = true) ∧ ((.leaf (.bool ((IntKind.i64.wrap (i1 + 1)).tmod 3 == 0)) : SV true)).plain = true ∧ dR Tryz.prog 4 = some 1 then (D F.aVe [.leaf (.int .i64 (IntKind.i64.wrap (IntKind.i64.wrap (i1 + 1) + 1)))] []).bind fun r => aM r.fst fun l => bO l fun s => aB (decide (0 ≤ i5) && decide (i5 < (↑e0.length : Int)) && sized 11 e0) (if (c0.isSoft = true ∧ eO (e0.getD i5.toNat []) 2 = true) ∧ ((.leaf (.str s) : SV true)).plain = true ∧ dR Tryz.prog 9 = some 1 then (D F.aVe [.leaf (.int .i64 (IntKind.i64.wrap (IntKind.i64.wrap (IntKind.i64.wrap (i1 + 1) + 1) + 1)))] []).bind fun r => aM r.fst fun l => bO l fun s => aB (decide (0 ≤ i5) && decide (i5 < (↑e0.length : Int)) && sized 11 e0) (if (c0.isSoft = true ∧ eO (e0.getD i5.toNat []) 3 = true) ∧ ((.leaf (.str s) : SV true)).plain = true ∧ dR Tryz.prog 9 = some 1 then aB (decide (0 ≤ i5) && decide (i5 < (↑e0.length : Int)) && sized 11 e0) (atK (e0.getD i5.toNat []) 4 fun l => slK l fun c es => (D F.aUr [.leaf (.sl c es),.leaf (.int .i64 (IntKind.i64.wrap (IntKind.i64.wrap (IntKind.i64.wrap (IntKind.i64.wrap (i1 + 1) + 1) + 1) + 1)))] []).bind fun r => aM r.fst fun l => dF .i64 l fun n => aB (decide (0 ≤ i5) && decide (i5 < (↑e0.length : Int)) && sized 11 e0) (atK (e0.getD i5.toNat []) 5 fun l => slK l fun c es => (D F.aUd [.leaf (.sl c es),.leaf (.int .i64 n)] []).bind fun r => aM r.fst fun l => dF .i64 l fun n => aB (decide (0 ≤ i5) && decide (i5 < (↑e0.length : Int)) && sized 11 e0) (atK (e0.getD i5.toNat []) 6 fun l => slK l fun c es => (D F.aUC [.leaf (.sl c es),.leaf (.int .i64 n)] []).bind fun r => aM r.fst fun l => dF .i64 l fun n => aB (decide (0 ≤ i5) && decide (i5 < (↑e0.length : Int)) && sized 11 e0) (atK (e0.getD i5.toNat []) 7 fun l => slK l fun c es => (D F.aUf [.leaf (.sl c es),.leaf (.int .i64 n)] []).bind fun r => aM r.fst fun l => dF .i64 l fun n => aB (decide (0 ≤ i5) && decide (i5 < (↑e0.length : Int)) && sized 11 e0) (atK (e0.getD i5.toNat []) 8 fun l => slK l fun c es => (D F.aU0 [.leaf (.sl c es),.leaf (.int .i64 n)] []).bind fun r => aM r.fst fun l => dF .i64 l fun n => aB (decide (0 ≤ i5) && decide (i5 < (↑e0.length : Int)) && sized 11 e0) (if (c0.isSoft = true ∧ eO (e0.getD i5.toNat []) 9 = true) ∧ ((.leaf (.bool (n.tmod 3 == 0)) : SV true)).plain = true ∧ dR Tryz.prog 4 = some 1 then aB (decide (0 ≤ i5) && decide (i5 < (↑e0.length : Int)) && sized 11 e0) (atK (e0.getD i5.toNat []) 10 fun l => slK l fun c es => (D F.aU2 [.leaf (.sl c es),.leaf (.int .i64 (IntKind.i64.wrap (n + 1)))] []).bind fun r => aM r.fst fun l => dF .i64 l fun n => gC D (pF c0 e0 n (IntKind.i64.wrap (i5 + 1)))) else none)))))) else none) else none) else none) else none)) (some (.leaf (.int .i64 i1),[])) := by refine (aL (J := gC D) (fun _ _ => rfl) [[1,0,1,0]] _).trans ?_; generalize gC D = J; revert J; refine id ?_; intro J; kernel_rfl
theorem aE4 : bM Tryz.prog D Hs cB F.aVg [.leaf (.sl c0 e0),.leaf (.int .i64 i1)] [] = gC D (pF c0 e0 i1 0) := by refine (aI (J := gC D) (by kernel_rfl) (fun _ _ => rfl) [[1,0,1,0]]).trans ?_; generalize gC D = J; revert J; refine id ?_; intro J; kernel_rfl
end
section
variable (c0 : Fl true) (e0 : LT) (i1 i5 : Int)
def fE := atA D F.aU0
def oH : PT := ([1,0,1,0],St.mk ([.leaf (.sl c0 e0),.leaf (.int .i64 i1),.any,.any,.any,.leaf (.int .i64 i5)] ++ bJ 22) (noB 28))
theorem uF : fE D (oH c0 e0 i1 i5) = aC (decide (i5 < (↑e0.length : Int))) (aB (decide (0 ≤ i5) && decide (i5 < (↑e0.length : Int)) && sized 2 e0) (if (c0.isSoft = true ∧ eO (e0.getD i5.toNat []) 0 = true) ∧ ((.leaf (.int .i64 i1) : SV true)).plain = true ∧ dR Tryz.prog 3 = some 1 then (D F.aVe [.leaf (.int .i64 (IntKind.i64.wrap (i1 + 1)))] []).bind fun r => aM r.fst fun l => bO l fun s => aB (decide (0 ≤ i5) && decide (i5 < (↑e0.length : Int)) && sized 2 e0) (if (c0.isSoft = true ∧ eO (e0.getD i5.toNat []) 1 = true) ∧ ((.leaf (.str s) : SV true)).plain = true ∧ dR Tryz.prog 9 = some 1 then fE D (oH c0 e0 (IntKind.i64.wrap (IntKind.i64.wrap (i1 + 1) + 1)) (IntKind.i64.wrap (i5 + 1))) else none) else none)) (some (.leaf (.int .i64 i1),[])) := by refine (aL (J := fE D) (fun _ _ => rfl) [[1,0,1,0]] _).trans ?_; generalize fE D = J; revert J; refine id ?_; intro J; kernel_rfl
theorem aDo : bM Tryz.prog D Hs cB F.aU0 [.leaf (.sl c0 e0),.leaf (.int .i64 i1)] [] = fE D (oH c0 e0 i1 0) := by refine (aI (J := fE D) (by kernel_rfl) (fun _ _ => rfl) [[1,0,1,0]]).trans ?_; generalize fE D = J; revert J; refine id ?_; intro J; kernel_rfl
end
def aD9 := atA D F.aV4
theorem aIN (i0_0 : Int) (b0_1 : Bool) (s0_2 s0_3 : ByteArray) (c0_4 : Fl true) (e0_4 : LT) (c0_5 : Fl true) (e0_5 : LT) (c0_6 : Fl true) (e0_6 : LT) (c0_7 : Fl true) (e0_7 : LT) (c0_8 : Fl true) (e0_8 : LT) (b0_9 : Bool) (c0_10 : Fl true) (e0_10 : LT) : bM Tryz.prog D Hs cB F.aV4 [.agg [.int .i64 i0_0,.bool b0_1,.str s0_2,.str s0_3,.sl c0_4 e0_4,.sl c0_5 e0_5,.sl c0_6 e0_6,.sl c0_7 e0_7,.sl c0_8 e0_8,.bool b0_9,.sl c0_10 e0_10]] [] = (D F.aUP [.leaf (.sl c0_4 e0_4)] []).bind fun r => oK r.fst fun c es => (D F.aUq [.leaf (.sl c0_5 e0_5)] []).bind fun r => oK r.fst fun c_1 es_1 => (D F.aU3 [.leaf (.sl c0_6 e0_6)] []).bind fun r => oK r.fst fun c_2 es_2 => (D F.aUA [.leaf (.sl c0_7 e0_7)] []).bind fun r => oK r.fst fun c_3 es_3 => (D F.aVl [.leaf (.sl c0_8 e0_8)] []).bind fun r => oK r.fst fun c_4 es_4 => (D F.aVI [.leaf (.sl c0_10 e0_10)] []).bind fun r => oK r.fst fun c_5 es_5 => some (.agg [.int .i64 i0_0,.bool b0_1,.str s0_2,.str s0_3,.sl c es,.sl c_1 es_1,.sl c_2 es_2,.sl c_3 es_3,.sl c_4 es_4,.bool b0_9,.sl c_5 es_5],[]) := by refine (aI (J := aD9 D) (by kernel_rfl) (fun _ _ => rfl) []).trans ?_; generalize aD9 D = J; revert J; refine id ?_; intro J; kernel_rfl
def aCg := atA D F.aVC
theorem aH4 (i0_0 : Int) (s0_1 : ByteArray) : bM Tryz.prog D Hs cB F.aVC [.agg [.int .i64 i0_0,.str s0_1]] [] = some (.agg [.int .i64 i0_0,.str s0_1],[]) := by refine (aI (J := aCg D) (by kernel_rfl) (fun _ _ => rfl) []).trans ?_; generalize aCg D = J; revert J; refine id ?_; intro J; kernel_rfl
section
variable (c0 : Fl true) (e0 : LT) (i1 i5 : Int)
def eJ := atA D F.aUr
def mB : PT := ([1,0,1,0],St.mk ([.leaf (.sl c0 e0),.leaf (.int .i64 i1),.any,.any,.any,.leaf (.int .i64 i5)] ++ bJ 14) (noB 20))
theorem sI : eJ D (mB c0 e0 i1 i5) = aC (decide (i5 < (↑e0.length : Int))) ((D F.aVe [.leaf (.int .i64 i1)] []).bind fun r => aM r.fst fun l => bO l fun s => aB (decide (0 ≤ i5) && decide (i5 < (↑e0.length : Int)) && sized 1 e0) (if (c0.isSoft = true ∧ eO (e0.getD i5.toNat []) 0 = true) ∧ ((.leaf (.str s) : SV true)).plain = true ∧ dR Tryz.prog 9 = some 1 then eJ D (mB c0 e0 (IntKind.i64.wrap (i1 + 1)) (IntKind.i64.wrap (i5 + 1))) else none)) (some (.leaf (.int .i64 i1),[])) := by refine (aL (J := eJ D) (fun _ _ => rfl) [[1,0,1,0]] _).trans ?_; generalize eJ D = J; revert J; refine id ?_; intro J; kernel_rfl
theorem aBW : bM Tryz.prog D Hs cB F.aUr [.leaf (.sl c0 e0),.leaf (.int .i64 i1)] [] = eJ D (mB c0 e0 i1 0) := by refine (aI (J := eJ D) (by kernel_rfl) (fun _ _ => rfl) [[1,0,1,0]]).trans ?_; generalize eJ D = J; revert J; refine id ?_; intro J; kernel_rfl
end
section
variable (c0 : Fl true) (e0 : LT) (i1 i5 : Int)
def dW := atA D F.aUd
def kG : PT := ([1,0,1,0],St.mk ([.leaf (.sl c0 e0),.leaf (.int .i64 i1),.any,.any,.any,.leaf (.int .i64 i5)] ++ bJ 55) (noB 61))
theorem qP : dW D (kG c0 e0 i1 i5) = aC (decide (i5 < (↑e0.length : Int))) ((D F.aVe [.leaf (.int .i64 i1)] []).bind fun r => aM r.fst fun l => bO l fun s => aB (decide (0 ≤ i5) && decide (i5 < (↑e0.length : Int)) && sized 6 e0) (if (c0.isSoft = true ∧ eO (e0.getD i5.toNat []) 0 = true) ∧ ((.leaf (.str s) : SV true)).plain = true ∧ dR Tryz.prog 9 = some 1 then (D F.aVe [.leaf (.int .i64 (IntKind.i64.wrap (i1 + 1)))] []).bind fun r => aM r.fst fun l => bO l fun s => aB (decide (0 ≤ i5) && decide (i5 < (↑e0.length : Int)) && sized 6 e0) (if (c0.isSoft = true ∧ eO (e0.getD i5.toNat []) 1 = true) ∧ ((.leaf (.str s) : SV true)).plain = true ∧ dR Tryz.prog 9 = some 1 then aB (decide (0 ≤ i5) && decide (i5 < (↑e0.length : Int)) && sized 6 e0) (atK (e0.getD i5.toNat []) 2 fun l => slK l fun c es => (D F.aUC [.leaf (.sl c es),.leaf (.int .i64 (IntKind.i64.wrap (IntKind.i64.wrap (i1 + 1) + 1)))] []).bind fun r => aM r.fst fun l => dF .i64 l fun n => (D F.aVe [.leaf (.int .i64 n)] []).bind fun r => aM r.fst fun l => bO l fun s => aB (decide (0 ≤ i5) && decide (i5 < (↑e0.length : Int)) && sized 6 e0) (if (c0.isSoft = true ∧ eO (e0.getD i5.toNat []) 3 = true) ∧ ((.leaf (.str s) : SV true)).plain = true ∧ dR Tryz.prog 9 = some 1 then (D F.aVe [.leaf (.int .i64 (IntKind.i64.wrap (n + 1)))] []).bind fun r => aM r.fst fun l => bO l fun s => aB (decide (0 ≤ i5) && decide (i5 < (↑e0.length : Int)) && sized 6 e0) (if (c0.isSoft = true ∧ eO (e0.getD i5.toNat []) 4 = true) ∧ ((.leaf (.str s) : SV true)).plain = true ∧ dR Tryz.prog 9 = some 1 then aB (decide (0 ≤ i5) && decide (i5 < (↑e0.length : Int)) && sized 6 e0) (atK (e0.getD i5.toNat []) 5 fun l => slK l fun c es => (D F.aU2 [.leaf (.sl c es),.leaf (.int .i64 (IntKind.i64.wrap (IntKind.i64.wrap (n + 1) + 1)))] []).bind fun r => aM r.fst fun l => dF .i64 l fun n => dW D (kG c0 e0 n (IntKind.i64.wrap (i5 + 1)))) else none) else none)) else none) else none)) (some (.leaf (.int .i64 i1),[])) := by refine (aL (J := dW D) (fun _ _ => rfl) [[1,0,1,0]] _).trans ?_; generalize dW D = J; revert J; refine id ?_; intro J; kernel_rfl
theorem aAt : bM Tryz.prog D Hs cB F.aUd [.leaf (.sl c0 e0),.leaf (.int .i64 i1)] [] = dW D (kG c0 e0 i1 0) := by refine (aI (J := dW D) (by kernel_rfl) (fun _ _ => rfl) [[1,0,1,0]]).trans ?_; generalize dW D = J; revert J; refine id ?_; intro J; kernel_rfl
end
section
variable (c0 : Fl true) (e0 : LT) (i1 i5 : Int)
def eV := atA D F.aUC
def mS : PT := ([1,0,1,0],St.mk ([.leaf (.sl c0 e0),.leaf (.int .i64 i1),.any,.any,.any,.leaf (.int .i64 i5)] ++ bJ 90) (noB 96))
theorem tM : eV D (mS c0 e0 i1 i5) = aC (decide (i5 < (↑e0.length : Int))) ((D F.aVe [.leaf (.int .i64 i1)] []).bind fun r => aM r.fst fun l => bO l fun s => aB (decide (0 ≤ i5) && decide (i5 < (↑e0.length : Int)) && sized 10 e0) (if (c0.isSoft = true ∧ eO (e0.getD i5.toNat []) 0 = true) ∧ ((.leaf (.str s) : SV true)).plain = true ∧ dR Tryz.prog 9 = some 1 then (D F.aVe [.leaf (.int .i64 (IntKind.i64.wrap (i1 + 1)))] []).bind fun r => aM r.fst fun l => bO l fun s => aB (decide (0 ≤ i5) && decide (i5 < (↑e0.length : Int)) && sized 10 e0) (if (c0.isSoft = true ∧ eO (e0.getD i5.toNat []) 1 = true) ∧ ((.leaf (.str s) : SV true)).plain = true ∧ dR Tryz.prog 9 = some 1 then (D F.aVe [.leaf (.int .i64 (IntKind.i64.wrap (IntKind.i64.wrap (i1 + 1) + 1)))] []).bind fun r => aM r.fst fun l => bO l fun s => aB (decide (0 ≤ i5) && decide (i5 < (↑e0.length : Int)) && sized 10 e0) (if (c0.isSoft = true ∧ eO (e0.getD i5.toNat []) 2 = true) ∧ ((.leaf (.str s) : SV true)).plain = true ∧ dR Tryz.prog 9 = some 1 then (D F.aVe [.leaf (.int .i64 (IntKind.i64.wrap (IntKind.i64.wrap (IntKind.i64.wrap (i1 + 1) + 1) + 1)))] []).bind fun r => aM r.fst fun l => bO l fun s => aB (decide (0 ≤ i5) && decide (i5 < (↑e0.length : Int)) && sized 10 e0) (if (c0.isSoft = true ∧ eO (e0.getD i5.toNat []) 3 = true) ∧ ((.leaf (.str s) : SV true)).plain = true ∧ dR Tryz.prog 9 = some 1 then aB (decide (0 ≤ i5) && decide (i5 < (↑e0.length : Int)) && sized 10 e0) (if (c0.isSoft = true ∧ eO (e0.getD i5.toNat []) 4 = true) ∧ ((.leaf (.bool ((IntKind.i64.wrap (IntKind.i64.wrap (IntKind.i64.wrap (IntKind.i64.wrap (i1 + 1) + 1) + 1) + 1)).tmod 3 == 0)) : SV true)).plain = true ∧ dR Tryz.prog 4 = some 1 then aB (decide (0 ≤ i5) && decide (i5 < (↑e0.length : Int)) && sized 10 e0) (if (c0.isSoft = true ∧ eO (e0.getD i5.toNat []) 5 = true) ∧ ((.leaf (.int .i64 (IntKind.i64.wrap (IntKind.i64.wrap (IntKind.i64.wrap (IntKind.i64.wrap (IntKind.i64.wrap (i1 + 1) + 1) + 1) + 1) + 1))) : SV true)).plain = true ∧ dR Tryz.prog 3 = some 1 then (D F.aVe [.leaf (.int .i64 (IntKind.i64.wrap (IntKind.i64.wrap (IntKind.i64.wrap (IntKind.i64.wrap (IntKind.i64.wrap (IntKind.i64.wrap (i1 + 1) + 1) + 1) + 1) + 1) + 1)))] []).bind fun r => aM r.fst fun l => bO l fun s => aB (decide (0 ≤ i5) && decide (i5 < (↑e0.length : Int)) && sized 10 e0) (if (c0.isSoft = true ∧ eO (e0.getD i5.toNat []) 6 = true) ∧ ((.leaf (.str s) : SV true)).plain = true ∧ dR Tryz.prog 9 = some 1 then aB (decide (0 ≤ i5) && decide (i5 < (↑e0.length : Int)) && sized 10 e0) (atK (e0.getD i5.toNat []) 7 fun l => slK l fun c es => (D F.aUB [.leaf (.sl c es),.leaf (.int .i64 (IntKind.i64.wrap (IntKind.i64.wrap (IntKind.i64.wrap (IntKind.i64.wrap (IntKind.i64.wrap (IntKind.i64.wrap (IntKind.i64.wrap (i1 + 1) + 1) + 1) + 1) + 1) + 1) + 1)))] []).bind fun r => aM r.fst fun l => dF .i64 l fun n => aB (decide (0 ≤ i5) && decide (i5 < (↑e0.length : Int)) && sized 10 e0) (atK (e0.getD i5.toNat []) 8 fun l => slK l fun c es => (D F.aUr [.leaf (.sl c es),.leaf (.int .i64 n)] []).bind fun r => aM r.fst fun l => dF .i64 l fun n => aB (decide (0 ≤ i5) && decide (i5 < (↑e0.length : Int)) && sized 10 e0) (atK (e0.getD i5.toNat []) 9 fun l => slK l fun c es => (D F.aU2 [.leaf (.sl c es),.leaf (.int .i64 n)] []).bind fun r => aM r.fst fun l => dF .i64 l fun n => eV D (mS c0 e0 n (IntKind.i64.wrap (i5 + 1)))))) else none) else none) else none) else none) else none) else none) else none)) (some (.leaf (.int .i64 i1),[])) := by refine (aL (J := eV D) (fun _ _ => rfl) [[1,0,1,0]] _).trans ?_; generalize eV D = J; revert J; refine id ?_; intro J; kernel_rfl
theorem aCK : bM Tryz.prog D Hs cB F.aUC [.leaf (.sl c0 e0),.leaf (.int .i64 i1)] [] = eV D (mS c0 e0 i1 0) := by refine (aI (J := eV D) (by kernel_rfl) (fun _ _ => rfl) [[1,0,1,0]]).trans ?_; generalize eV D = J; revert J; refine id ?_; intro J; kernel_rfl
end
section
variable (c0 : Fl true) (e0 : LT) (i1 i5 : Int)
def eB := atA D F.aUf
def lK : PT := ([1,0,1,0],St.mk ([.leaf (.sl c0 e0),.leaf (.int .i64 i1),.any,.any,.any,.leaf (.int .i64 i5)] ++ bJ 30) (noB 36))
theorem qY : eB D (lK c0 e0 i1 i5) = aC (decide (i5 < (↑e0.length : Int))) ((D F.aVe [.leaf (.int .i64 i1)] []).bind fun r => aM r.fst fun l => bO l fun s => aB (decide (0 ≤ i5) && decide (i5 < (↑e0.length : Int)) && sized 3 e0) (if (c0.isSoft = true ∧ eO (e0.getD i5.toNat []) 0 = true) ∧ ((.leaf (.str s) : SV true)).plain = true ∧ dR Tryz.prog 9 = some 1 then (D F.aVe [.leaf (.int .i64 (IntKind.i64.wrap (i1 + 1)))] []).bind fun r => aM r.fst fun l => bO l fun s => aB (decide (0 ≤ i5) && decide (i5 < (↑e0.length : Int)) && sized 3 e0) (if (c0.isSoft = true ∧ eO (e0.getD i5.toNat []) 1 = true) ∧ ((.leaf (.str s) : SV true)).plain = true ∧ dR Tryz.prog 9 = some 1 then aB (decide (0 ≤ i5) && decide (i5 < (↑e0.length : Int)) && sized 3 e0) (atK (e0.getD i5.toNat []) 2 fun l => slK l fun c es => (D F.aU2 [.leaf (.sl c es),.leaf (.int .i64 (IntKind.i64.wrap (IntKind.i64.wrap (i1 + 1) + 1)))] []).bind fun r => aM r.fst fun l => dF .i64 l fun n => eB D (lK c0 e0 n (IntKind.i64.wrap (i5 + 1)))) else none) else none)) (some (.leaf (.int .i64 i1),[])) := by refine (aL (J := eB D) (fun _ _ => rfl) [[1,0,1,0]] _).trans ?_; generalize eB D = J; revert J; refine id ?_; intro J; kernel_rfl
theorem aAW : bM Tryz.prog D Hs cB F.aUf [.leaf (.sl c0 e0),.leaf (.int .i64 i1)] [] = eB D (lK c0 e0 i1 0) := by refine (aI (J := eB D) (by kernel_rfl) (fun _ _ => rfl) [[1,0,1,0]]).trans ?_; generalize eB D = J; revert J; refine id ?_; intro J; kernel_rfl
end
section
variable (c0 : Fl true) (e0 : LT) (i1 i5 : Int)
def gG := atA D F.aU2
def oY : PT := ([1,0,1,0],St.mk ([.leaf (.sl c0 e0),.leaf (.int .i64 i1),.any,.any,.any,.leaf (.int .i64 i5)] ++ bJ 22) (noB 28))
theorem wC : gG D (oY c0 e0 i1 i5) = aC (decide (i5 < (↑e0.length : Int))) ((D F.aVe [.leaf (.int .i64 i1)] []).bind fun r => aM r.fst fun l => bO l fun s => aB (decide (0 ≤ i5) && decide (i5 < (↑e0.length : Int)) && sized 2 e0) (if (c0.isSoft = true ∧ eO (e0.getD i5.toNat []) 0 = true) ∧ ((.leaf (.str s) : SV true)).plain = true ∧ dR Tryz.prog 9 = some 1 then aB (decide (0 ≤ i5) && decide (i5 < (↑e0.length : Int)) && sized 2 e0) (atK (e0.getD i5.toNat []) 1 fun l => slK l fun c es => (D F.aU5 [.leaf (.sl c es),.leaf (.int .i64 (IntKind.i64.wrap (i1 + 1)))] []).bind fun r => aM r.fst fun l => dF .i64 l fun n => gG D (oY c0 e0 n (IntKind.i64.wrap (i5 + 1)))) else none)) (some (.leaf (.int .i64 i1),[])) := by refine (aL (J := gG D) (fun _ _ => rfl) [[1,0,1,0]] _).trans ?_; generalize gG D = J; revert J; refine id ?_; intro J; kernel_rfl
theorem aEW : bM Tryz.prog D Hs cB F.aU2 [.leaf (.sl c0 e0),.leaf (.int .i64 i1)] [] = gG D (oY c0 e0 i1 0) := by refine (aI (J := gG D) (by kernel_rfl) (fun _ _ => rfl) [[1,0,1,0]]).trans ?_; generalize gG D = J; revert J; refine id ?_; intro J; kernel_rfl
end
section
variable (c0 : Fl true) (e0 : LT) (n3 : Nat) (i4 : Int) (vx7 : List (SV true))
def fG := atA D F.aUP
def nX : PT := ([1,1,0,1,0],St.mk ([.leaf (.sl c0 e0),.any,.any,.bsl 7 1 0 n3,.leaf (.int .i64 i4)] ++ bJ 17) (noB 7 ++ [some vx7] ++ noB 14))
theorem uG : fG D (nX c0 e0 n3 i4 vx7) = aC (decide (i4 < (↑e0.length : Int))) (aB (decide (0 ≤ i4) && decide (i4 < (↑e0.length : Int)) && sized 1 e0) (atK (e0.getD i4.toNat []) 0 fun l => bO l fun s => aB (decide (0 ≤ i4) && decide (i4 < (↑n3 : Int))) (aB (decide ((0 + i4.toNat) * 1 + 1 ≤ vx7.length)) (fG D (nX c0 e0 n3 (IntKind.i64.wrap (i4 + 1)) (jK vx7 ((0 + i4.toNat) * 1) [.leaf (.str s)])))))) (aB (decide (n3 * 1 ≤ vx7.length)) ((cN (List.take (n3 * 1) vx7)).bind fun l => some (.leaf (.sl aS (jN 1 n3 l)),[]))) := by refine (aL (J := fG D) (fun _ _ => rfl) [[1,1,0,1,0]] _).trans ?_; generalize fG D = J; revert J; refine id ?_; intro J; kernel_rfl
theorem aD7 : bM Tryz.prog D Hs cB F.aUP [.leaf (.sl c0 e0)] [] = aB ((↑e0.length : Int) == (↑e0.length : Int) && decide ((↑e0.length : Int).toNat * 16 ≤ aH) && decide ((↑e0.length : Int).toNat ≤ aH)) (fG D (nX c0 e0 (decide (0 ≤ (↑e0.length : Int)) && (↑e0.length : Int) == (↑e0.length : Int) && decide ((↑e0.length : Int).toNat * Tryz.prog.types[9].bytes ≤ aH) && decide ((↑e0.length : Int).toNat ≤ aH),(Tryz.prog.types[9].size,(↑e0.length : Int).toNat),List.map SV.leaf (List.replicate (↑e0.length : Int).toNat ((fun (x : List (aA true)) => .str (ByteArray.mk #[]) :: x) [])).flatten).snd.fst.snd 0 (decide (0 ≤ (↑e0.length : Int)) && (↑e0.length : Int) == (↑e0.length : Int) && decide ((↑e0.length : Int).toNat * Tryz.prog.types[9].bytes ≤ aH) && decide ((↑e0.length : Int).toNat ≤ aH),(Tryz.prog.types[9].size,(↑e0.length : Int).toNat),List.map SV.leaf (List.replicate (↑e0.length : Int).toNat ((fun (x : List (aA true)) => .str (ByteArray.mk #[]) :: x) [])).flatten).snd.snd)) := by refine (aI (J := fG D) (by kernel_rfl) (fun _ _ => rfl) [[1,1,0,1,0]]).trans ?_; generalize fG D = J; revert J; refine id ?_; intro J; kernel_rfl
end
section
variable (c0 : Fl true) (e0 : LT) (n3 : Nat) (i4 : Int) (vx7 : List (SV true))
def eN := atA D F.aUq
def mF : PT := ([1,1,0,1,0],St.mk ([.leaf (.sl c0 e0),.any,.any,.bsl 7 6 0 n3,.leaf (.int .i64 i4)] ++ bJ 18) (noB 7 ++ [some vx7] ++ noB 15))
theorem sE : eN D (mF c0 e0 n3 i4 vx7) = aC (decide (i4 < (↑e0.length : Int))) (aB (decide (0 ≤ i4) && decide (i4 < (↑e0.length : Int)) && sized 6 e0) (fB (e0.getD i4.toNat []) fun e => atK e 0 fun l => bO l fun s => atK e 1 fun l => bO l fun s_1 => atK e 2 fun l => slK l fun c es => atK e 3 fun l => bO l fun s_2 => atK e 4 fun l => bO l fun s_3 => atK e 5 fun l => slK l fun c_1 es_1 => (D F.aUz [.agg [.str s,.str s_1,.sl c es,.str s_2,.str s_3,.sl c_1 es_1]] []).bind fun r => dU r.fst fun cs => aB (cs.length == 6) (atK cs 0 fun l => bO l fun s => atK cs 1 fun l => bO l fun s_4 => atK cs 2 fun l => slK l fun c es => atK cs 3 fun l => bO l fun s_5 => atK cs 4 fun l => bO l fun s_6 => atK cs 5 fun l => slK l fun c_2 es_2 => aB (decide (0 ≤ i4) && decide (i4 < (↑n3 : Int))) (aB (decide ((0 + i4.toNat) * 6 + 6 ≤ vx7.length)) (eN D (mF c0 e0 n3 (IntKind.i64.wrap (i4 + 1)) (jK vx7 ((0 + i4.toNat) * 6) [.leaf (.str s),.leaf (.str s_4),.leaf (.sl c es),.leaf (.str s_5),.leaf (.str s_6),.leaf (.sl c_2 es_2)]))))))) (aB (decide (n3 * 6 ≤ vx7.length)) ((cN (List.take (n3 * 6) vx7)).bind fun l => some (.leaf (.sl aS (jN 6 n3 l)),[]))) := by refine (aL (J := eN D) (fun _ _ => rfl) [[1,1,0,1,0]] _).trans ?_; generalize eN D = J; revert J; refine id ?_; intro J; kernel_rfl
theorem aBH : bM Tryz.prog D Hs cB F.aUq [.leaf (.sl c0 e0)] [] = aB ((↑e0.length : Int) == (↑e0.length : Int) && decide ((↑e0.length : Int).toNat * 112 ≤ aH) && decide ((↑e0.length : Int).toNat ≤ aH)) (eN D (mF c0 e0 (decide (0 ≤ (↑e0.length : Int)) && (↑e0.length : Int) == (↑e0.length : Int) && decide ((↑e0.length : Int).toNat * Tryz.prog.types[117].bytes ≤ aH) && decide ((↑e0.length : Int).toNat ≤ aH),(Tryz.prog.types[117].size,(↑e0.length : Int).toNat),List.map SV.leaf (List.replicate (↑e0.length : Int).toNat ((fun (x : List (aA true)) => .str (ByteArray.mk #[]) :: x) ((fun (x : List (aA true)) => .str (ByteArray.mk #[]) :: x) ((fun (x : List (aA true)) => .sl (Fl.new true) [] :: x) ((fun (x : List (aA true)) => .str (ByteArray.mk #[]) :: x) ((fun (x : List (aA true)) => .str (ByteArray.mk #[]) :: x) ((fun (x : List (aA true)) => .sl (Fl.new true) [] :: x) []))))))).flatten).snd.fst.snd 0 (decide (0 ≤ (↑e0.length : Int)) && (↑e0.length : Int) == (↑e0.length : Int) && decide ((↑e0.length : Int).toNat * Tryz.prog.types[117].bytes ≤ aH) && decide ((↑e0.length : Int).toNat ≤ aH),(Tryz.prog.types[117].size,(↑e0.length : Int).toNat),List.map SV.leaf (List.replicate (↑e0.length : Int).toNat ((fun (x : List (aA true)) => .str (ByteArray.mk #[]) :: x) ((fun (x : List (aA true)) => .str (ByteArray.mk #[]) :: x) ((fun (x : List (aA true)) => .sl (Fl.new true) [] :: x) ((fun (x : List (aA true)) => .str (ByteArray.mk #[]) :: x) ((fun (x : List (aA true)) => .str (ByteArray.mk #[]) :: x) ((fun (x : List (aA true)) => .sl (Fl.new true) [] :: x) []))))))).flatten).snd.snd)) := by refine (aI (J := eN D) (by kernel_rfl) (fun _ _ => rfl) [[1,1,0,1,0]]).trans ?_; generalize eN D = J; revert J; refine id ?_; intro J; kernel_rfl
end
section
variable (c0 : Fl true) (e0 : LT) (n3 : Nat) (i4 : Int) (vx7 : List (SV true))
def gF := atA D F.aU3
def oU : PT := ([1,1,0,1,0],St.mk ([.leaf (.sl c0 e0),.any,.any,.bsl 7 10 0 n3,.leaf (.int .i64 i4)] ++ bJ 18) (noB 7 ++ [some vx7] ++ noB 15))
theorem wA : gF D (oU c0 e0 n3 i4 vx7) = aC (decide (i4 < (↑e0.length : Int))) (aB (decide (0 ≤ i4) && decide (i4 < (↑e0.length : Int)) && sized 10 e0) (fB (e0.getD i4.toNat []) fun e => atK e 0 fun l => bO l fun s => atK e 1 fun l => bO l fun s_1 => atK e 2 fun l => bO l fun s_2 => atK e 3 fun l => bO l fun s_3 => atK e 4 fun l => cL l fun b => atK e 5 fun l => dF .i64 l fun n => atK e 6 fun l => bO l fun s_4 => atK e 7 fun l => slK l fun c es => atK e 8 fun l => slK l fun c_1 es_1 => atK e 9 fun l => slK l fun c_2 es_2 => (D F.aVs [.agg [.str s,.str s_1,.str s_2,.str s_3,.bool b,.int .i64 n,.str s_4,.sl c es,.sl c_1 es_1,.sl c_2 es_2]] []).bind fun r => dU r.fst fun cs => aB (cs.length == 10) (atK cs 0 fun l => bO l fun s => atK cs 1 fun l => bO l fun s_5 => atK cs 2 fun l => bO l fun s_6 => atK cs 3 fun l => bO l fun s_7 => atK cs 4 fun l => cL l fun b => atK cs 5 fun l => dF .i64 l fun n => atK cs 6 fun l => bO l fun s_8 => atK cs 7 fun l => slK l fun c es => atK cs 8 fun l => slK l fun c_3 es_3 => atK cs 9 fun l => slK l fun c_4 es_4 => aB (decide (0 ≤ i4) && decide (i4 < (↑n3 : Int))) (aB (decide ((0 + i4.toNat) * 10 + 10 ≤ vx7.length)) (gF D (oU c0 e0 n3 (IntKind.i64.wrap (i4 + 1)) (jK vx7 ((0 + i4.toNat) * 10) [.leaf (.str s),.leaf (.str s_5),.leaf (.str s_6),.leaf (.str s_7),.leaf (.bool b),.leaf (.int .i64 n),.leaf (.str s_8),.leaf (.sl c es),.leaf (.sl c_3 es_3),.leaf (.sl c_4 es_4)]))))))) (aB (decide (n3 * 10 ≤ vx7.length)) ((cN (List.take (n3 * 10) vx7)).bind fun l => some (.leaf (.sl aS (jN 10 n3 l)),[]))) := by refine (aL (J := gF D) (fun _ _ => rfl) [[1,1,0,1,0]] _).trans ?_; generalize gF D = J; revert J; refine id ?_; intro J; kernel_rfl
theorem aEX : bM Tryz.prog D Hs cB F.aU3 [.leaf (.sl c0 e0)] [] = aB ((↑e0.length : Int) == (↑e0.length : Int) && decide ((↑e0.length : Int).toNat * 168 ≤ aH) && decide ((↑e0.length : Int).toNat ≤ aH)) (gF D (oU c0 e0 (decide (0 ≤ (↑e0.length : Int)) && (↑e0.length : Int) == (↑e0.length : Int) && decide ((↑e0.length : Int).toNat * Tryz.prog.types[194].bytes ≤ aH) && decide ((↑e0.length : Int).toNat ≤ aH),(Tryz.prog.types[194].size,(↑e0.length : Int).toNat),List.map SV.leaf (List.replicate (↑e0.length : Int).toNat ((fun (x : List (aA true)) => .str (ByteArray.mk #[]) :: x) ((fun (x : List (aA true)) => .str (ByteArray.mk #[]) :: x) ((fun (x : List (aA true)) => .str (ByteArray.mk #[]) :: x) ((fun (x : List (aA true)) => .str (ByteArray.mk #[]) :: x) ((fun (x : List (aA true)) => .bool false :: x) ((fun (x : List (aA true)) => .int .i64 0 :: x) ((fun (x : List (aA true)) => .str (ByteArray.mk #[]) :: x) ((fun (x : List (aA true)) => .sl (Fl.new true) [] :: x) ((fun (x : List (aA true)) => .sl (Fl.new true) [] :: x) ((fun (x : List (aA true)) => .sl (Fl.new true) [] :: x) []))))))))))).flatten).snd.fst.snd 0 (decide (0 ≤ (↑e0.length : Int)) && (↑e0.length : Int) == (↑e0.length : Int) && decide ((↑e0.length : Int).toNat * Tryz.prog.types[194].bytes ≤ aH) && decide ((↑e0.length : Int).toNat ≤ aH),(Tryz.prog.types[194].size,(↑e0.length : Int).toNat),List.map SV.leaf (List.replicate (↑e0.length : Int).toNat ((fun (x : List (aA true)) => .str (ByteArray.mk #[]) :: x) ((fun (x : List (aA true)) => .str (ByteArray.mk #[]) :: x) ((fun (x : List (aA true)) => .str (ByteArray.mk #[]) :: x) ((fun (x : List (aA true)) => .str (ByteArray.mk #[]) :: x) ((fun (x : List (aA true)) => .bool false :: x) ((fun (x : List (aA true)) => .int .i64 0 :: x) ((fun (x : List (aA true)) => .str (ByteArray.mk #[]) :: x) ((fun (x : List (aA true)) => .sl (Fl.new true) [] :: x) ((fun (x : List (aA true)) => .sl (Fl.new true) [] :: x) ((fun (x : List (aA true)) => .sl (Fl.new true) [] :: x) []))))))))))).flatten).snd.snd)) := by refine (aI (J := gF D) (by kernel_rfl) (fun _ _ => rfl) [[1,1,0,1,0]]).trans ?_; generalize gF D = J; revert J; refine id ?_; intro J; kernel_rfl
end
section
variable (c0 : Fl true) (e0 : LT) (n3 : Nat) (i4 : Int) (vx7 : List (SV true))
def eW := atA D F.aUA
def mV : PT := ([1,1,0,1,0],St.mk ([.leaf (.sl c0 e0),.any,.any,.bsl 7 3 0 n3,.leaf (.int .i64 i4)] ++ bJ 18) (noB 7 ++ [some vx7] ++ noB 15))
theorem tH : eW D (mV c0 e0 n3 i4 vx7) = aC (decide (i4 < (↑e0.length : Int))) (aB (decide (0 ≤ i4) && decide (i4 < (↑e0.length : Int)) && sized 3 e0) (fB (e0.getD i4.toNat []) fun e => atK e 0 fun l => bO l fun s => atK e 1 fun l => bO l fun s_1 => atK e 2 fun l => slK l fun c es => (D F.aUI [.agg [.str s,.str s_1,.sl c es]] []).bind fun r => dU r.fst fun cs => aB (cs.length == 3) (atK cs 0 fun l => bO l fun s => atK cs 1 fun l => bO l fun s_2 => atK cs 2 fun l => slK l fun c es => aB (decide (0 ≤ i4) && decide (i4 < (↑n3 : Int))) (aB (decide ((0 + i4.toNat) * 3 + 3 ≤ vx7.length)) (eW D (mV c0 e0 n3 (IntKind.i64.wrap (i4 + 1)) (jK vx7 ((0 + i4.toNat) * 3) [.leaf (.str s),.leaf (.str s_2),.leaf (.sl c es)]))))))) (aB (decide (n3 * 3 ≤ vx7.length)) ((cN (List.take (n3 * 3) vx7)).bind fun l => some (.leaf (.sl aS (jN 3 n3 l)),[]))) := by refine (aL (J := eW D) (fun _ _ => rfl) [[1,1,0,1,0]] _).trans ?_; generalize eW D = J; revert J; refine id ?_; intro J; kernel_rfl
theorem aCs : bM Tryz.prog D Hs cB F.aUA [.leaf (.sl c0 e0)] [] = aB ((↑e0.length : Int) == (↑e0.length : Int) && decide ((↑e0.length : Int).toNat * 56 ≤ aH) && decide ((↑e0.length : Int).toNat ≤ aH)) (eW D (mV c0 e0 (decide (0 ≤ (↑e0.length : Int)) && (↑e0.length : Int) == (↑e0.length : Int) && decide ((↑e0.length : Int).toNat * Tryz.prog.types[196].bytes ≤ aH) && decide ((↑e0.length : Int).toNat ≤ aH),(Tryz.prog.types[196].size,(↑e0.length : Int).toNat),List.map SV.leaf (List.replicate (↑e0.length : Int).toNat ((fun (x : List (aA true)) => .str (ByteArray.mk #[]) :: x) ((fun (x : List (aA true)) => .str (ByteArray.mk #[]) :: x) ((fun (x : List (aA true)) => .sl (Fl.new true) [] :: x) [])))).flatten).snd.fst.snd 0 (decide (0 ≤ (↑e0.length : Int)) && (↑e0.length : Int) == (↑e0.length : Int) && decide ((↑e0.length : Int).toNat * Tryz.prog.types[196].bytes ≤ aH) && decide ((↑e0.length : Int).toNat ≤ aH),(Tryz.prog.types[196].size,(↑e0.length : Int).toNat),List.map SV.leaf (List.replicate (↑e0.length : Int).toNat ((fun (x : List (aA true)) => .str (ByteArray.mk #[]) :: x) ((fun (x : List (aA true)) => .str (ByteArray.mk #[]) :: x) ((fun (x : List (aA true)) => .sl (Fl.new true) [] :: x) [])))).flatten).snd.snd)) := by refine (aI (J := eW D) (by kernel_rfl) (fun _ _ => rfl) [[1,1,0,1,0]]).trans ?_; generalize eW D = J; revert J; refine id ?_; intro J; kernel_rfl
end
section
variable (c0 : Fl true) (e0 : LT) (n3 : Nat) (i4 : Int) (vx7 : List (SV true))
def iV := atA D F.aVI
def rS : PT := ([1,1,0,1,0],St.mk ([.leaf (.sl c0 e0),.any,.any,.bsl 7 2 0 n3,.leaf (.int .i64 i4)] ++ bJ 18) (noB 7 ++ [some vx7] ++ noB 15))
theorem zI : iV D (rS c0 e0 n3 i4 vx7) = aC (decide (i4 < (↑e0.length : Int))) (aB (decide (0 ≤ i4) && decide (i4 < (↑e0.length : Int)) && sized 2 e0) (fB (e0.getD i4.toNat []) fun e => atK e 0 fun l => bO l fun s => atK e 1 fun l => slK l fun c es => (D F.aV7 [.agg [.str s,.sl c es]] []).bind fun r => dU r.fst fun cs => aB (cs.length == 2) (atK cs 0 fun l => bO l fun s => atK cs 1 fun l => slK l fun c es => aB (decide (0 ≤ i4) && decide (i4 < (↑n3 : Int))) (aB (decide ((0 + i4.toNat) * 2 + 2 ≤ vx7.length)) (iV D (rS c0 e0 n3 (IntKind.i64.wrap (i4 + 1)) (jK vx7 ((0 + i4.toNat) * 2) [.leaf (.str s),.leaf (.sl c es)]))))))) (aB (decide (n3 * 2 ≤ vx7.length)) ((cN (List.take (n3 * 2) vx7)).bind fun l => some (.leaf (.sl aS (jN 2 n3 l)),[]))) := by refine (aL (J := iV D) (fun _ _ => rfl) [[1,1,0,1,0]] _).trans ?_; generalize iV D = J; revert J; refine id ?_; intro J; kernel_rfl
theorem aHn : bM Tryz.prog D Hs cB F.aVI [.leaf (.sl c0 e0)] [] = aB ((↑e0.length : Int) == (↑e0.length : Int) && decide ((↑e0.length : Int).toNat * 40 ≤ aH) && decide ((↑e0.length : Int).toNat ≤ aH)) (iV D (rS c0 e0 (decide (0 ≤ (↑e0.length : Int)) && (↑e0.length : Int) == (↑e0.length : Int) && decide ((↑e0.length : Int).toNat * Tryz.prog.types[148].bytes ≤ aH) && decide ((↑e0.length : Int).toNat ≤ aH),(Tryz.prog.types[148].size,(↑e0.length : Int).toNat),List.map SV.leaf (List.replicate (↑e0.length : Int).toNat ((fun (x : List (aA true)) => .str (ByteArray.mk #[]) :: x) ((fun (x : List (aA true)) => .sl (Fl.new true) [] :: x) []))).flatten).snd.fst.snd 0 (decide (0 ≤ (↑e0.length : Int)) && (↑e0.length : Int) == (↑e0.length : Int) && decide ((↑e0.length : Int).toNat * Tryz.prog.types[148].bytes ≤ aH) && decide ((↑e0.length : Int).toNat ≤ aH),(Tryz.prog.types[148].size,(↑e0.length : Int).toNat),List.map SV.leaf (List.replicate (↑e0.length : Int).toNat ((fun (x : List (aA true)) => .str (ByteArray.mk #[]) :: x) ((fun (x : List (aA true)) => .sl (Fl.new true) [] :: x) []))).flatten).snd.snd)) := by refine (aI (J := iV D) (by kernel_rfl) (fun _ _ => rfl) [[1,1,0,1,0]]).trans ?_; generalize iV D = J; revert J; refine id ?_; intro J; kernel_rfl
end
section
variable (c0 : Fl true) (e0 : LT) (i1 i5 : Int)
def eX := atA D F.aUB
def mR : PT := ([1,0,1,0],St.mk ([.leaf (.sl c0 e0),.leaf (.int .i64 i1),.any,.any,.any,.leaf (.int .i64 i5)] ++ bJ 36) (noB 42))
theorem sU : eX D (mR c0 e0 i1 i5) = aC (decide (i5 < (↑e0.length : Int))) (aB (decide (0 ≤ i5) && decide (i5 < (↑e0.length : Int)) && sized 4 e0) (if (c0.isSoft = true ∧ eO (e0.getD i5.toNat []) 0 = true) ∧ ((.leaf (.int .i64 i1) : SV true)).plain = true ∧ dR Tryz.prog 3 = some 1 then (D F.aVe [.leaf (.int .i64 (IntKind.i64.wrap (i1 + 1)))] []).bind fun r => aM r.fst fun l => bO l fun s => aB (decide (0 ≤ i5) && decide (i5 < (↑e0.length : Int)) && sized 4 e0) (if (c0.isSoft = true ∧ eO (e0.getD i5.toNat []) 1 = true) ∧ ((.leaf (.str s) : SV true)).plain = true ∧ dR Tryz.prog 9 = some 1 then aB (decide (0 ≤ i5) && decide (i5 < (↑e0.length : Int)) && sized 4 e0) (atK (e0.getD i5.toNat []) 2 fun l => slK l fun c es => (D F.aUB [.leaf (.sl c es),.leaf (.int .i64 (IntKind.i64.wrap (IntKind.i64.wrap (i1 + 1) + 1)))] []).bind fun r => aM r.fst fun l => dF .i64 l fun n => aB (decide (0 ≤ i5) && decide (i5 < (↑e0.length : Int)) && sized 4 e0) (atK (e0.getD i5.toNat []) 3 fun l => slK l fun c es => (D F.aUr [.leaf (.sl c es),.leaf (.int .i64 n)] []).bind fun r => aM r.fst fun l => dF .i64 l fun n => eX D (mR c0 e0 n (IntKind.i64.wrap (i5 + 1))))) else none) else none)) (some (.leaf (.int .i64 i1),[])) := by refine (aL (J := eX D) (fun _ _ => rfl) [[1,0,1,0]] _).trans ?_; generalize eX D = J; revert J; refine id ?_; intro J; kernel_rfl
theorem aCz : bM Tryz.prog D Hs cB F.aUB [.leaf (.sl c0 e0),.leaf (.int .i64 i1)] [] = eX D (mR c0 e0 i1 0) := by refine (aI (J := eX D) (by kernel_rfl) (fun _ _ => rfl) [[1,0,1,0]]).trans ?_; generalize eX D = J; revert J; refine id ?_; intro J; kernel_rfl
end
section
variable (c0 : Fl true) (e0 : LT) (i1 i5 : Int)
def gM := atA D F.aU5
def oZ : PT := ([1,0,1,0],St.mk ([.leaf (.sl c0 e0),.leaf (.int .i64 i1),.any,.any,.any,.leaf (.int .i64 i5)] ++ bJ 48) (noB 54))
theorem wM : gM D (oZ c0 e0 i1 i5) = aC (decide (i5 < (↑e0.length : Int))) ((D F.aVe [.leaf (.int .i64 i1)] []).bind fun r => aM r.fst fun l => bO l fun s => aB (decide (0 ≤ i5) && decide (i5 < (↑e0.length : Int)) && sized 5 e0) (if (c0.isSoft = true ∧ eO (e0.getD i5.toNat []) 0 = true) ∧ ((.leaf (.str s) : SV true)).plain = true ∧ dR Tryz.prog 9 = some 1 then aB (decide (0 ≤ i5) && decide (i5 < (↑e0.length : Int)) && sized 5 e0) (if (c0.isSoft = true ∧ eO (e0.getD i5.toNat []) 1 = true) ∧ ((.leaf (.int .i64 (IntKind.i64.wrap (i1 + 1))) : SV true)).plain = true ∧ dR Tryz.prog 3 = some 1 then (D F.aVe [.leaf (.int .i64 (IntKind.i64.wrap (IntKind.i64.wrap (i1 + 1) + 1)))] []).bind fun r => aM r.fst fun l => bO l fun s => aB (decide (0 ≤ i5) && decide (i5 < (↑e0.length : Int)) && sized 5 e0) (if (c0.isSoft = true ∧ eO (e0.getD i5.toNat []) 2 = true) ∧ ((.leaf (.str s) : SV true)).plain = true ∧ dR Tryz.prog 9 = some 1 then aB (decide (0 ≤ i5) && decide (i5 < (↑e0.length : Int)) && sized 5 e0) (atK (e0.getD i5.toNat []) 3 fun l => slK l fun c es => (D F.aUB [.leaf (.sl c es),.leaf (.int .i64 (IntKind.i64.wrap (IntKind.i64.wrap (IntKind.i64.wrap (i1 + 1) + 1) + 1)))] []).bind fun r => aM r.fst fun l => dF .i64 l fun n => aB (decide (0 ≤ i5) && decide (i5 < (↑e0.length : Int)) && sized 5 e0) (atK (e0.getD i5.toNat []) 4 fun l => slK l fun c es => (D F.aUr [.leaf (.sl c es),.leaf (.int .i64 n)] []).bind fun r => aM r.fst fun l => dF .i64 l fun n => gM D (oZ c0 e0 n (IntKind.i64.wrap (i5 + 1))))) else none) else none) else none)) (some (.leaf (.int .i64 i1),[])) := by refine (aL (J := gM D) (fun _ _ => rfl) [[1,0,1,0]] _).trans ?_; generalize gM D = J; revert J; refine id ?_; intro J; kernel_rfl
theorem aFm : bM Tryz.prog D Hs cB F.aU5 [.leaf (.sl c0 e0),.leaf (.int .i64 i1)] [] = gM D (oZ c0 e0 i1 0) := by refine (aI (J := gM D) (by kernel_rfl) (fun _ _ => rfl) [[1,0,1,0]]).trans ?_; generalize gM D = J; revert J; refine id ?_; intro J; kernel_rfl
end
def wZ := atA D F.aUz
theorem aCr (s0_0 s0_1 : ByteArray) (c0_2 : Fl true) (e0_2 : LT) (s0_3 s0_4 : ByteArray) (c0_5 : Fl true) (e0_5 : LT) : bM Tryz.prog D Hs cB F.aUz [.agg [.str s0_0,.str s0_1,.sl c0_2 e0_2,.str s0_3,.str s0_4,.sl c0_5 e0_5]] [] = (D F.aU3 [.leaf (.sl c0_2 e0_2)] []).bind fun r => oK r.fst fun c es => (D F.aVB [.agg [.str s0_3,.str s0_4]] []).bind fun r => dU r.fst fun cs => aB (cs.length == 2) (atK cs 0 fun l => bO l fun s => atK cs 1 fun l => bO l fun s_1 => (D F.aVI [.leaf (.sl c0_5 e0_5)] []).bind fun r => oK r.fst fun c_1 es_1 => some (.agg [.str s0_0,.str s0_1,.sl c es,.str s,.str s_1,.sl c_1 es_1],[])) := by refine (aI (J := wZ D) (by kernel_rfl) (fun _ _ => rfl) []).trans ?_; generalize wZ D = J; revert J; refine id ?_; intro J; kernel_rfl
def aBk := atA D F.aVs
theorem aGe (s0_0 s0_1 s0_2 s0_3 : ByteArray) (b0_4 : Bool) (i0_5 : Int) (s0_6 : ByteArray) (c0_7 : Fl true) (e0_7 : LT) (c0_8 : Fl true) (e0_8 : LT) (c0_9 : Fl true) (e0_9 : LT) : bM Tryz.prog D Hs cB F.aVs [.agg [.str s0_0,.str s0_1,.str s0_2,.str s0_3,.bool b0_4,.int .i64 i0_5,.str s0_6,.sl c0_7 e0_7,.sl c0_8 e0_8,.sl c0_9 e0_9]] [] = (D F.aVB [.agg [.str s0_2,.str s0_3]] []).bind fun r => dU r.fst fun cs => aB (cs.length == 2) (atK cs 0 fun l => bO l fun s => atK cs 1 fun l => bO l fun s_1 => (D F.aVw [.agg [.int .i64 i0_5,.str s0_6,.sl c0_7 e0_7,.sl c0_8 e0_8]] []).bind fun r => dU r.fst fun cs => aB (cs.length == 4) (atK cs 0 fun l => dF .i64 l fun n => atK cs 1 fun l => bO l fun s_2 => atK cs 2 fun l => slK l fun c es => atK cs 3 fun l => slK l fun c_1 es_1 => (D F.aVI [.leaf (.sl c0_9 e0_9)] []).bind fun r => oK r.fst fun c_2 es_2 => some (.agg [.str s0_0,.str s0_1,.str s,.str s_1,.bool b0_4,.int .i64 n,.str s_2,.sl c es,.sl c_1 es_1,.sl c_2 es_2],[]))) := by refine (aI (J := aBk D) (by kernel_rfl) (fun _ _ => rfl) []).trans ?_; generalize aBk D = J; revert J; refine id ?_; intro J; kernel_rfl
def yL := atA D F.aUI
theorem aDU (s0_0 s0_1 : ByteArray) (c0_2 : Fl true) (e0_2 : LT) : bM Tryz.prog D Hs cB F.aUI [.agg [.str s0_0,.str s0_1,.sl c0_2 e0_2]] [] = (D F.aVI [.leaf (.sl c0_2 e0_2)] []).bind fun r => oK r.fst fun c es => some (.agg [.str s0_0,.str s0_1,.sl c es],[]) := by refine (aI (J := yL D) (by kernel_rfl) (fun _ _ => rfl) []).trans ?_; generalize yL D = J; revert J; refine id ?_; intro J; kernel_rfl
def aDq := atA D F.aV7
theorem aIn (s0_0 : ByteArray) (c0_1 : Fl true) (e0_1 : LT) : bM Tryz.prog D Hs cB F.aV7 [.agg [.str s0_0,.sl c0_1 e0_1]] [] = (D F.aVy [.leaf (.sl c0_1 e0_1)] []).bind fun r => oK r.fst fun c es => some (.agg [.str s0_0,.sl c es],[]) := by refine (aI (J := aDq D) (by kernel_rfl) (fun _ _ => rfl) []).trans ?_; generalize aDq D = J; revert J; refine id ?_; intro J; kernel_rfl
def aB0 := atA D F.aVB
theorem aHX (s0_0 s0_1 : ByteArray) : bM Tryz.prog D Hs cB F.aVB [.agg [.str s0_0,.str s0_1]] [] = some (.agg [.str s0_0,.str s0_1],[]) := by refine (aI (J := aB0 D) (by kernel_rfl) (fun _ _ => rfl) []).trans ?_; generalize aB0 D = J; revert J; refine id ?_; intro J; kernel_rfl
def aBn := atA D F.aVw
theorem aGv (i0_0 : Int) (s0_1 : ByteArray) (c0_2 : Fl true) (e0_2 : LT) (c0_3 : Fl true) (e0_3 : LT) : bM Tryz.prog D Hs cB F.aVw [.agg [.int .i64 i0_0,.str s0_1,.sl c0_2 e0_2,.sl c0_3 e0_3]] [] = (D F.aVf [.leaf (.sl c0_2 e0_2)] []).bind fun r => oK r.fst fun c es => (D F.aUP [.leaf (.sl c0_3 e0_3)] []).bind fun r => oK r.fst fun c_1 es_1 => some (.agg [.int .i64 i0_0,.str s0_1,.sl c es,.sl c_1 es_1],[]) := by refine (aI (J := aBn D) (by kernel_rfl) (fun _ _ => rfl) []).trans ?_; generalize aBn D = J; revert J; refine id ?_; intro J; kernel_rfl
section
variable (c0 : Fl true) (e0 : LT) (n3 : Nat) (i4 : Int) (vx7 : List (SV true))
def iU := atA D F.aVy
def rH : PT := ([1,1,0,1,0],St.mk ([.leaf (.sl c0 e0),.any,.any,.bsl 7 5 0 n3,.leaf (.int .i64 i4)] ++ bJ 18) (noB 7 ++ [some vx7] ++ noB 15))
theorem yS : iU D (rH c0 e0 n3 i4 vx7) = aC (decide (i4 < (↑e0.length : Int))) (aB (decide (0 ≤ i4) && decide (i4 < (↑e0.length : Int)) && sized 5 e0) (fB (e0.getD i4.toNat []) fun e => atK e 0 fun l => bO l fun s => atK e 1 fun l => dF .i64 l fun n => atK e 2 fun l => bO l fun s_1 => atK e 3 fun l => slK l fun c es => atK e 4 fun l => slK l fun c_1 es_1 => (D F.aWb [.agg [.str s,.int .i64 n,.str s_1,.sl c es,.sl c_1 es_1]] []).bind fun r => dU r.fst fun cs => aB (cs.length == 5) (atK cs 0 fun l => bO l fun s => atK cs 1 fun l => dF .i64 l fun n => atK cs 2 fun l => bO l fun s_2 => atK cs 3 fun l => slK l fun c es => atK cs 4 fun l => slK l fun c_2 es_2 => aB (decide (0 ≤ i4) && decide (i4 < (↑n3 : Int))) (aB (decide ((0 + i4.toNat) * 5 + 5 ≤ vx7.length)) (iU D (rH c0 e0 n3 (IntKind.i64.wrap (i4 + 1)) (jK vx7 ((0 + i4.toNat) * 5) [.leaf (.str s),.leaf (.int .i64 n),.leaf (.str s_2),.leaf (.sl c es),.leaf (.sl c_2 es_2)]))))))) (aB (decide (n3 * 5 ≤ vx7.length)) ((cN (List.take (n3 * 5) vx7)).bind fun l => some (.leaf (.sl aS (jN 5 n3 l)),[]))) := by refine (aL (J := iU D) (fun _ _ => rfl) [[1,1,0,1,0]] _).trans ?_; generalize iU D = J; revert J; refine id ?_; intro J; kernel_rfl
theorem aHS : bM Tryz.prog D Hs cB F.aVy [.leaf (.sl c0 e0)] [] = aB ((↑e0.length : Int) == (↑e0.length : Int) && decide ((↑e0.length : Int).toNat * 88 ≤ aH) && decide ((↑e0.length : Int).toNat ≤ aH)) (iU D (rH c0 e0 (decide (0 ≤ (↑e0.length : Int)) && (↑e0.length : Int) == (↑e0.length : Int) && decide ((↑e0.length : Int).toNat * Tryz.prog.types[145].bytes ≤ aH) && decide ((↑e0.length : Int).toNat ≤ aH),(Tryz.prog.types[145].size,(↑e0.length : Int).toNat),List.map SV.leaf (List.replicate (↑e0.length : Int).toNat ((fun (x : List (aA true)) => .str (ByteArray.mk #[]) :: x) ((fun (x : List (aA true)) => .int .i64 0 :: x) ((fun (x : List (aA true)) => .str (ByteArray.mk #[]) :: x) ((fun (x : List (aA true)) => .sl (Fl.new true) [] :: x) ((fun (x : List (aA true)) => .sl (Fl.new true) [] :: x) [])))))).flatten).snd.fst.snd 0 (decide (0 ≤ (↑e0.length : Int)) && (↑e0.length : Int) == (↑e0.length : Int) && decide ((↑e0.length : Int).toNat * Tryz.prog.types[145].bytes ≤ aH) && decide ((↑e0.length : Int).toNat ≤ aH),(Tryz.prog.types[145].size,(↑e0.length : Int).toNat),List.map SV.leaf (List.replicate (↑e0.length : Int).toNat ((fun (x : List (aA true)) => .str (ByteArray.mk #[]) :: x) ((fun (x : List (aA true)) => .int .i64 0 :: x) ((fun (x : List (aA true)) => .str (ByteArray.mk #[]) :: x) ((fun (x : List (aA true)) => .sl (Fl.new true) [] :: x) ((fun (x : List (aA true)) => .sl (Fl.new true) [] :: x) [])))))).flatten).snd.snd)) := by refine (aI (J := iU D) (by kernel_rfl) (fun _ _ => rfl) [[1,1,0,1,0]]).trans ?_; generalize iU D = J; revert J; refine id ?_; intro J; kernel_rfl
end
section
variable (c0 : Fl true) (e0 : LT) (n3 : Nat) (i4 : Int) (vx7 : List (SV true))
def gH := atA D F.aVf
def pA : PT := ([1,1,0,1,0],St.mk ([.leaf (.sl c0 e0),.any,.any,.bsl 7 4 0 n3,.leaf (.int .i64 i4)] ++ bJ 18) (noB 7 ++ [some vx7] ++ noB 15))
theorem vZ : gH D (pA c0 e0 n3 i4 vx7) = aC (decide (i4 < (↑e0.length : Int))) (aB (decide (0 ≤ i4) && decide (i4 < (↑e0.length : Int)) && sized 4 e0) (fB (e0.getD i4.toNat []) fun e => atK e 0 fun l => dF .i64 l fun n => atK e 1 fun l => bO l fun s => atK e 2 fun l => slK l fun c es => atK e 3 fun l => slK l fun c_1 es_1 => (D F.aVw [.agg [.int .i64 n,.str s,.sl c es,.sl c_1 es_1]] []).bind fun r => dU r.fst fun cs => aB (cs.length == 4) (atK cs 0 fun l => dF .i64 l fun n => atK cs 1 fun l => bO l fun s => atK cs 2 fun l => slK l fun c es => atK cs 3 fun l => slK l fun c_2 es_2 => aB (decide (0 ≤ i4) && decide (i4 < (↑n3 : Int))) (aB (decide ((0 + i4.toNat) * 4 + 4 ≤ vx7.length)) (gH D (pA c0 e0 n3 (IntKind.i64.wrap (i4 + 1)) (jK vx7 ((0 + i4.toNat) * 4) [.leaf (.int .i64 n),.leaf (.str s),.leaf (.sl c es),.leaf (.sl c_2 es_2)]))))))) (aB (decide (n3 * 4 ≤ vx7.length)) ((cN (List.take (n3 * 4) vx7)).bind fun l => some (.leaf (.sl aS (jN 4 n3 l)),[]))) := by refine (aL (J := gH D) (fun _ _ => rfl) [[1,1,0,1,0]] _).trans ?_; generalize gH D = J; revert J; refine id ?_; intro J; kernel_rfl
theorem aER : bM Tryz.prog D Hs cB F.aVf [.leaf (.sl c0 e0)] [] = aB ((↑e0.length : Int) == (↑e0.length : Int) && decide ((↑e0.length : Int).toNat * 72 ≤ aH) && decide ((↑e0.length : Int).toNat ≤ aH)) (gH D (pA c0 e0 (decide (0 ≤ (↑e0.length : Int)) && (↑e0.length : Int) == (↑e0.length : Int) && decide ((↑e0.length : Int).toNat * Tryz.prog.types[143].bytes ≤ aH) && decide ((↑e0.length : Int).toNat ≤ aH),(Tryz.prog.types[143].size,(↑e0.length : Int).toNat),List.map SV.leaf (List.replicate (↑e0.length : Int).toNat ((fun (x : List (aA true)) => .int .i64 0 :: x) ((fun (x : List (aA true)) => .str (ByteArray.mk #[]) :: x) ((fun (x : List (aA true)) => .sl (Fl.new true) [] :: x) ((fun (x : List (aA true)) => .sl (Fl.new true) [] :: x) []))))).flatten).snd.fst.snd 0 (decide (0 ≤ (↑e0.length : Int)) && (↑e0.length : Int) == (↑e0.length : Int) && decide ((↑e0.length : Int).toNat * Tryz.prog.types[143].bytes ≤ aH) && decide ((↑e0.length : Int).toNat ≤ aH),(Tryz.prog.types[143].size,(↑e0.length : Int).toNat),List.map SV.leaf (List.replicate (↑e0.length : Int).toNat ((fun (x : List (aA true)) => .int .i64 0 :: x) ((fun (x : List (aA true)) => .str (ByteArray.mk #[]) :: x) ((fun (x : List (aA true)) => .sl (Fl.new true) [] :: x) ((fun (x : List (aA true)) => .sl (Fl.new true) [] :: x) []))))).flatten).snd.snd)) := by refine (aI (J := gH D) (by kernel_rfl) (fun _ _ => rfl) [[1,1,0,1,0]]).trans ?_; generalize gH D = J; revert J; refine id ?_; intro J; kernel_rfl
end
def aEe := atA D F.aWb
theorem aI4 (s0_0 : ByteArray) (i0_1 : Int) (s0_2 : ByteArray) (c0_3 : Fl true) (e0_3 : LT) (c0_4 : Fl true) (e0_4 : LT) : bM Tryz.prog D Hs cB F.aWb [.agg [.str s0_0,.int .i64 i0_1,.str s0_2,.sl c0_3 e0_3,.sl c0_4 e0_4]] [] = (D F.aVw [.agg [.int .i64 i0_1,.str s0_2,.sl c0_3 e0_3,.sl c0_4 e0_4]] []).bind fun r => dU r.fst fun cs => aB (cs.length == 4) (atK cs 0 fun l => dF .i64 l fun n => atK cs 1 fun l => bO l fun s => atK cs 2 fun l => slK l fun c es => atK cs 3 fun l => slK l fun c_1 es_1 => some (.agg [.str s0_0,.int .i64 n,.str s,.sl c es,.sl c_1 es_1],[])) := by refine (aI (J := aEe D) (by kernel_rfl) (fun _ _ => rfl) []).trans ?_; generalize aEe D = J; revert J; refine id ?_; intro J; kernel_rfl
end
end Go.Vs
end
