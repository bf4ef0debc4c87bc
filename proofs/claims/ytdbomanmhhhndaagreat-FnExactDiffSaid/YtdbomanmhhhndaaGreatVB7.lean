/- What the program's functions compute, read off their text by the shadow runner (WTt, WTm0, WTm, WTr, VsEr, WTz, WTy, WLi, WLj, WLk, WLb, WLr, WLd0); no condition. -/
import Derived.Laws.Strings
import Derived.Test.YtdbomanmhhhndaaGreatVB6
section
open Go Go.Vs Go.Proofs
set_option linter.unusedVariables false
set_option linter.unusedSimpArgs false
namespace Go.Vs
def aBz : FuncId → Bool := fun f => [F.aU5, F.aVg, F.aU2, F.aUf, F.aUd, F.aUC, F.aU0, F.aUw, F.aUr, F.aUB, F.aWb, F.aVy, F.aV4, F.aVZ, F.aV7, F.aVI, F.aUI, F.aUA, F.aUz, F.aUq, F.aVs, F.aU3, F.aVC, F.aVl, F.aU7, F.aUP, F.aVB, F.aVw, F.aVf].contains f
noncomputable abbrev Dd : aO true := den Go.Proofs.Tryz.prog (aLf Dn aBz) Hs
theorem mE {f : FuncId} {a : List (SV true)} {b : List (List (SV true))} {r : SV true × List (List (SV true))} (hk : aBz f = true) (h : bM Go.Proofs.Tryz.prog Dd Hs cB f a b = some r) : Dd f a b = some r :=
  aN5 (by simp only [aLf, hk]) h
theorem rR {f : FuncId} (hk : aBz f = false) {a : List (SV true)} {b : List (List (SV true))} {a' : List (SV false)} {b' : List (List (SV false))} {r' : SV false × List (List (SV false))} {r : SV true × List (List (SV true))}
    (h : Dn f a' b' = some r') (ha : a.map (reS er) = a') (hb : b.map (List.map (reS er)) = b') (hr : (reS li r'.1, r'.2.map (List.map (reS li))) = r) : Dd f a b = some r := aQW hk h ha hb hr
theorem aBK : dR Tryz.prog 3 = some 1 := by kernel_rfl
theorem aBr : dR Tryz.prog 4 = some 1 := by kernel_rfl
theorem aBL : dR Tryz.prog 9 = some 1 := by kernel_rfl
theorem aFg {c : Fl true} {es : List (List (aA false))} (hl : es.length ≤ 1048576) (hq : ∀ e ∈ es, dP e) : ∀ i : Nat, i ≤ es.length → ∀ z : List (SV true), z.length = (es.length - i) * 1 →
    fG Dd (nX c (reE (fl c) es) es.length i (fN (reE (fl aS) es) i z)) = some (.leaf (.sl aS (reE (fl aS) es)), []) := by
  have hall : ∀ e ∈ reE (fl aS) es, e.length = 1 := kF fun e he => (hq e he).len
  have hN : (reE (fl aS) es).length = es.length := cH es
  have hC : (reE (fl c) es).length = es.length := cH es
  have hml : (1048576 : Nat) ≤ maxLen := by decide
  refine bY ?_ ?_
  · intro z hz
    have g1 := tP (z := z) hall
    have g2 := gO hall
    have g3 := fS (z := z) hall (Nat.le_refl _)
    rw [hN] at g1 g2 g3
    try rw [Nat.mul_one] at g1
    rw [uG]
    simp [g1, g2, g3, hC, SV.flatT, SV.flat, Fl.new]
  · intro i hi ih z hz
    have g3 := fS (z := z) hall (i := i) (by omega)
    have hp := oO (z := z) hall (i := i) (by omega)
    rw [uG]
    obtain ⟨s, he, hs⟩ := hq _ (List.getElem_mem hi)
    rw [vI, he] at hp
    simp only [reL, reF, List.map_cons, List.map_nil] at hp
    simp only [Int.ofNat_lt, hi, hC, decide_true, aF, Int.natCast_nonneg, Bool.and_true, Int.toNat_natCast, aD, bB (Nat.lt_of_lt_of_le hi (Nat.le_trans hl hml)), aR (kF (φ := fl c) fun e he => (hq e he).len), tT hi]
    rw [he]
    simp only [reL, reF, bL, aY]
    have hd' : (i + 1) * 1 ≤ es.length * 1 := Nat.mul_le_mul_right 1 hi
    have hg : (0 + i) * 1 + 1 ≤ (fN (reE (fl aS) es) i z).length := by rw [g3, hz, Nat.sub_mul]; omega
    simp only [hg, decide_true, aD]
    rw [Nat.zero_add, hp]
    exact ih _ (by rw [List.length_drop, hz, Nat.sub_mul, Nat.sub_mul]; omega)
theorem aAO {c : Fl true} {es : List (List (aA false))} (hl : es.length ≤ 1048576) (hq : ∀ e ∈ es, dP e) : Dd F.aUP [.leaf (.sl c (reE (fl c) es))] [] = some (.leaf (.sl aS (reE (fl aS) es)), []) := by
  apply mE rfl
  have hb : aH = 140737488355328 := rfl
  rw [aD7]
  have hs : decide (es.length ≤ aH) = true := decide_eq_true (by omega)
  have hs2 : decide (es.length * 16 ≤ aH) = true := decide_eq_true (by omega)
  simp only [cH, Int.natCast_nonneg, Int.toNat_natCast, beq_self_eq_true, hs, hs2, decide_true, Bool.and_true, Bool.true_and, aD]
  exact aFg hl hq 0 (Nat.zero_le _) _ (by simp [List.length_flatten])
theorem aFE {c : Fl true} {ls : List (aA false)} (h : mK ls) : tL ls ≤ 1048576 → Dd F.aVB [.agg (reL (fl c) ls)] [] = some (.agg (reL (fl aS) ls), []) := by
  cases h with
  | mk s0 s1 h0 h1 =>
    intro hb
    apply mE rfl
    simp only [reL, reF]
    rw [aHX]
    try simp []
theorem aF7 {c : Fl true} {es : List (List (aA false))} (hl : es.length ≤ 1048576) (hq : ∀ e ∈ es, dH e) (hd : ∀ e ∈ es, Dd F.aVw [.agg (reL (fl c) e)] [] = some (.agg (reL (fl aS) e), [])) : ∀ i : Nat, i ≤ es.length → ∀ z : List (SV true), z.length = (es.length - i) * 4 →
    gH Dd (pA c (reE (fl c) es) es.length i (fN (reE (fl aS) es) i z)) = some (.leaf (.sl aS (reE (fl aS) es)), []) := by
  have hall : ∀ e ∈ reE (fl aS) es, e.length = 4 := kF fun e he => (hq e he).len
  have hN : (reE (fl aS) es).length = es.length := cH es
  have hC : (reE (fl c) es).length = es.length := cH es
  have hml : (1048576 : Nat) ≤ maxLen := by decide
  refine bY ?_ ?_
  · intro z hz
    have g1 := tP (z := z) hall
    have g2 := gO hall
    have g3 := fS (z := z) hall (Nat.le_refl _)
    rw [hN] at g1 g2 g3
    try rw [Nat.mul_one] at g1
    rw [vZ]
    simp [g1, g2, g3, hC, SV.flatT, SV.flat, Fl.new]
  · intro i hi ih z hz
    have g3 := fS (z := z) hall (i := i) (by omega)
    have hp := oO (z := z) hall (i := i) (by omega)
    rw [vZ]
    have hci := hd _ (List.getElem_mem hi)
    obtain ⟨i0, s1, e2, e3, he, h1, h2, q2, h3, q3⟩ := (hq _ (List.getElem_mem hi)).ex
    rw [vI, he] at hp
    simp only [reL, reF, List.map_cons, List.map_nil] at hp
    simp only [Int.ofNat_lt, hi, hC, decide_true, aF, Int.natCast_nonneg, Bool.and_true, Int.toNat_natCast, aD, bB (Nat.lt_of_lt_of_le hi (Nat.le_trans hl hml)), aR (kF (φ := fl c) fun e he => (hq e he).len), tT hi]
    rw [he] at hci ⊢
    simp only [reL, reF] at hci
    simp only [reL, reF, dI, bL, cF, cA, aY, bQ, dK, hci, Option.bind_some, fI, List.length_cons, List.length_nil, beq_self_eq_true, Nat.reduceAdd, Nat.reduceBEq, aD]
    have hd' : (i + 1) * 4 ≤ es.length * 4 := Nat.mul_le_mul_right 4 hi
    have hg : (0 + i) * 4 + 4 ≤ (fN (reE (fl aS) es) i z).length := by rw [g3, hz, Nat.sub_mul]; omega
    simp only [hg, decide_true, aD]
    rw [Nat.zero_add, hp]
    exact ih _ (by rw [List.length_drop, hz, Nat.sub_mul, Nat.sub_mul]; omega)
theorem aGL {c : Fl true} {es : List (List (aA false))} (hl : es.length ≤ 1048576) (hq : ∀ e ∈ es, dH e) (hd : ∀ e ∈ es, Dd F.aVw [.agg (reL (fl c) e)] [] = some (.agg (reL (fl aS) e), [])) : Dd F.aVf [.leaf (.sl c (reE (fl c) es))] [] = some (.leaf (.sl aS (reE (fl aS) es)), []) := by
  apply mE rfl
  have hb : aH = 140737488355328 := rfl
  rw [aER]
  have hs : decide (es.length ≤ aH) = true := decide_eq_true (by omega)
  have hs2 : decide (es.length * 72 ≤ aH) = true := decide_eq_true (by omega)
  simp only [cH, Int.natCast_nonneg, Int.toNat_natCast, beq_self_eq_true, hs, hs2, decide_true, Bool.and_true, Bool.true_and, aD]
  exact aF7 hl hq hd 0 (Nat.zero_le _) _ (by simp [List.length_flatten])
theorem aDW {c : Fl true} {ls : List (aA false)} (h : dH ls) : tL ls ≤ 1048576 → Dd F.aVw [.agg (reL (fl c) ls)] [] = some (.agg (reL (fl aS) ls), []) := by
  induction h with
  | mk i0 s1 e2 e3 h1 h2 q2 h3 q3 ih2 =>
    intro hb
    apply mE rfl
    simp only [reL, reF]
    rw [aGv]
    have c2 := aGL (c := c) (show e2.length ≤ 1048576 by simp only [tL, tF] at hb; omega) q2 fun e he => ih2 e he (by have := aBt he; simp only [tL, tF] at hb; omega)
    have c3 := aAO (c := c) (show e3.length ≤ 1048576 by simp only [tL, tF] at hb; omega) q3
    try simp [c2, c3]
theorem aIC {c : Fl true} {es : List (List (aA false))} (hl : es.length ≤ 1048576) (hq : ∀ e ∈ es, jU e) (hd : ∀ e ∈ es, Dd F.aWb [.agg (reL (fl c) e)] [] = some (.agg (reL (fl aS) e), [])) : ∀ i : Nat, i ≤ es.length → ∀ z : List (SV true), z.length = (es.length - i) * 5 →
    iU Dd (rH c (reE (fl c) es) es.length i (fN (reE (fl aS) es) i z)) = some (.leaf (.sl aS (reE (fl aS) es)), []) := by
  have hall : ∀ e ∈ reE (fl aS) es, e.length = 5 := kF fun e he => (hq e he).len
  have hN : (reE (fl aS) es).length = es.length := cH es
  have hC : (reE (fl c) es).length = es.length := cH es
  have hml : (1048576 : Nat) ≤ maxLen := by decide
  refine bY ?_ ?_
  · intro z hz
    have g1 := tP (z := z) hall
    have g2 := gO hall
    have g3 := fS (z := z) hall (Nat.le_refl _)
    rw [hN] at g1 g2 g3
    try rw [Nat.mul_one] at g1
    rw [yS]
    simp [g1, g2, g3, hC, SV.flatT, SV.flat, Fl.new]
  · intro i hi ih z hz
    have g3 := fS (z := z) hall (i := i) (by omega)
    have hp := oO (z := z) hall (i := i) (by omega)
    rw [yS]
    have hci := hd _ (List.getElem_mem hi)
    obtain ⟨s0, i1, s2, e3, e4, he, h0, h2, h3, q3, h4, q4⟩ := (hq _ (List.getElem_mem hi)).ex
    rw [vI, he] at hp
    simp only [reL, reF, List.map_cons, List.map_nil] at hp
    simp only [Int.ofNat_lt, hi, hC, decide_true, aF, Int.natCast_nonneg, Bool.and_true, Int.toNat_natCast, aD, bB (Nat.lt_of_lt_of_le hi (Nat.le_trans hl hml)), aR (kF (φ := fl c) fun e he => (hq e he).len), tT hi]
    rw [he] at hci ⊢
    simp only [reL, reF] at hci
    simp only [reL, reF, dI, bL, cF, cA, aY, bQ, dK, hci, Option.bind_some, fI, List.length_cons, List.length_nil, beq_self_eq_true, Nat.reduceAdd, Nat.reduceBEq, aD]
    have hd' : (i + 1) * 5 ≤ es.length * 5 := Nat.mul_le_mul_right 5 hi
    have hg : (0 + i) * 5 + 5 ≤ (fN (reE (fl aS) es) i z).length := by rw [g3, hz, Nat.sub_mul]; omega
    simp only [hg, decide_true, aD]
    rw [Nat.zero_add, hp]
    exact ih _ (by rw [List.length_drop, hz, Nat.sub_mul, Nat.sub_mul]; omega)
theorem aIc {c : Fl true} {es : List (List (aA false))} (hl : es.length ≤ 1048576) (hq : ∀ e ∈ es, jU e) (hd : ∀ e ∈ es, Dd F.aWb [.agg (reL (fl c) e)] [] = some (.agg (reL (fl aS) e), [])) : Dd F.aVy [.leaf (.sl c (reE (fl c) es))] [] = some (.leaf (.sl aS (reE (fl aS) es)), []) := by
  apply mE rfl
  have hb : aH = 140737488355328 := rfl
  rw [aHS]
  have hs : decide (es.length ≤ aH) = true := decide_eq_true (by omega)
  have hs2 : decide (es.length * 88 ≤ aH) = true := decide_eq_true (by omega)
  simp only [cH, Int.natCast_nonneg, Int.toNat_natCast, beq_self_eq_true, hs, hs2, decide_true, Bool.and_true, Bool.true_and, aD]
  exact aIC hl hq hd 0 (Nat.zero_le _) _ (by simp [List.length_flatten])
theorem aNt {c : Fl true} {ls : List (aA false)} (h : jU ls) : tL ls ≤ 1048576 → Dd F.aWb [.agg (reL (fl c) ls)] [] = some (.agg (reL (fl aS) ls), []) := by
  cases h with
  | mk s0 i1 s2 e3 e4 h0 h2 h3 q3 h4 q4 =>
    intro hb
    apply mE rfl
    simp only [reL, reF]
    rw [aI4]
    have c1 := aDW (c := c) (.mk i1 s2 e3 e4 h2 h3 q3 h4 q4) (by simp only [tL, tF] at hb ⊢; omega)
    simp only [reL, reF] at c1
    try simp [c1]
theorem aLU {c : Fl true} {es : List (List (aA false))} (hb : es.length + tE es ≤ 1048576) (hq : ∀ e ∈ es, jU e) : Dd F.aVy [.leaf (.sl c (reE (fl c) es))] [] = some (.leaf (.sl aS (reE (fl aS) es)), []) := aIc (by omega) hq fun e he => aNt (hq e he) (by have := aBt he; omega)
theorem aIR {c : Fl true} {es : List (List (aA false))} (hl : es.length ≤ 1048576) (hq : ∀ e ∈ es, fO e) (hd : ∀ e ∈ es, Dd F.aV7 [.agg (reL (fl c) e)] [] = some (.agg (reL (fl aS) e), [])) : ∀ i : Nat, i ≤ es.length → ∀ z : List (SV true), z.length = (es.length - i) * 2 →
    iV Dd (rS c (reE (fl c) es) es.length i (fN (reE (fl aS) es) i z)) = some (.leaf (.sl aS (reE (fl aS) es)), []) := by
  have hall : ∀ e ∈ reE (fl aS) es, e.length = 2 := kF fun e he => (hq e he).len
  have hN : (reE (fl aS) es).length = es.length := cH es
  have hC : (reE (fl c) es).length = es.length := cH es
  have hml : (1048576 : Nat) ≤ maxLen := by decide
  refine bY ?_ ?_
  · intro z hz
    have g1 := tP (z := z) hall
    have g2 := gO hall
    have g3 := fS (z := z) hall (Nat.le_refl _)
    rw [hN] at g1 g2 g3
    try rw [Nat.mul_one] at g1
    rw [zI]
    simp [g1, g2, g3, hC, SV.flatT, SV.flat, Fl.new]
  · intro i hi ih z hz
    have g3 := fS (z := z) hall (i := i) (by omega)
    have hp := oO (z := z) hall (i := i) (by omega)
    rw [zI]
    have hci := hd _ (List.getElem_mem hi)
    obtain ⟨s0, e1, he, h0, h1, q1⟩ := (hq _ (List.getElem_mem hi)).ex
    rw [vI, he] at hp
    simp only [reL, reF, List.map_cons, List.map_nil] at hp
    simp only [Int.ofNat_lt, hi, hC, decide_true, aF, Int.natCast_nonneg, Bool.and_true, Int.toNat_natCast, aD, bB (Nat.lt_of_lt_of_le hi (Nat.le_trans hl hml)), aR (kF (φ := fl c) fun e he => (hq e he).len), tT hi]
    rw [he] at hci ⊢
    simp only [reL, reF] at hci
    simp only [reL, reF, dI, bL, cF, cA, aY, bQ, dK, hci, Option.bind_some, fI, List.length_cons, List.length_nil, beq_self_eq_true, Nat.reduceAdd, Nat.reduceBEq, aD]
    have hd' : (i + 1) * 2 ≤ es.length * 2 := Nat.mul_le_mul_right 2 hi
    have hg : (0 + i) * 2 + 2 ≤ (fN (reE (fl aS) es) i z).length := by rw [g3, hz, Nat.sub_mul]; omega
    simp only [hg, decide_true, aD]
    rw [Nat.zero_add, hp]
    exact ih _ (by rw [List.length_drop, hz, Nat.sub_mul, Nat.sub_mul]; omega)
theorem aIf {c : Fl true} {es : List (List (aA false))} (hl : es.length ≤ 1048576) (hq : ∀ e ∈ es, fO e) (hd : ∀ e ∈ es, Dd F.aV7 [.agg (reL (fl c) e)] [] = some (.agg (reL (fl aS) e), [])) : Dd F.aVI [.leaf (.sl c (reE (fl c) es))] [] = some (.leaf (.sl aS (reE (fl aS) es)), []) := by
  apply mE rfl
  have hb : aH = 140737488355328 := rfl
  rw [aHn]
  have hs : decide (es.length ≤ aH) = true := decide_eq_true (by omega)
  have hs2 : decide (es.length * 40 ≤ aH) = true := decide_eq_true (by omega)
  simp only [cH, Int.natCast_nonneg, Int.toNat_natCast, beq_self_eq_true, hs, hs2, decide_true, Bool.and_true, Bool.true_and, aD]
  exact aIR hl hq hd 0 (Nat.zero_le _) _ (by simp [List.length_flatten])
theorem aNG {c : Fl true} {ls : List (aA false)} (h : fO ls) : tL ls ≤ 1048576 → Dd F.aV7 [.agg (reL (fl c) ls)] [] = some (.agg (reL (fl aS) ls), []) := by
  cases h with
  | mk s0 e1 h0 h1 q1 =>
    intro hb
    apply mE rfl
    simp only [reL, reF]
    rw [aIn]
    have c1 := aLU (c := c) (show e1.length + tE e1 ≤ 1048576 by simp only [tL, tF] at hb; omega) q1
    try simp [c1]
theorem uZ {c : Fl true} {es : List (List (aA false))} (hb : es.length + tE es ≤ 1048576) (hq : ∀ e ∈ es, fO e) : Dd F.aVI [.leaf (.sl c (reE (fl c) es))] [] = some (.leaf (.sl aS (reE (fl aS) es)), []) := aIf (by omega) hq fun e he => aNG (hq e he) (by have := aBt he; omega)
theorem aGf {c : Fl true} {es : List (List (aA false))} (hl : es.length ≤ 1048576) (hq : ∀ e ∈ es, cI e) (hd : ∀ e ∈ es, Dd F.aVs [.agg (reL (fl c) e)] [] = some (.agg (reL (fl aS) e), [])) : ∀ i : Nat, i ≤ es.length → ∀ z : List (SV true), z.length = (es.length - i) * 10 →
    gF Dd (oU c (reE (fl c) es) es.length i (fN (reE (fl aS) es) i z)) = some (.leaf (.sl aS (reE (fl aS) es)), []) := by
  have hall : ∀ e ∈ reE (fl aS) es, e.length = 10 := kF fun e he => (hq e he).len
  have hN : (reE (fl aS) es).length = es.length := cH es
  have hC : (reE (fl c) es).length = es.length := cH es
  have hml : (1048576 : Nat) ≤ maxLen := by decide
  refine bY ?_ ?_
  · intro z hz
    have g1 := tP (z := z) hall
    have g2 := gO hall
    have g3 := fS (z := z) hall (Nat.le_refl _)
    rw [hN] at g1 g2 g3
    try rw [Nat.mul_one] at g1
    rw [wA]
    simp [g1, g2, g3, hC, SV.flatT, SV.flat, Fl.new]
  · intro i hi ih z hz
    have g3 := fS (z := z) hall (i := i) (by omega)
    have hp := oO (z := z) hall (i := i) (by omega)
    rw [wA]
    have hci := hd _ (List.getElem_mem hi)
    obtain ⟨s0, s1, s2, s3, b4, i5, s6, e7, e8, e9, he, h0, h1, h2, h3, h6, h7, q7, h8, q8, h9, q9⟩ := (hq _ (List.getElem_mem hi)).ex
    rw [vI, he] at hp
    simp only [reL, reF, List.map_cons, List.map_nil] at hp
    simp only [Int.ofNat_lt, hi, hC, decide_true, aF, Int.natCast_nonneg, Bool.and_true, Int.toNat_natCast, aD, bB (Nat.lt_of_lt_of_le hi (Nat.le_trans hl hml)), aR (kF (φ := fl c) fun e he => (hq e he).len), tT hi]
    rw [he] at hci ⊢
    simp only [reL, reF] at hci
    simp only [reL, reF, dI, bL, cF, cA, aY, bQ, dK, hci, Option.bind_some, fI, List.length_cons, List.length_nil, beq_self_eq_true, Nat.reduceAdd, Nat.reduceBEq, aD]
    have hd' : (i + 1) * 10 ≤ es.length * 10 := Nat.mul_le_mul_right 10 hi
    have hg : (0 + i) * 10 + 10 ≤ (fN (reE (fl aS) es) i z).length := by rw [g3, hz, Nat.sub_mul]; omega
    simp only [hg, decide_true, aD]
    rw [Nat.zero_add, hp]
    exact ih _ (by rw [List.length_drop, hz, Nat.sub_mul, Nat.sub_mul]; omega)
theorem aGD {c : Fl true} {es : List (List (aA false))} (hl : es.length ≤ 1048576) (hq : ∀ e ∈ es, cI e) (hd : ∀ e ∈ es, Dd F.aVs [.agg (reL (fl c) e)] [] = some (.agg (reL (fl aS) e), [])) : Dd F.aU3 [.leaf (.sl c (reE (fl c) es))] [] = some (.leaf (.sl aS (reE (fl aS) es)), []) := by
  apply mE rfl
  have hb : aH = 140737488355328 := rfl
  rw [aEX]
  have hs : decide (es.length ≤ aH) = true := decide_eq_true (by omega)
  have hs2 : decide (es.length * 168 ≤ aH) = true := decide_eq_true (by omega)
  simp only [cH, Int.natCast_nonneg, Int.toNat_natCast, beq_self_eq_true, hs, hs2, decide_true, Bool.and_true, Bool.true_and, aD]
  exact aGf hl hq hd 0 (Nat.zero_le _) _ (by simp [List.length_flatten])
theorem aKo {c : Fl true} {ls : List (aA false)} (h : cI ls) : tL ls ≤ 1048576 → Dd F.aVs [.agg (reL (fl c) ls)] [] = some (.agg (reL (fl aS) ls), []) := by
  cases h with
  | mk s0 s1 s2 s3 b4 i5 s6 e7 e8 e9 h0 h1 h2 h3 h6 h7 q7 h8 q8 h9 q9 =>
    intro hb
    apply mE rfl
    simp only [reL, reF]
    rw [aGe]
    have c2 := aFE (c := c) (.mk s2 s3 h2 h3) (by simp only [tL, tF] at hb ⊢; omega)
    simp only [reL, reF] at c2
    have c5 := aDW (c := c) (.mk i5 s6 e7 e8 h6 h7 q7 h8 q8) (by simp only [tL, tF] at hb ⊢; omega)
    simp only [reL, reF] at c5
    have c9 := uZ (c := c) (show e9.length + tE e9 ≤ 1048576 by simp only [tL, tF] at hb; omega) q9
    try simp [c2, c5, c9]
theorem aB7 {c : Fl true} {es : List (List (aA false))} (hb : es.length + tE es ≤ 1048576) (hq : ∀ e ∈ es, cI e) : Dd F.aU3 [.leaf (.sl c (reE (fl c) es))] [] = some (.leaf (.sl aS (reE (fl aS) es)), []) := aGD (by omega) hq fun e he => aKo (hq e he) (by have := aBt he; omega)
theorem aCH {c : Fl true} {es : List (List (aA false))} (hl : es.length ≤ 1048576) (hq : ∀ e ∈ es, cE e) (hd : ∀ e ∈ es, Dd F.aUz [.agg (reL (fl c) e)] [] = some (.agg (reL (fl aS) e), [])) : ∀ i : Nat, i ≤ es.length → ∀ z : List (SV true), z.length = (es.length - i) * 6 →
    eN Dd (mF c (reE (fl c) es) es.length i (fN (reE (fl aS) es) i z)) = some (.leaf (.sl aS (reE (fl aS) es)), []) := by
  have hall : ∀ e ∈ reE (fl aS) es, e.length = 6 := kF fun e he => (hq e he).len
  have hN : (reE (fl aS) es).length = es.length := cH es
  have hC : (reE (fl c) es).length = es.length := cH es
  have hml : (1048576 : Nat) ≤ maxLen := by decide
  refine bY ?_ ?_
  · intro z hz
    have g1 := tP (z := z) hall
    have g2 := gO hall
    have g3 := fS (z := z) hall (Nat.le_refl _)
    rw [hN] at g1 g2 g3
    try rw [Nat.mul_one] at g1
    rw [sE]
    simp [g1, g2, g3, hC, SV.flatT, SV.flat, Fl.new]
  · intro i hi ih z hz
    have g3 := fS (z := z) hall (i := i) (by omega)
    have hp := oO (z := z) hall (i := i) (by omega)
    rw [sE]
    have hci := hd _ (List.getElem_mem hi)
    obtain ⟨s0, s1, e2, s3, s4, e5, he, h0, h1, h2, q2, h3, h4, h5, q5⟩ := (hq _ (List.getElem_mem hi)).ex
    rw [vI, he] at hp
    simp only [reL, reF, List.map_cons, List.map_nil] at hp
    simp only [Int.ofNat_lt, hi, hC, decide_true, aF, Int.natCast_nonneg, Bool.and_true, Int.toNat_natCast, aD, bB (Nat.lt_of_lt_of_le hi (Nat.le_trans hl hml)), aR (kF (φ := fl c) fun e he => (hq e he).len), tT hi]
    rw [he] at hci ⊢
    simp only [reL, reF] at hci
    simp only [reL, reF, dI, bL, cF, cA, aY, bQ, dK, hci, Option.bind_some, fI, List.length_cons, List.length_nil, beq_self_eq_true, Nat.reduceAdd, Nat.reduceBEq, aD]
    have hd' : (i + 1) * 6 ≤ es.length * 6 := Nat.mul_le_mul_right 6 hi
    have hg : (0 + i) * 6 + 6 ≤ (fN (reE (fl aS) es) i z).length := by rw [g3, hz, Nat.sub_mul]; omega
    simp only [hg, decide_true, aD]
    rw [Nat.zero_add, hp]
    exact ih _ (by rw [List.length_drop, hz, Nat.sub_mul, Nat.sub_mul]; omega)
theorem aCt {c : Fl true} {es : List (List (aA false))} (hl : es.length ≤ 1048576) (hq : ∀ e ∈ es, cE e) (hd : ∀ e ∈ es, Dd F.aUz [.agg (reL (fl c) e)] [] = some (.agg (reL (fl aS) e), [])) : Dd F.aUq [.leaf (.sl c (reE (fl c) es))] [] = some (.leaf (.sl aS (reE (fl aS) es)), []) := by
  apply mE rfl
  have hb : aH = 140737488355328 := rfl
  rw [aBH]
  have hs : decide (es.length ≤ aH) = true := decide_eq_true (by omega)
  have hs2 : decide (es.length * 112 ≤ aH) = true := decide_eq_true (by omega)
  simp only [cH, Int.natCast_nonneg, Int.toNat_natCast, beq_self_eq_true, hs, hs2, decide_true, Bool.and_true, Bool.true_and, aD]
  exact aCH hl hq hd 0 (Nat.zero_le _) _ (by simp [List.length_flatten])
theorem aHo {c : Fl true} {ls : List (aA false)} (h : cE ls) : tL ls ≤ 1048576 → Dd F.aUz [.agg (reL (fl c) ls)] [] = some (.agg (reL (fl aS) ls), []) := by
  cases h with
  | mk s0 s1 e2 s3 s4 e5 h0 h1 h2 q2 h3 h4 h5 q5 =>
    intro hb
    apply mE rfl
    simp only [reL, reF]
    rw [aCr]
    have c2 := aB7 (c := c) (show e2.length + tE e2 ≤ 1048576 by simp only [tL, tF] at hb; omega) q2
    have c3 := aFE (c := c) (.mk s3 s4 h3 h4) (by simp only [tL, tF] at hb ⊢; omega)
    simp only [reL, reF] at c3
    have c5 := uZ (c := c) (show e5.length + tE e5 ≤ 1048576 by simp only [tL, tF] at hb; omega) q5
    try simp [c2, c3, c5]
theorem aF4 {c : Fl true} {es : List (List (aA false))} (hb : es.length + tE es ≤ 1048576) (hq : ∀ e ∈ es, cE e) : Dd F.aUq [.leaf (.sl c (reE (fl c) es))] [] = some (.leaf (.sl aS (reE (fl aS) es)), []) := aCt (by omega) hq fun e he => aHo (hq e he) (by have := aBt he; omega)
theorem aDm {c : Fl true} {es : List (List (aA false))} (hl : es.length ≤ 1048576) (hq : ∀ e ∈ es, cK e) (hd : ∀ e ∈ es, Dd F.aUI [.agg (reL (fl c) e)] [] = some (.agg (reL (fl aS) e), [])) : ∀ i : Nat, i ≤ es.length → ∀ z : List (SV true), z.length = (es.length - i) * 3 →
    eW Dd (mV c (reE (fl c) es) es.length i (fN (reE (fl aS) es) i z)) = some (.leaf (.sl aS (reE (fl aS) es)), []) := by
  have hall : ∀ e ∈ reE (fl aS) es, e.length = 3 := kF fun e he => (hq e he).len
  have hN : (reE (fl aS) es).length = es.length := cH es
  have hC : (reE (fl c) es).length = es.length := cH es
  have hml : (1048576 : Nat) ≤ maxLen := by decide
  refine bY ?_ ?_
  · intro z hz
    have g1 := tP (z := z) hall
    have g2 := gO hall
    have g3 := fS (z := z) hall (Nat.le_refl _)
    rw [hN] at g1 g2 g3
    try rw [Nat.mul_one] at g1
    rw [tH]
    simp [g1, g2, g3, hC, SV.flatT, SV.flat, Fl.new]
  · intro i hi ih z hz
    have g3 := fS (z := z) hall (i := i) (by omega)
    have hp := oO (z := z) hall (i := i) (by omega)
    rw [tH]
    have hci := hd _ (List.getElem_mem hi)
    obtain ⟨s0, s1, e2, he, h0, h1, h2, q2⟩ := (hq _ (List.getElem_mem hi)).ex
    rw [vI, he] at hp
    simp only [reL, reF, List.map_cons, List.map_nil] at hp
    simp only [Int.ofNat_lt, hi, hC, decide_true, aF, Int.natCast_nonneg, Bool.and_true, Int.toNat_natCast, aD, bB (Nat.lt_of_lt_of_le hi (Nat.le_trans hl hml)), aR (kF (φ := fl c) fun e he => (hq e he).len), tT hi]
    rw [he] at hci ⊢
    simp only [reL, reF] at hci
    simp only [reL, reF, dI, bL, cF, cA, aY, bQ, dK, hci, Option.bind_some, fI, List.length_cons, List.length_nil, beq_self_eq_true, Nat.reduceAdd, Nat.reduceBEq, aD]
    have hd' : (i + 1) * 3 ≤ es.length * 3 := Nat.mul_le_mul_right 3 hi
    have hg : (0 + i) * 3 + 3 ≤ (fN (reE (fl aS) es) i z).length := by rw [g3, hz, Nat.sub_mul]; omega
    simp only [hg, decide_true, aD]
    rw [Nat.zero_add, hp]
    exact ih _ (by rw [List.length_drop, hz, Nat.sub_mul, Nat.sub_mul]; omega)
theorem aDC {c : Fl true} {es : List (List (aA false))} (hl : es.length ≤ 1048576) (hq : ∀ e ∈ es, cK e) (hd : ∀ e ∈ es, Dd F.aUI [.agg (reL (fl c) e)] [] = some (.agg (reL (fl aS) e), [])) : Dd F.aUA [.leaf (.sl c (reE (fl c) es))] [] = some (.leaf (.sl aS (reE (fl aS) es)), []) := by
  apply mE rfl
  have hb : aH = 140737488355328 := rfl
  rw [aCs]
  have hs : decide (es.length ≤ aH) = true := decide_eq_true (by omega)
  have hs2 : decide (es.length * 56 ≤ aH) = true := decide_eq_true (by omega)
  simp only [cH, Int.natCast_nonneg, Int.toNat_natCast, beq_self_eq_true, hs, hs2, decide_true, Bool.and_true, Bool.true_and, aD]
  exact aDm hl hq hd 0 (Nat.zero_le _) _ (by simp [List.length_flatten])
theorem aI2 {c : Fl true} {ls : List (aA false)} (h : cK ls) : tL ls ≤ 1048576 → Dd F.aUI [.agg (reL (fl c) ls)] [] = some (.agg (reL (fl aS) ls), []) := by
  cases h with
  | mk s0 s1 e2 h0 h1 h2 q2 =>
    intro hb
    apply mE rfl
    simp only [reL, reF]
    rw [aDU]
    have c2 := uZ (c := c) (show e2.length + tE e2 ≤ 1048576 by simp only [tL, tF] at hb; omega) q2
    try simp [c2]
theorem aHj {c : Fl true} {es : List (List (aA false))} (hb : es.length + tE es ≤ 1048576) (hq : ∀ e ∈ es, cK e) : Dd F.aUA [.leaf (.sl c (reE (fl c) es))] [] = some (.leaf (.sl aS (reE (fl aS) es)), []) := aDC (by omega) hq fun e he => aI2 (hq e he) (by have := aBt he; omega)
theorem aHH {c : Fl true} {es : List (List (aA false))} (hl : es.length ≤ 1048576) (hq : ∀ e ∈ es, eI e) (hd : ∀ e ∈ es, Dd F.aVC [.agg (reL (fl c) e)] [] = some (.agg (reL (fl aS) e), [])) : ∀ i : Nat, i ≤ es.length → ∀ z : List (SV true), z.length = (es.length - i) * 2 →
    gW Dd (qI c (reE (fl c) es) es.length i (fN (reE (fl aS) es) i z)) = some (.leaf (.sl aS (reE (fl aS) es)), []) := by
  have hall : ∀ e ∈ reE (fl aS) es, e.length = 2 := kF fun e he => (hq e he).len
  have hN : (reE (fl aS) es).length = es.length := cH es
  have hC : (reE (fl c) es).length = es.length := cH es
  have hml : (1048576 : Nat) ≤ maxLen := by decide
  refine bY ?_ ?_
  · intro z hz
    have g1 := tP (z := z) hall
    have g2 := gO hall
    have g3 := fS (z := z) hall (Nat.le_refl _)
    rw [hN] at g1 g2 g3
    try rw [Nat.mul_one] at g1
    rw [xB]
    simp [g1, g2, g3, hC, SV.flatT, SV.flat, Fl.new]
  · intro i hi ih z hz
    have g3 := fS (z := z) hall (i := i) (by omega)
    have hp := oO (z := z) hall (i := i) (by omega)
    rw [xB]
    have hci := hd _ (List.getElem_mem hi)
    obtain ⟨i0, s1, he, h1⟩ := (hq _ (List.getElem_mem hi)).ex
    rw [vI, he] at hp
    simp only [reL, reF, List.map_cons, List.map_nil] at hp
    simp only [Int.ofNat_lt, hi, hC, decide_true, aF, Int.natCast_nonneg, Bool.and_true, Int.toNat_natCast, aD, bB (Nat.lt_of_lt_of_le hi (Nat.le_trans hl hml)), aR (kF (φ := fl c) fun e he => (hq e he).len), tT hi]
    rw [he] at hci ⊢
    simp only [reL, reF] at hci
    simp only [reL, reF, dI, bL, cF, cA, aY, bQ, dK, hci, Option.bind_some, fI, List.length_cons, List.length_nil, beq_self_eq_true, Nat.reduceAdd, Nat.reduceBEq, aD]
    have hd' : (i + 1) * 2 ≤ es.length * 2 := Nat.mul_le_mul_right 2 hi
    have hg : (0 + i) * 2 + 2 ≤ (fN (reE (fl aS) es) i z).length := by rw [g3, hz, Nat.sub_mul]; omega
    simp only [hg, decide_true, aD]
    rw [Nat.zero_add, hp]
    exact ih _ (by rw [List.length_drop, hz, Nat.sub_mul, Nat.sub_mul]; omega)
theorem aHu {c : Fl true} {es : List (List (aA false))} (hl : es.length ≤ 1048576) (hq : ∀ e ∈ es, eI e) (hd : ∀ e ∈ es, Dd F.aVC [.agg (reL (fl c) e)] [] = some (.agg (reL (fl aS) e), [])) : Dd F.aVl [.leaf (.sl c (reE (fl c) es))] [] = some (.leaf (.sl aS (reE (fl aS) es)), []) := by
  apply mE rfl
  have hb : aH = 140737488355328 := rfl
  rw [aGZ]
  have hs : decide (es.length ≤ aH) = true := decide_eq_true (by omega)
  have hs2 : decide (es.length * 24 ≤ aH) = true := decide_eq_true (by omega)
  simp only [cH, Int.natCast_nonneg, Int.toNat_natCast, beq_self_eq_true, hs, hs2, decide_true, Bool.and_true, Bool.true_and, aD]
  exact aHH hl hq hd 0 (Nat.zero_le _) _ (by simp [List.length_flatten])
theorem aLY {c : Fl true} {ls : List (aA false)} (h : eI ls) : tL ls ≤ 1048576 → Dd F.aVC [.agg (reL (fl c) ls)] [] = some (.agg (reL (fl aS) ls), []) := by
  cases h with
  | mk i0 s1 h1 =>
    intro hb
    apply mE rfl
    simp only [reL, reF]
    rw [aH4]
    try simp []
theorem aDP {c : Fl true} {es : List (List (aA false))} (hb : es.length + tE es ≤ 1048576) (hq : ∀ e ∈ es, eI e) : Dd F.aVl [.leaf (.sl c (reE (fl c) es))] [] = some (.leaf (.sl aS (reE (fl aS) es)), []) := aHu (by omega) hq fun e he => aLY (hq e he) (by have := aBt he; omega)
theorem aIH {c : Fl true} {es : List (List (aA false))} (hl : es.length ≤ 1048576) (hq : ∀ e ∈ es, dV e) (hd : ∀ e ∈ es, Dd F.aV4 [.agg (reL (fl c) e)] [] = some (.agg (reL (fl aS) e), [])) : ∀ i : Nat, i ≤ es.length → ∀ z : List (SV true), z.length = (es.length - i) * 11 →
    iP Dd (rO c (reE (fl c) es) es.length i (fN (reE (fl aS) es) i z)) = some (.leaf (.sl aS (reE (fl aS) es)), []) := by
  have hall : ∀ e ∈ reE (fl aS) es, e.length = 11 := kF fun e he => (hq e he).len
  have hN : (reE (fl aS) es).length = es.length := cH es
  have hC : (reE (fl c) es).length = es.length := cH es
  have hml : (1048576 : Nat) ≤ maxLen := by decide
  refine bY ?_ ?_
  · intro z hz
    have g1 := tP (z := z) hall
    have g2 := gO hall
    have g3 := fS (z := z) hall (Nat.le_refl _)
    rw [hN] at g1 g2 g3
    try rw [Nat.mul_one] at g1
    rw [zC]
    simp [g1, g2, g3, hC, SV.flatT, SV.flat, Fl.new]
  · intro i hi ih z hz
    have g3 := fS (z := z) hall (i := i) (by omega)
    have hp := oO (z := z) hall (i := i) (by omega)
    rw [zC]
    have hci := hd _ (List.getElem_mem hi)
    obtain ⟨i0, b1, s2, s3, e4, e5, e6, e7, e8, b9, e10, he, h2, h3, h4, q4, h5, q5, h6, q6, h7, q7, h8, q8, h10, q10⟩ := (hq _ (List.getElem_mem hi)).ex
    rw [vI, he] at hp
    simp only [reL, reF, List.map_cons, List.map_nil] at hp
    simp only [Int.ofNat_lt, hi, hC, decide_true, aF, Int.natCast_nonneg, Bool.and_true, Int.toNat_natCast, aD, bB (Nat.lt_of_lt_of_le hi (Nat.le_trans hl hml)), aR (kF (φ := fl c) fun e he => (hq e he).len), tT hi]
    rw [he] at hci ⊢
    simp only [reL, reF] at hci
    simp only [reL, reF, dI, bL, cF, cA, aY, bQ, dK, hci, Option.bind_some, fI, List.length_cons, List.length_nil, beq_self_eq_true, Nat.reduceAdd, Nat.reduceBEq, aD]
    have hd' : (i + 1) * 11 ≤ es.length * 11 := Nat.mul_le_mul_right 11 hi
    have hg : (0 + i) * 11 + 11 ≤ (fN (reE (fl aS) es) i z).length := by rw [g3, hz, Nat.sub_mul]; omega
    simp only [hg, decide_true, aD]
    rw [Nat.zero_add, hp]
    exact ih _ (by rw [List.length_drop, hz, Nat.sub_mul, Nat.sub_mul]; omega)
theorem aIv {c : Fl true} {es : List (List (aA false))} (hl : es.length ≤ 1048576) (hq : ∀ e ∈ es, dV e) (hd : ∀ e ∈ es, Dd F.aV4 [.agg (reL (fl c) e)] [] = some (.agg (reL (fl aS) e), [])) : Dd F.aVZ [.leaf (.sl c (reE (fl c) es))] [] = some (.leaf (.sl aS (reE (fl aS) es)), []) := by
  apply mE rfl
  have hb : aH = 140737488355328 := rfl
  rw [aHv]
  have hs : decide (es.length ≤ aH) = true := decide_eq_true (by omega)
  have hs2 : decide (es.length * 200 ≤ aH) = true := decide_eq_true (by omega)
  simp only [cH, Int.natCast_nonneg, Int.toNat_natCast, beq_self_eq_true, hs, hs2, decide_true, Bool.and_true, Bool.true_and, aD]
  exact aIH hl hq hd 0 (Nat.zero_le _) _ (by simp [List.length_flatten])
theorem aNz {c : Fl true} {ls : List (aA false)} (h : dV ls) : tL ls ≤ 1048576 → Dd F.aV4 [.agg (reL (fl c) ls)] [] = some (.agg (reL (fl aS) ls), []) := by
  cases h with
  | mk i0 b1 s2 s3 e4 e5 e6 e7 e8 b9 e10 h2 h3 h4 q4 h5 q5 h6 q6 h7 q7 h8 q8 h10 q10 =>
    intro hb
    apply mE rfl
    simp only [reL, reF]
    rw [aIN]
    have c4 := aAO (c := c) (show e4.length ≤ 1048576 by simp only [tL, tF] at hb; omega) q4
    have c5 := aF4 (c := c) (show e5.length + tE e5 ≤ 1048576 by simp only [tL, tF] at hb; omega) q5
    have c6 := aB7 (c := c) (show e6.length + tE e6 ≤ 1048576 by simp only [tL, tF] at hb; omega) q6
    have c7 := aHj (c := c) (show e7.length + tE e7 ≤ 1048576 by simp only [tL, tF] at hb; omega) q7
    have c8 := aDP (c := c) (show e8.length + tE e8 ≤ 1048576 by simp only [tL, tF] at hb; omega) q8
    have c10 := uZ (c := c) (show e10.length + tE e10 ≤ 1048576 by simp only [tL, tF] at hb; omega) q10
    try simp [c4, c5, c6, c7, c8, c10]
theorem aFz {c : Fl true} {es : List (List (aA false))} (hb : es.length + tE es ≤ 1048576) (hq : ∀ e ∈ es, dV e) : Dd F.aVZ [.leaf (.sl c (reE (fl c) es))] [] = some (.leaf (.sl aS (reE (fl aS) es)), []) := aIv (by omega) hq fun e he => aNz (hq e he) (by have := aBt he; omega)
theorem aCd {c : Fl true} {ls : List (aA false)} (h : bX ls) : tL ls ≤ 1048576 → Dd F.aU7 [.agg (reL (fl c) ls)] [] = some (.agg (reL (fl aS) ls), []) := by
  cases h with
  | mk e0 e1 e2 h0 q0 h1 q1 h2 q2 =>
    intro hb
    apply mE rfl
    simp only [reL, reF]
    rw [aET]
    have c0 := aFz (c := c) (show e0.length + tE e0 ≤ 1048576 by simp only [tL, tF] at hb; omega) q0
    have c1 := aFz (c := c) (show e1.length + tE e1 ≤ 1048576 by simp only [tL, tF] at hb; omega) q1
    have c2 := aDP (c := c) (show e2.length + tE e2 ≤ 1048576 by simp only [tL, tF] at hb; omega) q2
    try simp [c0, c1, c2]
end Go.Vs
end
section
open Go Go.Vs Go.Proofs
set_option linter.unusedVariables false
set_option linter.unusedSimpArgs false
namespace Go.Vs
theorem aSE {x : Int} (h : 0 ≤ x) : IntKind.i64.wrap x ≤ x := by
  have e : IntKind.i64.wrap x = if x % 18446744073709551616 ≥ 9223372036854775808 then x % 18446744073709551616 - 18446744073709551616 else x % 18446744073709551616 := by
    simp [IntKind.wrap, IntKind.signed, IntKind.bits]
  rw [e]
  split <;> omega
theorem aFv : ∀ (n : Nat) (i0 : Int) (s3 : ByteArray), i0 < 10 ^ n → s3.size + n + 1 ≤ 140737488355328 → ∃ s : ByteArray, iR Dn (rN i0 s3) = some (.leaf (.str s), [])
  | 0, i0, s3, h, hs => by
    have h0 : ¬ i0 > 0 := by simp at h; omega
    rw [rV]
    have h1 : (ByteArray.mk #[109]).size + s3.size ≤ 140737488355328 := by have : (ByteArray.mk #[109]).size = 1 := rfl; omega
    simp only [h0, decide_false, aG, h1, decide_true, aD]
    exact ⟨_, rfl⟩
  | n + 1, i0, s3, h, hs => by
    rw [rV]
    by_cases h0 : i0 > 0
    · have hz : ∀ x : UInt8, (ByteArray.mk #[x]).size = 1 := fun _ => rfl
      have h2 : IntKind.i64.wrap (i0.tdiv 10) < 10 ^ n := by
        have h3 : 0 ≤ i0.tdiv 10 := Int.tdiv_nonneg (by omega) (by omega)
        have h4 := aSE h3
        have h5 : i0.tdiv 10 < 10 ^ n := by
          rw [Int.tdiv_eq_ediv_of_nonneg (by omega)]
          rw [Int.pow_succ] at h
          omega
        omega
      simp only [h0, decide_true, aF, List.map_cons, List.map_nil, hz, show 1 + s3.size ≤ 140737488355328 by omega, aD]
      exact aFv n _ _ h2 (by rw [ByteArray.size_append, hz]; omega)
    · have h1 : (ByteArray.mk #[109]).size + s3.size ≤ 140737488355328 := by have : (ByteArray.mk #[109]).size = 1 := rfl; omega
      simp only [h0, decide_false, aG, h1, decide_true, aD]
      exact ⟨_, rfl⟩
theorem aJs (k : Int) : ∃ s : ByteArray, Dn F.aVe [aJ k] [] = some (.leaf (.str s), []) := by
  have key : ∃ s : ByteArray, bM Go.Proofs.Tryz.prog Dn Hs cB F.aVe [aJ k] [] = some (.leaf (.str s), []) := by
    rw [aHA]
    by_cases h : k ≤ 0
    · simp only [h, decide_true, aF]; exact ⟨_, rfl⟩
    · obtain ⟨n, hn⟩ : ∃ n : Nat, k < 10 ^ n ∧ n ≤ k.toNat := ⟨k.toNat, by
        have : (k.toNat : Int) < 10 ^ k.toNat := by exact_mod_cast (Nat.lt_pow_self (by omega) : k.toNat < 10 ^ k.toNat)
        omega, Nat.le_refl _⟩
      simp only [h, decide_false, aG]
      rw [rV]
      have hz : ∀ x : UInt8, (ByteArray.mk #[x]).size = 1 := fun _ => rfl
      have h0 : k > 0 := by omega
      have he : (ByteArray.mk #[]).size = 0 := rfl
      simp only [h0, decide_true, aF, List.map_cons, List.map_nil, hz, he, show 1 + 0 ≤ 140737488355328 by omega, aD]
      refine aFv 19 _ _ ?_ (by rw [ByteArray.size_append, hz, he]; omega)
      have e : ∀ x : Int, IntKind.i64.wrap x < 10 ^ 19 := fun x => by
        have e : IntKind.i64.wrap x = if x % 18446744073709551616 ≥ 9223372036854775808 then x % 18446744073709551616 - 18446744073709551616 else x % 18446744073709551616 := by
          simp [IntKind.wrap, IntKind.signed, IntKind.bits]
        rw [e]
        split <;> omega
      exact e _
  obtain ⟨s, hs⟩ := key
  exact ⟨s, bH hs⟩
noncomputable def mtx (k : Int) : ByteArray := Classical.choose (aJs k)
theorem aGk (k : Int) : Dn F.aVe [aJ k] [] = some (.leaf (.str (mtx k)), []) := Classical.choose_spec (aJs k)
end Go.Vs
end
section
open Go Go.Vs Go.Proofs
set_option linter.unusedVariables false
set_option linter.unusedSimpArgs false
namespace Go.Vs
theorem fA (k : Int) : Dd F.aVe [.leaf (.int .i64 k)] [] = some (.leaf (.str (mtx k)), []) :=
  rR rfl (aGk k) rfl rfl rfl
theorem aCF {es : List (List (aA false))} (hl : es.length ≤ maxLen) (hq : ∀ e ∈ es, dP e) : ∀ i : Nat, i ≤ es.length → ∀ k : Int,
    eJ Dd (mB eQ (soE es) k i) = some (.leaf (.int .i64 (mkE (es.drop i) k)), []) := by
  have hC : (soE es).length = es.length := nW es
  refine bY ?_ ?_
  · intro k; rw [sI]; simp [hC, mkE]
  · intro i hi ih k
    obtain ⟨s, he, hs⟩ := (hq _ (List.getElem_mem hi))
    rw [sI, cY hi]
    simp only [Int.ofNat_lt, hi, hC, decide_true, aF, Int.natCast_nonneg, Bool.and_true, Int.toNat_natCast, aD, bB (Nat.lt_of_lt_of_le hi hl), aR (xZ fun e he => (hq e he).len), tR hi, fA, Option.bind_some, aV, aY]
    rw [he]
    simp only [soL, soF, bL, cF, dK, eO, List.getElem?_cons_zero, List.getElem?_cons_succ, lR, St.eval, List.getD_cons_zero, List.getD_cons_succ, SV.plain, aBK, aBr, aBL, and_self, ite_true, if_true, xX, true_and, and_true, fA, Option.bind_some, aV, aY, cA, ih]
    simp only [mkE, mkL, mkF]
theorem nU {es : List (List (aA false))} (hl : es.length ≤ maxLen) (hq : ∀ e ∈ es, dP e) (k : Int) : Dd F.aUr [.leaf (.sl eQ (soE es)), .leaf (.int .i64 k)] [] = some (.leaf (.int .i64 (mkE es k)), []) := by
  apply mE rfl
  rw [aBW]
  have := aCF hl hq 0 (Nat.zero_le _) k
  simpa using this
def aNu (ls : List (aA false)) : Prop := ∀ (i0 : Int) (s1 : ByteArray) (e2 : List (List (aA false))) (e3 : List (List (aA false))), ls = [.int .i64 i0, .str s1, .sl fP e2, .sl fP e3] → (∀ k : Int, Dd F.aUB [.leaf (.sl eQ (soE e2)), .leaf (.int .i64 k)] [] = some (.leaf (.int .i64 (mkE e2 k)), []))
theorem aDQ {es : List (List (aA false))} (hl : es.length ≤ maxLen) (hq : ∀ e ∈ es, dH e) (hd : ∀ e ∈ es, aNu e) : ∀ i : Nat, i ≤ es.length → ∀ k : Int,
    eX Dd (mR eQ (soE es) k i) = some (.leaf (.int .i64 (mkE (es.drop i) k)), []) := by
  have hC : (soE es).length = es.length := nW es
  refine bY ?_ ?_
  · intro k; rw [sU]; simp [hC, mkE]
  · intro i hi ih k
    have hci := hd _ (List.getElem_mem hi)
    obtain ⟨i0, s1, e2, e3, he, h1, h2, q2, h3, q3⟩ := (hq _ (List.getElem_mem hi)).ex
    rw [sU, cY hi]
    simp only [Int.ofNat_lt, hi, hC, decide_true, aF, Int.natCast_nonneg, Bool.and_true, Int.toNat_natCast, aD, bB (Nat.lt_of_lt_of_le hi hl), aR (xZ fun e he => (hq e he).len), tR hi, fA, Option.bind_some, aV, aY]
    rw [he]
    have c2 := hci i0 s1 e2 e3 he
    have c3 := nU h3 q3
    simp only [soL, soF, bL, cF, dK, eO, List.getElem?_cons_zero, List.getElem?_cons_succ, lR, St.eval, List.getD_cons_zero, List.getD_cons_succ, SV.plain, aBK, aBr, aBL, and_self, ite_true, if_true, xX, true_and, and_true, c2, c3, fA, Option.bind_some, aV, aY, cA, ih]
    simp only [mkE, mkL, mkF]
theorem wK {es : List (List (aA false))} (hl : es.length ≤ maxLen) (hq : ∀ e ∈ es, dH e) (hd : ∀ e ∈ es, aNu e) (k : Int) : Dd F.aUB [.leaf (.sl eQ (soE es)), .leaf (.int .i64 k)] [] = some (.leaf (.int .i64 (mkE es k)), []) := by
  apply mE rfl
  rw [aCz]
  have := aDQ hl hq hd 0 (Nat.zero_le _) k
  simpa using this
theorem aSz {ls : List (aA false)} (h : dH ls) : aNu ls := by
  induction h with
  | mk i0 s1 e2 e3 h1 h2 q2 h3 q3 ih2 =>
    intro y0 y1 y2 y3 heq
    simp only [List.cons.injEq, aA.int.injEq, aA.str.injEq, aA.sl.injEq, and_true, true_and] at heq
    obtain ⟨rfl, rfl, rfl, rfl⟩ := heq
    exact wK h2 q2 ih2
theorem zY {es : List (List (aA false))} (hl : es.length ≤ maxLen) (hq : ∀ e ∈ es, dH e) (k : Int) : Dd F.aUB [.leaf (.sl eQ (soE es)), .leaf (.int .i64 k)] [] = some (.leaf (.int .i64 (mkE es k)), []) := wK hl hq (fun e he => aSz (hq e he)) k
theorem aGn {es : List (List (aA false))} (hl : es.length ≤ maxLen) (hq : ∀ e ∈ es, jU e) : ∀ i : Nat, i ≤ es.length → ∀ k : Int,
    gM Dd (oZ eQ (soE es) k i) = some (.leaf (.int .i64 (mkE (es.drop i) k)), []) := by
  have hC : (soE es).length = es.length := nW es
  refine bY ?_ ?_
  · intro k; rw [wM]; simp [hC, mkE]
  · intro i hi ih k
    obtain ⟨s0, i1, s2, e3, e4, he, h0, h2, h3, q3, h4, q4⟩ := (hq _ (List.getElem_mem hi)).ex
    rw [wM, cY hi]
    simp only [Int.ofNat_lt, hi, hC, decide_true, aF, Int.natCast_nonneg, Bool.and_true, Int.toNat_natCast, aD, bB (Nat.lt_of_lt_of_le hi hl), aR (xZ fun e he => (hq e he).len), tR hi, fA, Option.bind_some, aV, aY]
    rw [he]
    have c3 := zY h3 q3
    have c4 := nU h4 q4
    simp only [soL, soF, bL, cF, dK, eO, List.getElem?_cons_zero, List.getElem?_cons_succ, lR, St.eval, List.getD_cons_zero, List.getD_cons_succ, SV.plain, aBK, aBr, aBL, and_self, ite_true, if_true, xX, true_and, and_true, c3, c4, fA, Option.bind_some, aV, aY, cA, ih]
    simp only [mkE, mkL, mkF]
theorem aJ1 {es : List (List (aA false))} (hl : es.length ≤ maxLen) (hq : ∀ e ∈ es, jU e) (k : Int) : Dd F.aU5 [.leaf (.sl eQ (soE es)), .leaf (.int .i64 k)] [] = some (.leaf (.int .i64 (mkE es k)), []) := by
  apply mE rfl
  rw [aFm]
  have := aGn hl hq 0 (Nat.zero_le _) k
  simpa using this
theorem aGV {es : List (List (aA false))} (hl : es.length ≤ maxLen) (hq : ∀ e ∈ es, fO e) : ∀ i : Nat, i ≤ es.length → ∀ k : Int,
    gG Dd (oY eQ (soE es) k i) = some (.leaf (.int .i64 (mkE (es.drop i) k)), []) := by
  have hC : (soE es).length = es.length := nW es
  refine bY ?_ ?_
  · intro k; rw [wC]; simp [hC, mkE]
  · intro i hi ih k
    obtain ⟨s0, e1, he, h0, h1, q1⟩ := (hq _ (List.getElem_mem hi)).ex
    rw [wC, cY hi]
    simp only [Int.ofNat_lt, hi, hC, decide_true, aF, Int.natCast_nonneg, Bool.and_true, Int.toNat_natCast, aD, bB (Nat.lt_of_lt_of_le hi hl), aR (xZ fun e he => (hq e he).len), tR hi, fA, Option.bind_some, aV, aY]
    rw [he]
    have c1 := aJ1 h1 q1
    simp only [soL, soF, bL, cF, dK, eO, List.getElem?_cons_zero, List.getElem?_cons_succ, lR, St.eval, List.getD_cons_zero, List.getD_cons_succ, SV.plain, aBK, aBr, aBL, and_self, ite_true, if_true, xX, true_and, and_true, c1, fA, Option.bind_some, aV, aY, cA, ih]
    simp only [mkE, mkL, mkF]
theorem rM {es : List (List (aA false))} (hl : es.length ≤ maxLen) (hq : ∀ e ∈ es, fO e) (k : Int) : Dd F.aU2 [.leaf (.sl eQ (soE es)), .leaf (.int .i64 k)] [] = some (.leaf (.int .i64 (mkE es k)), []) := by
  apply mE rfl
  rw [aEW]
  have := aGV hl hq 0 (Nat.zero_le _) k
  simpa using this
theorem aEl {es : List (List (aA false))} (hl : es.length ≤ maxLen) (hq : ∀ e ∈ es, cI e) : ∀ i : Nat, i ≤ es.length → ∀ k : Int,
    eV Dd (mS eQ (soE es) k i) = some (.leaf (.int .i64 (mkE (es.drop i) k)), []) := by
  have hC : (soE es).length = es.length := nW es
  refine bY ?_ ?_
  · intro k; rw [tM]; simp [hC, mkE]
  · intro i hi ih k
    obtain ⟨s0, s1, s2, s3, b4, i5, s6, e7, e8, e9, he, h0, h1, h2, h3, h6, h7, q7, h8, q8, h9, q9⟩ := (hq _ (List.getElem_mem hi)).ex
    rw [tM, cY hi]
    simp only [Int.ofNat_lt, hi, hC, decide_true, aF, Int.natCast_nonneg, Bool.and_true, Int.toNat_natCast, aD, bB (Nat.lt_of_lt_of_le hi hl), aR (xZ fun e he => (hq e he).len), tR hi, fA, Option.bind_some, aV, aY]
    rw [he]
    have c7 := zY h7 q7
    have c8 := nU h8 q8
    have c9 := rM h9 q9
    simp only [soL, soF, bL, cF, dK, eO, List.getElem?_cons_zero, List.getElem?_cons_succ, lR, St.eval, List.getD_cons_zero, List.getD_cons_succ, SV.plain, aBK, aBr, aBL, and_self, ite_true, if_true, xX, true_and, and_true, c7, c8, c9, fA, Option.bind_some, aV, aY, cA, ih]
    simp only [mkE, mkL, mkF]
theorem aAg {es : List (List (aA false))} (hl : es.length ≤ maxLen) (hq : ∀ e ∈ es, cI e) (k : Int) : Dd F.aUC [.leaf (.sl eQ (soE es)), .leaf (.int .i64 k)] [] = some (.leaf (.int .i64 (mkE es k)), []) := by
  apply mE rfl
  rw [aCK]
  have := aEl hl hq 0 (Nat.zero_le _) k
  simpa using this
theorem aAK {es : List (List (aA false))} (hl : es.length ≤ maxLen) (hq : ∀ e ∈ es, cE e) : ∀ i : Nat, i ≤ es.length → ∀ k : Int,
    dW Dd (kG eQ (soE es) k i) = some (.leaf (.int .i64 (mkE (es.drop i) k)), []) := by
  have hC : (soE es).length = es.length := nW es
  refine bY ?_ ?_
  · intro k; rw [qP]; simp [hC, mkE]
  · intro i hi ih k
    obtain ⟨s0, s1, e2, s3, s4, e5, he, h0, h1, h2, q2, h3, h4, h5, q5⟩ := (hq _ (List.getElem_mem hi)).ex
    rw [qP, cY hi]
    simp only [Int.ofNat_lt, hi, hC, decide_true, aF, Int.natCast_nonneg, Bool.and_true, Int.toNat_natCast, aD, bB (Nat.lt_of_lt_of_le hi hl), aR (xZ fun e he => (hq e he).len), tR hi, fA, Option.bind_some, aV, aY]
    rw [he]
    have c2 := aAg h2 q2
    have c5 := rM h5 q5
    simp only [soL, soF, bL, cF, dK, eO, List.getElem?_cons_zero, List.getElem?_cons_succ, lR, St.eval, List.getD_cons_zero, List.getD_cons_succ, SV.plain, aBK, aBr, aBL, and_self, ite_true, if_true, xX, true_and, and_true, c2, c5, fA, Option.bind_some, aV, aY, cA, ih]
    simp only [mkE, mkL, mkF]
theorem aD2 {es : List (List (aA false))} (hl : es.length ≤ maxLen) (hq : ∀ e ∈ es, cE e) (k : Int) : Dd F.aUd [.leaf (.sl eQ (soE es)), .leaf (.int .i64 k)] [] = some (.leaf (.int .i64 (mkE es k)), []) := by
  apply mE rfl
  rw [aAt]
  have := aAK hl hq 0 (Nat.zero_le _) k
  simpa using this
theorem aBF {es : List (List (aA false))} (hl : es.length ≤ maxLen) (hq : ∀ e ∈ es, cK e) : ∀ i : Nat, i ≤ es.length → ∀ k : Int,
    eB Dd (lK eQ (soE es) k i) = some (.leaf (.int .i64 (mkE (es.drop i) k)), []) := by
  have hC : (soE es).length = es.length := nW es
  refine bY ?_ ?_
  · intro k; rw [qY]; simp [hC, mkE]
  · intro i hi ih k
    obtain ⟨s0, s1, e2, he, h0, h1, h2, q2⟩ := (hq _ (List.getElem_mem hi)).ex
    rw [qY, cY hi]
    simp only [Int.ofNat_lt, hi, hC, decide_true, aF, Int.natCast_nonneg, Bool.and_true, Int.toNat_natCast, aD, bB (Nat.lt_of_lt_of_le hi hl), aR (xZ fun e he => (hq e he).len), tR hi, fA, Option.bind_some, aV, aY]
    rw [he]
    have c2 := rM h2 q2
    simp only [soL, soF, bL, cF, dK, eO, List.getElem?_cons_zero, List.getElem?_cons_succ, lR, St.eval, List.getD_cons_zero, List.getD_cons_succ, SV.plain, aBK, aBr, aBL, and_self, ite_true, if_true, xX, true_and, and_true, c2, fA, Option.bind_some, aV, aY, cA, ih]
    simp only [mkE, mkL, mkF]
theorem aFc {es : List (List (aA false))} (hl : es.length ≤ maxLen) (hq : ∀ e ∈ es, cK e) (k : Int) : Dd F.aUf [.leaf (.sl eQ (soE es)), .leaf (.int .i64 k)] [] = some (.leaf (.int .i64 (mkE es k)), []) := by
  apply mE rfl
  rw [aAW]
  have := aBF hl hq 0 (Nat.zero_le _) k
  simpa using this
theorem aE2 {es : List (List (aA false))} (hl : es.length ≤ maxLen) (hq : ∀ e ∈ es, eI e) : ∀ i : Nat, i ≤ es.length → ∀ k : Int,
    fE Dd (oH eQ (soE es) k i) = some (.leaf (.int .i64 (mkE (es.drop i) k)), []) := by
  have hC : (soE es).length = es.length := nW es
  refine bY ?_ ?_
  · intro k; rw [uF]; simp [hC, mkE]
  · intro i hi ih k
    obtain ⟨i0, s1, he, h1⟩ := (hq _ (List.getElem_mem hi)).ex
    rw [uF, cY hi]
    simp only [Int.ofNat_lt, hi, hC, decide_true, aF, Int.natCast_nonneg, Bool.and_true, Int.toNat_natCast, aD, bB (Nat.lt_of_lt_of_le hi hl), aR (xZ fun e he => (hq e he).len), tR hi, fA, Option.bind_some, aV, aY]
    rw [he]
    simp only [soL, soF, bL, cF, dK, eO, List.getElem?_cons_zero, List.getElem?_cons_succ, lR, St.eval, List.getD_cons_zero, List.getD_cons_succ, SV.plain, aBK, aBr, aBL, and_self, ite_true, if_true, xX, true_and, and_true, fA, Option.bind_some, aV, aY, cA, ih]
    simp only [mkE, mkL, mkF]
theorem aBh {es : List (List (aA false))} (hl : es.length ≤ maxLen) (hq : ∀ e ∈ es, eI e) (k : Int) : Dd F.aU0 [.leaf (.sl eQ (soE es)), .leaf (.int .i64 k)] [] = some (.leaf (.int .i64 (mkE es k)), []) := by
  apply mE rfl
  rw [aDo]
  have := aE2 hl hq 0 (Nat.zero_le _) k
  simpa using this
theorem aF5 {es : List (List (aA false))} (hl : es.length ≤ maxLen) (hq : ∀ e ∈ es, dV e) : ∀ i : Nat, i ≤ es.length → ∀ k : Int,
    gC Dd (pF eQ (soE es) k i) = some (.leaf (.int .i64 (mkE (es.drop i) k)), []) := by
  have hC : (soE es).length = es.length := nW es
  refine bY ?_ ?_
  · intro k; rw [wE]; simp [hC, mkE]
  · intro i hi ih k
    obtain ⟨i0, b1, s2, s3, e4, e5, e6, e7, e8, b9, e10, he, h2, h3, h4, q4, h5, q5, h6, q6, h7, q7, h8, q8, h10, q10⟩ := (hq _ (List.getElem_mem hi)).ex
    rw [wE, cY hi]
    simp only [Int.ofNat_lt, hi, hC, decide_true, aF, Int.natCast_nonneg, Bool.and_true, Int.toNat_natCast, aD, bB (Nat.lt_of_lt_of_le hi hl), aR (xZ fun e he => (hq e he).len), tR hi, fA, Option.bind_some, aV, aY]
    rw [he]
    have c4 := nU h4 q4
    have c5 := aD2 h5 q5
    have c6 := aAg h6 q6
    have c7 := aFc h7 q7
    have c8 := aBh h8 q8
    have c10 := rM h10 q10
    simp only [soL, soF, bL, cF, dK, eO, List.getElem?_cons_zero, List.getElem?_cons_succ, lR, St.eval, List.getD_cons_zero, List.getD_cons_succ, SV.plain, aBK, aBr, aBL, and_self, ite_true, if_true, xX, true_and, and_true, c4, c5, c6, c7, c8, c10, fA, Option.bind_some, aV, aY, cA, ih]
    simp only [mkE, mkL, mkF]
theorem aCe {es : List (List (aA false))} (hl : es.length ≤ maxLen) (hq : ∀ e ∈ es, dV e) (k : Int) : Dd F.aVg [.leaf (.sl eQ (soE es)), .leaf (.int .i64 k)] [] = some (.leaf (.int .i64 (mkE es k)), []) := by
  apply mE rfl
  rw [aE4]
  have := aF5 hl hq 0 (Nat.zero_le _) k
  simpa using this
theorem aAk {ls : List (aA false)} (h : bX ls) (k : Int) : Dd F.aUw [.agg (saL ls), .leaf (.int .i64 k)] [] = some (.leaf (.int .i64 (msL ls k)), []) := by
  cases h with
  | mk e0 e1 e2 h0 q0 h1 q1 h2 q2 =>
    apply mE rfl
    simp only [saL, saF]
    rw [aCu]
    simp only [aCe h0 q0, aCe h1 q1, aBh h2 q2, Option.bind_some, aV, cA, msL]
end Go.Vs
end
section
open Go Go.Vs Go.Proofs
set_option linter.unusedVariables false
set_option linter.unusedSimpArgs false
namespace Go.Vs
noncomputable def zE (k : Int) : List (aA false) := [.int .i64 (k), .str (mtx (IntKind.i64.wrap (k + 1))), .str (mtx (IntKind.i64.wrap (IntKind.i64.wrap (k + 1) + 1)))]
def nV (k : Int) : Int := IntKind.i64.wrap (IntKind.i64.wrap (IntKind.i64.wrap (k + 1) + 1) + 1)
noncomputable def dN : Nat → Int → List (List (aA false))
  | 0, _ => []
  | n + 1, k => zE k :: dN n (nV k)
def gN : Nat → Int → Int
  | 0, k => k
  | n + 1, k => gN n (nV k)
theorem yV : ∀ (n : Nat) (k : Int), gN (n + 1) k = nV (gN n k)
  | 0, _ => rfl
  | n + 1, k => yV n (nV k)
theorem uQ : ∀ (n : Nat) (k : Int), (dN n k).length = n
  | 0, _ => rfl
  | n + 1, k => by rw [dN, List.length_cons, uQ n]
theorem aAr : ∀ (n : Nat) (k : Int), ∀ e ∈ dN n k, e.length = 3
  | 0, _, e, h => by simp [dN] at h
  | n + 1, k, e, h => by
    rcases List.mem_cons.1 h with rfl | h
    · rfl
    · exact aAr n _ e h
theorem aAy : ∀ (n : Nat) (k : Int) (i : Nat) (h : i < (dN n k).length), (dN n k)[i] = zE (gN i k)
  | 0, _, i, h => by simp [dN] at h
  | n + 1, k, 0, h => rfl
  | n + 1, k, i + 1, h => aAy n (nV k) i (by simpa [dN] using h)
theorem aCw {n : Nat} {k : Int} (hl : n ≤ maxLen) : ∀ i : Nat, i ≤ n → ∀ z : List (SV false), z.all SV.flat = true → (n - i) * 3 ≤ z.length →
    dZ Dn (lL n (gN i k) i (fN (dN n k) i z)) = some (aJ (gN n k), [fN (dN n k) n (z.drop ((n - i) * 3))]) := by
  have hN := uQ n k
  have hall := aAr n k
  refine bY ?_ ?_
  · intro z hz hzl
    rw [qX]
    have hf := aGx (l := dN n k) (i := n) hz
    simp [hf]
  · intro i hi ih z hz hzl
    have hlen := fS (z := z) hall (i := i) (by omega)
    have hp := oO (z := z) hall (i := i) (by omega)
    rw [aAy] at hp
    simp only [zE, List.map_cons, List.map_nil] at hp
    have hd : (n - i) * 3 = (n - (i + 1)) * 3 + 3 := by rw [← Nat.succ_mul]; congr 1; omega
    rw [qX]
    simp only [Int.ofNat_lt, hi, decide_true, aF, Int.natCast_nonneg, Bool.and_true, aD, bB (Nat.lt_of_lt_of_le hi hl), List.getElem_toArray, List.getElem_cons_zero, List.getElem_cons_succ, Nat.zero_add, Nat.add_zero, Int.toNat_natCast, aGk, Option.bind_some, aV, aY]
    have b0 : i * 3 + 1 ≤ (fN (dN n k) i z).length := by rw [hlen]; omega
    simp only [b0, decide_true, aD]
    have b1 : ∀ l : List (SV false), l.length = 1 → i * 3 + 1 + 1 ≤ (jK (fN (dN n k) i z) (i * 3) l).length := fun l hl0 => by rw [aHg (by rw [hl0, hlen]; omega), hlen]; omega
    have j1 : ∀ (l : List (SV false)) (x : SV false), l.length = 1 → jK (jK (fN (dN n k) i z) (i * 3) l) (i * 3 + 1) [x] = jK (fN (dN n k) i z) (i * 3) (l ++ [x]) := fun l x hl0 => aMB (by rw [hl0]) (by rw [hl0, hlen]; simp; omega)
    have b2 : ∀ l : List (SV false), l.length = 2 → i * 3 + 2 + 1 ≤ (jK (fN (dN n k) i z) (i * 3) l).length := fun l hl0 => by rw [aHg (by rw [hl0, hlen]; omega), hlen]; omega
    have j2 : ∀ (l : List (SV false)) (x : SV false), l.length = 2 → jK (jK (fN (dN n k) i z) (i * 3) l) (i * 3 + 2) [x] = jK (fN (dN n k) i z) (i * 3) (l ++ [x]) := fun l x hl0 => aMB (by rw [hl0]) (by rw [hl0, hlen]; simp; omega)
    rw [decide_eq_true (b1 _ rfl), aD, j1 _ _ rfl]
    simp only [List.cons_append, List.nil_append]
    rw [decide_eq_true (b2 _ rfl), aD, j2 _ _ rfl]
    simp only [List.cons_append, List.nil_append]
    rw [hp]
    have hz2 : (z.drop 3).all SV.flat = true := List.all_eq_true.2 fun x hx => List.all_eq_true.1 hz x (List.mem_of_mem_drop hx)
    have := ih (z.drop 3) hz2 (by rw [List.length_drop]; omega)
    rw [yV] at this
    simp only [nV] at this
    rw [this, List.drop_drop, hd, Nat.add_comm 3]
theorem aDi {n : Nat} {k : Int} (hl : n ≤ maxLen) {z : List (SV false)} (hz : z.all SV.flat = true) (hzl : n * 3 ≤ z.length) :
    Dn F.aUs [.bsl 0 3 0 n, aJ k] [z] = some (aJ (gN n k), [fN (dN n k) n (z.drop (n * 3))]) := by
  refine bH ?_
  rw [aA8]
  have := aCw (n := n) (k := k) hl 0 (Nat.zero_le _) z hz (by simpa using hzl)
  simpa [fN, gN] using this
theorem aCq {n : Nat} {k : Int} (hl : n ≤ maxLen) {z : List (SV false)} (hz : z.all SV.flat = true) : ∀ i : Nat, i ≤ n →
    eA Dn (lJ n (gN i k) i (fN (dN n k) n z)) = some (aJ (gN n k), [fN (dN n k) n z]) := by
  have hN := uQ n k
  have hall := aAr n k
  have hf := aGx (l := dN n k) (i := n) hz
  refine bY ?_ ?_
  · rw [rA]
    simp [hf]
  · intro i hi ih
    have hi' : i < (dN n k).length := by omega
    rw [yV] at ih
    simp only [nV] at ih
    rw [rA]
    simp only [Int.ofNat_lt, hi, decide_true, aF, Int.natCast_nonneg, Bool.and_true, aD, bB (Nat.lt_of_lt_of_le hi hl), List.getElem_toArray, List.getElem_cons_zero, List.getElem_cons_succ, Nat.zero_add, Nat.add_zero, Int.toNat_natCast, aGk, Option.bind_some, aV, aY]
    have get : ∀ (o p : Nat) (ho : o < 3) (hp : p = i * 3 + o) (kk : SV false → Res), aGP (fN (dN n k) n z) p kk = kk (.leaf ((zE (gN i k))[o]'ho)) := fun o p ho hp kk => by
      have := aSe (r := z) hall hi' ho hp kk
      rw [hN] at this
      rw [this]
      simp only [aAy]
      try rfl
    rw [get 0 _ (by omega) (by omega)]
    simp only [zE, List.getElem_cons_zero, List.getElem_cons_succ, SV.drop, aV, cA, aY, bne_self_eq_false, beq_self_eq_true, Bool.not_true, aG]
    rw [get 1 _ (by omega) (by omega)]
    simp only [zE, List.getElem_cons_zero, List.getElem_cons_succ, SV.drop, aV, cA, aY, bne_self_eq_false, beq_self_eq_true, Bool.not_true, aG]
    rw [get 2 _ (by omega) (by omega)]
    simp only [zE, List.getElem_cons_zero, List.getElem_cons_succ, SV.drop, aV, cA, aY, bne_self_eq_false, beq_self_eq_true, Bool.not_true, aG]
    exact ih
theorem aDF {n : Nat} {k : Int} (hl : n ≤ maxLen) {z : List (SV false)} (hz : z.all SV.flat = true) :
    Dn F.aUm [.bsl 0 3 0 n, aJ k] [fN (dN n k) n z] = some (aJ (gN n k), [fN (dN n k) n z]) := by
  refine bH ?_
  rw [aAQ]
  have := aCq (n := n) (k := k) hl hz 0 (Nat.zero_le _)
  simpa [gN] using this
theorem aBJ (k : Int) : Dn F.aUs [vsl [], aJ k] [] = some (aJ k, []) := by
  refine bH ?_
  rw [aEa, aCD]
  simp
theorem aBE (k : Int) : Dn F.aUm [vsl [], aJ k] [] = some (aJ k, []) := by
  refine bH ?_
  rw [aDv, aCG]
  simp
end Go.Vs
end
section
namespace Go.Vs
mutual
theorem aR0 (c : Fl true) : ∀ l : aA false, reF er (reF (fl c) l) = l
  | .sl _ es => by rw [reF, reF, aNx c es]; cases ‹Fl false›; rfl
  | .bool _ | .int _ _ | .str _ | .unk | .nl _ => by simp [reF]
theorem aNq (c : Fl true) : ∀ l : List (aA false), reL er (reL (fl c) l) = l
  | [] => by rw [reL, reL]
  | l :: r => by rw [reL, reL, aR0 c l, aNq c r]
theorem aNx (c : Fl true) : ∀ l : List (List (aA false)), reE er (reE (fl c) l) = l
  | [] => by rw [reE, reE]
  | l :: r => by rw [reE, reE, aNq c l, aNx c r]
end
theorem aRr (c : Fl true) (es : List (List (aA false))) : reS er (.leaf (.sl c (reE (fl c) es))) = vsl es := by
  simp only [reS, reF, aNx]
theorem vN (c : Fl true) (ls : List (aA false)) : reS er (.agg (reL (fl c) ls)) = .agg ls := by
  simp only [reS, aNq]
end Go.Vs
end
section
open Go Go.Vs Go.Proofs
set_option linter.unusedVariables false
set_option linter.unusedSimpArgs false
set_option maxRecDepth 100000
namespace Go.Vs
theorem hP : Tryz.prog.follows .mixedOrders = true := by kernel_rfl
theorem hG : Tryz.prog.funcs.all (fun fn => !(fn.name == "runtime.NumGoroutine")) = true := by kernel_rfl
theorem aRn {N : Env} : lD Tryz.prog N Dn := aMj hP hG aPO Hs
theorem wI {N : Env} : lD Tryz.prog N Dd := aMj hP hG (aOt aRn aBz) Hs
section
variable {c : Fl true}
theorem aQQ {x : SV false} (h : x.flat = true) : reS er (reS li x) = x := by
  have e : ∀ es : List (List (aA false)), reE er (reE li es) = es := fun es => aNx cG es
  cases x <;> simp [SV.flat] at h <;> simp only [reS]
  · rw [show reF er (reF li _) = _ from aR0 cG _]
  · rw [e]
  · rw [e]
  · rw [show reL er (reL li _) = _ from aNq cG _]
theorem aMT : ∀ {l : List (SV false)}, l.all SV.flat = true → (l.map (reS li)).map (reS er) = l
  | [], _ => rfl
  | x :: l, h => by
    rw [List.all_cons, Bool.and_eq_true] at h
    rw [List.map_cons, List.map_cons, aQQ h.1, aMT h.2]
theorem aRm {l : List (SV false)} (h : l.all SV.flat = true) : (l.map (reS li)).all SV.flat = true := by
  rw [List.all_map]
  exact List.all_eq_true.2 fun x hx => aHW x (List.all_eq_true.1 h x hx)
noncomputable def aK6 (n k : Nat) : List (SV false) := fN (dN n 1) n ((List.replicate k SV.any).drop (n * 3))
theorem aLk (k : Nat) : (List.replicate k (SV.any (m := false))).all SV.flat = true := by
  rw [List.all_eq_true]; intro x hx; rw [List.eq_of_mem_replicate hx]; rfl
theorem aMh {l : List (SV false)} (h : l.all SV.flat = true) (n : Nat) : (l.drop n).all SV.flat = true :=
  List.all_eq_true.2 fun x hx => List.all_eq_true.1 h x (List.mem_of_mem_drop hx)
theorem aJl (n k : Nat) : (aK6 n k).all SV.flat = true := aGx (aMh (aLk k) _)
theorem aKc {n k : Nat} (hl : n ≤ maxLen) (hk : n * 3 ≤ k) : Dd F.aUs [.bsl 0 3 0 n, .leaf (.int .i64 1)] [List.replicate k .any] = some (.leaf (.int .i64 (gN n 1)), [(aK6 n k).map (reS li)]) :=
  rR rfl (aDi (k := 1) hl (aLk k) (by rw [List.length_replicate]; exact hk)) rfl (by rw [List.map_cons, List.map_replicate]; rfl) rfl
theorem aJ2 {n k : Nat} (hl : n ≤ maxLen) : Dd F.aUm [.bsl 0 3 0 n, .leaf (.int .i64 1)] [(aK6 n k).map (reS li)] = some (.leaf (.int .i64 (gN n 1)), [(aK6 n k).map (reS li)]) :=
  rR rfl (aDF (k := 1) hl (aMh (aLk k) _)) rfl (by rw [List.map_cons, aMT (aJl n k)]; rfl) rfl
theorem aHb : ∀ (n : Nat) (k : Int), 0 ≤ k → k + 3 * n ≤ cap → 0 ≤ gN n k
  | 0, k, h, _ => h
  | n + 1, k, h, hc => by
    rw [gN]
    have e : nV k = k + 3 := by
      unfold nV
      simp only [cap] at hc
      rw [nZ (z := k + 1) (by omega) (by omega), nZ (z := k + 1 + 1) (by omega) (by omega), nZ (z := k + 1 + 1 + 1) (by omega) (by omega)]; omega
    rw [e]
    exact aHb n _ (by omega) (by omega)
end
end Go.Vs
end
section
open Go Go.Vs Go.Proofs
set_option linter.unusedVariables false
set_option linter.unusedSimpArgs false
set_option maxRecDepth 100000
namespace Go.Vs
noncomputable abbrev body : Code := wW Tryz.prog F.aUo
theorem hc0 : (uJ Tryz.prog F.aUo).body = some body := by kernel_rfl
theorem hfn : Tryz.prog.funcs[F.aUo]? = some (uJ Tryz.prog F.aUo) := by kernel_rfl
theorem spA : jV (0 + (6 + 1)) body = true := by kernel_rfl
theorem spB : jV (7 + (1 + 1)) body = true := by kernel_rfl
theorem spC : jV (9 + (3 + 1)) body = true := by kernel_rfl
theorem spD : jV (13 + (3 + 1)) body = true := by kernel_rfl
theorem nlD : uO (sub body (way 17)) = true := by kernel_rfl
structure aOE (x0_0 : List (List (aA false))) (x0_1 : List (List (aA false))) (x0_2 : List (List (aA false))) (x1_0 : List (List (aA false))) (x1_1 : List (List (aA false))) (x1_2 : List (List (aA false))) (w : List (List (aA false))) : Prop where
  wl : w.length ≤ maxLen
  wc : (w.length : Int) * 3 + 1 ≤ cap
  wq : ∀ e ∈ w, dG e
  spc : ∀ c0 c1 : Fl true, Dd F.aWf [.agg [.sl c0 (reE (fl c0) x0_0), .sl c0 (reE (fl c0) x0_1), .sl c0 (reE (fl c0) x0_2)], .agg [.sl c1 (reE (fl c1) x1_0), .sl c1 (reE (fl c1) x1_1), .sl c1 (reE (fl c1) x1_2)]] [] = some (.own (some T.aVQ) (reE (fl cG) w), [])
  imp : ∀ c0 c1 : Fl true, Dd F.aWg [.agg [.sl c0 (reE (fl c0) x0_0), .sl c0 (reE (fl c0) x0_1), .sl c0 (reE (fl c0) x0_2)], .agg [.sl c1 (reE (fl c1) x1_0), .sl c1 (reE (fl c1) x1_1), .sl c1 (reE (fl c1) x1_2)]] [] = some (.own (some T.aVQ) (reE (fl aS) w), [])
  mn : ¬ msL [.sl fP x1_0, .sl fP x1_1, .sl fP x1_2] (msL [.sl fP x0_0, .sl fP x0_1, .sl fP x0_2] (1)) < 0
  to0 : ∀ c : Fl true, Dd F.aU7 [.agg [.sl c (reE (fl c) x0_0), .sl c (reE (fl c) x0_1), .sl c (reE (fl c) x0_2)]] [] = some (.agg [.sl aS (reE (fl aS) x0_0), .sl aS (reE (fl aS) x0_1), .sl aS (reE (fl aS) x0_2)], [])
  eq0 : ∀ c c' : Fl true, Dd F.aU9 [.agg [.sl c (reE (fl c) x0_0), .sl c (reE (fl c) x0_1), .sl c (reE (fl c) x0_2)], .agg [.sl c' (reE (fl c') x0_0), .sl c' (reE (fl c') x0_1), .sl c' (reE (fl c') x0_2)]] [] = some (.leaf (.bool true), [])
  mk0 : ∀ k : Int, Dd F.aUw [.agg [.sl eQ (soE x0_0), .sl eQ (soE x0_1), .sl eQ (soE x0_2)], .leaf (.int .i64 k)] [] = some (.leaf (.int .i64 (msL [.sl fP x0_0, .sl fP x0_1, .sl fP x0_2] (k))), [])
  to1 : ∀ c : Fl true, Dd F.aU7 [.agg [.sl c (reE (fl c) x1_0), .sl c (reE (fl c) x1_1), .sl c (reE (fl c) x1_2)]] [] = some (.agg [.sl aS (reE (fl aS) x1_0), .sl aS (reE (fl aS) x1_1), .sl aS (reE (fl aS) x1_2)], [])
  eq1 : ∀ c c' : Fl true, Dd F.aU9 [.agg [.sl c (reE (fl c) x1_0), .sl c (reE (fl c) x1_1), .sl c (reE (fl c) x1_2)], .agg [.sl c' (reE (fl c') x1_0), .sl c' (reE (fl c') x1_1), .sl c' (reE (fl c') x1_2)]] [] = some (.leaf (.bool true), [])
  mk1 : ∀ k : Int, Dd F.aUw [.agg [.sl eQ (soE x1_0), .sl eQ (soE x1_1), .sl eQ (soE x1_2)], .leaf (.int .i64 k)] [] = some (.leaf (.int .i64 (msL [.sl fP x1_0, .sl fP x1_1, .sl fP x1_2] (k))), [])
section
variable {x0_0 : List (List (aA false))} {x0_1 : List (List (aA false))} {x0_2 : List (List (aA false))} {x1_0 : List (List (aA false))} {x1_1 : List (List (aA false))} {x1_2 : List (List (aA false))} {w : List (List (aA false))}
theorem aOE.eqw (h : aOE x0_0 x0_1 x0_2 x1_0 x1_1 x1_2 w) (c c' : Fl true) : Dd F.aUV [.leaf (.sl c (reE (fl c) w)), .leaf (.sl c' (reE (fl c') w))] [] = some (.leaf (.bool true), []) :=
  rR rfl (aIw h.wl h.wq) (by rw [List.map_cons, List.map_cons, aRr, aRr]; rfl) rfl rfl
theorem aRJ : Vs.turn φ1 (fun _ => false) [] ({ tmps := ((((fV tQ cG (reE (fl cG) x0_0) cG (reE (fl cG) x0_1) cG (reE (fl cG) x0_2) tQ cG (reE (fl cG) x1_0) cG (reE (fl cG) x1_1) cG (reE (fl cG) x1_2) cG (reE (fl cG) w)).tmps.set 2 (.ptr 2 0)).set 3 (.ptr 3 0)).set 6 (.own (some T.aVQ) (reE (fl cG) w))), boxes := (((fV tQ cG (reE (fl cG) x0_0) cG (reE (fl cG) x0_1) cG (reE (fl cG) x0_2) tQ cG (reE (fl cG) x1_0) cG (reE (fl cG) x1_1) cG (reE (fl cG) x1_2) cG (reE (fl cG) w)).boxes.set 2 (some [.leaf (.sl cG (reE (fl cG) x0_0)), .leaf (.sl cG (reE (fl cG) x0_1)), .leaf (.sl cG (reE (fl cG) x0_2))])).set 3 (some [.leaf (.sl cG (reE (fl cG) x1_0)), .leaf (.sl cG (reE (fl cG) x1_1)), .leaf (.sl cG (reE (fl cG) x1_2))])) } : St true) = fV tQ (φ1 cG) (tuE φ1 (fun _ => false) false (reE (fl cG) x0_0)) (φ1 cG) (tuE φ1 (fun _ => false) false (reE (fl cG) x0_1)) (φ1 cG) (tuE φ1 (fun _ => false) false (reE (fl cG) x0_2)) tQ (φ1 cG) (tuE φ1 (fun _ => false) false (reE (fl cG) x1_0)) (φ1 cG) (tuE φ1 (fun _ => false) false (reE (fl cG) x1_1)) (φ1 cG) (tuE φ1 (fun _ => false) false (reE (fl cG) x1_2)) (φ1 aS) (tuE φ1 (fun _ => false) false (reE (fl cG) w)) := by
  kernel_rfl
theorem aR7 : Vs.turn φ2 (fun _ => false) [] ({ tmps := (((dD tQ tA (reE (fl tA) x0_0) tA (reE (fl tA) x0_1) tA (reE (fl tA) x0_2) tQ tA (reE (fl tA) x1_0) tA (reE (fl tA) x1_1) tA (reE (fl tA) x1_2) tA (reE (fl tA) w) tQ aS (reE (fl aS) x0_0) aS (reE (fl aS) x0_1) aS (reE (fl aS) x0_2) tQ aS (reE (fl aS) x1_0) aS (reE (fl aS) x1_1) aS (reE (fl aS) x1_2)).tmps.set 7 (.ptr 7 0)).set 8 (.ptr 8 0)), boxes := (((dD tQ tA (reE (fl tA) x0_0) tA (reE (fl tA) x0_1) tA (reE (fl tA) x0_2) tQ tA (reE (fl tA) x1_0) tA (reE (fl tA) x1_1) tA (reE (fl tA) x1_2) tA (reE (fl tA) w) tQ aS (reE (fl aS) x0_0) aS (reE (fl aS) x0_1) aS (reE (fl aS) x0_2) tQ aS (reE (fl aS) x1_0) aS (reE (fl aS) x1_1) aS (reE (fl aS) x1_2)).boxes.set 7 (some [.leaf (.sl aS (reE (fl aS) x0_0)), .leaf (.sl aS (reE (fl aS) x0_1)), .leaf (.sl aS (reE (fl aS) x0_2))])).set 8 (some [.leaf (.sl aS (reE (fl aS) x1_0)), .leaf (.sl aS (reE (fl aS) x1_1)), .leaf (.sl aS (reE (fl aS) x1_2))])) } : St true) = dD tQ (φ2 tA) (tuE φ2 (fun _ => false) false (reE (fl tA) x0_0)) (φ2 tA) (tuE φ2 (fun _ => false) false (reE (fl tA) x0_1)) (φ2 tA) (tuE φ2 (fun _ => false) false (reE (fl tA) x0_2)) tQ (φ2 tA) (tuE φ2 (fun _ => false) false (reE (fl tA) x1_0)) (φ2 tA) (tuE φ2 (fun _ => false) false (reE (fl tA) x1_1)) (φ2 tA) (tuE φ2 (fun _ => false) false (reE (fl tA) x1_2)) (φ2 tA) (tuE φ2 (fun _ => false) false (reE (fl tA) w)) tQ (φ2 aS) (tuE φ2 (fun _ => false) false (reE (fl aS) x0_0)) (φ2 aS) (tuE φ2 (fun _ => false) false (reE (fl aS) x0_1)) (φ2 aS) (tuE φ2 (fun _ => false) false (reE (fl aS) x0_2)) tQ (φ2 aS) (tuE φ2 (fun _ => false) false (reE (fl aS) x1_0)) (φ2 aS) (tuE φ2 (fun _ => false) false (reE (fl aS) x1_1)) (φ2 aS) (tuE φ2 (fun _ => false) false (reE (fl aS) x1_2)) := by
  kernel_rfl
theorem aRZ : Vs.turn φ3 σ3 [] ({ tmps := (dE tQ tA (reE (fl tA) x0_0) tA (reE (fl tA) x0_1) tA (reE (fl tA) x0_2) tQ tA (reE (fl tA) x1_0) tA (reE (fl tA) x1_1) tA (reE (fl tA) x1_2) tA (reE (fl tA) w) tQ tX (reE (fl tX) x0_0) tX (reE (fl tX) x0_1) tX (reE (fl tX) x0_2) tQ tX (reE (fl tX) x1_0) tX (reE (fl tX) x1_1) tX (reE (fl tX) x1_2) aS (reE (fl aS) w)).tmps.set 9 (.own (some T.aVQ) (reE (fl aS) w)), boxes := (dE tQ tA (reE (fl tA) x0_0) tA (reE (fl tA) x0_1) tA (reE (fl tA) x0_2) tQ tA (reE (fl tA) x1_0) tA (reE (fl tA) x1_1) tA (reE (fl tA) x1_2) tA (reE (fl tA) w) tQ tX (reE (fl tX) x0_0) tX (reE (fl tX) x0_1) tX (reE (fl tX) x0_2) tQ tX (reE (fl tX) x1_0) tX (reE (fl tX) x1_1) tX (reE (fl tX) x1_2) aS (reE (fl aS) w)).boxes } : St true) = dE tQ (if σ3 tA then eQ else φ3 tA) (tuE φ3 σ3 (σ3 tA) (reE (fl tA) x0_0)) (if σ3 tA then eQ else φ3 tA) (tuE φ3 σ3 (σ3 tA) (reE (fl tA) x0_1)) (if σ3 tA then eQ else φ3 tA) (tuE φ3 σ3 (σ3 tA) (reE (fl tA) x0_2)) tQ (if σ3 tA then eQ else φ3 tA) (tuE φ3 σ3 (σ3 tA) (reE (fl tA) x1_0)) (if σ3 tA then eQ else φ3 tA) (tuE φ3 σ3 (σ3 tA) (reE (fl tA) x1_1)) (if σ3 tA then eQ else φ3 tA) (tuE φ3 σ3 (σ3 tA) (reE (fl tA) x1_2)) (if σ3 tA then eQ else φ3 tA) (tuE φ3 σ3 (σ3 tA) (reE (fl tA) w)) tQ (if σ3 tX then eQ else φ3 tX) (tuE φ3 σ3 (σ3 tX) (reE (fl tX) x0_0)) (if σ3 tX then eQ else φ3 tX) (tuE φ3 σ3 (σ3 tX) (reE (fl tX) x0_1)) (if σ3 tX then eQ else φ3 tX) (tuE φ3 σ3 (σ3 tX) (reE (fl tX) x0_2)) tQ (if σ3 tX then eQ else φ3 tX) (tuE φ3 σ3 (σ3 tX) (reE (fl tX) x1_0)) (if σ3 tX then eQ else φ3 tX) (tuE φ3 σ3 (σ3 tX) (reE (fl tX) x1_1)) (if σ3 tX then eQ else φ3 tX) (tuE φ3 σ3 (σ3 tX) (reE (fl tX) x1_2)) (if σ3 aS then eQ else φ3 aS) (tuE φ3 σ3 (σ3 aS) (reE (fl aS) w)) := by
  kernel_rfl
theorem aTp (n k : Nat) : aNW (Vs.turn φ4 (fun _ => false) [9] (fZ tQ tA (reE (fl tA) x0_0) tA (reE (fl tA) x0_1) tA (reE (fl tA) x0_2) tQ tA (reE (fl tA) x1_0) tA (reE (fl tA) x1_1) tA (reE (fl tA) x1_2) tA (reE (fl tA) w) tG (reE (fl tG) w))) 9 3 n k = wJ tQ (φ4 tA) (tuE φ4 (fun _ => false) false (reE (fl tA) x0_0)) (φ4 tA) (tuE φ4 (fun _ => false) false (reE (fl tA) x0_1)) (φ4 tA) (tuE φ4 (fun _ => false) false (reE (fl tA) x0_2)) tQ (φ4 tA) (tuE φ4 (fun _ => false) false (reE (fl tA) x1_0)) (φ4 tA) (tuE φ4 (fun _ => false) false (reE (fl tA) x1_1)) (φ4 tA) (tuE φ4 (fun _ => false) false (reE (fl tA) x1_2)) (φ4 tA) (tuE φ4 (fun _ => false) false (reE (fl tA) w)) n (List.replicate k .any) := by
  kernel_rfl
theorem aS4 : lW p2 ({ tmps := (((dD tQ tA (reE (fl tA) x0_0) tA (reE (fl tA) x0_1) tA (reE (fl tA) x0_2) tQ tA (reE (fl tA) x1_0) tA (reE (fl tA) x1_1) tA (reE (fl tA) x1_2) tA (reE (fl tA) w) tQ aS (reE (fl aS) x0_0) aS (reE (fl aS) x0_1) aS (reE (fl aS) x0_2) tQ aS (reE (fl aS) x1_0) aS (reE (fl aS) x1_1) aS (reE (fl aS) x1_2)).tmps.set 7 (.ptr 7 0)).set 8 (.ptr 8 0)), boxes := (((dD tQ tA (reE (fl tA) x0_0) tA (reE (fl tA) x0_1) tA (reE (fl tA) x0_2) tQ tA (reE (fl tA) x1_0) tA (reE (fl tA) x1_1) tA (reE (fl tA) x1_2) tA (reE (fl tA) w) tQ aS (reE (fl aS) x0_0) aS (reE (fl aS) x0_1) aS (reE (fl aS) x0_2) tQ aS (reE (fl aS) x1_0) aS (reE (fl aS) x1_1) aS (reE (fl aS) x1_2)).boxes.set 7 (some [.leaf (.sl aS (reE (fl aS) x0_0)), .leaf (.sl aS (reE (fl aS) x0_1)), .leaf (.sl aS (reE (fl aS) x0_2))])).set 8 (some [.leaf (.sl aS (reE (fl aS) x1_0)), .leaf (.sl aS (reE (fl aS) x1_1)), .leaf (.sl aS (reE (fl aS) x1_2))])) } : St true).boxes [] 0 ({ tmps := (((dD tQ tA (reE (fl tA) x0_0) tA (reE (fl tA) x0_1) tA (reE (fl tA) x0_2) tQ tA (reE (fl tA) x1_0) tA (reE (fl tA) x1_1) tA (reE (fl tA) x1_2) tA (reE (fl tA) w) tQ aS (reE (fl aS) x0_0) aS (reE (fl aS) x0_1) aS (reE (fl aS) x0_2) tQ aS (reE (fl aS) x1_0) aS (reE (fl aS) x1_1) aS (reE (fl aS) x1_2)).tmps.set 7 (.ptr 7 0)).set 8 (.ptr 8 0)), boxes := (((dD tQ tA (reE (fl tA) x0_0) tA (reE (fl tA) x0_1) tA (reE (fl tA) x0_2) tQ tA (reE (fl tA) x1_0) tA (reE (fl tA) x1_1) tA (reE (fl tA) x1_2) tA (reE (fl tA) w) tQ aS (reE (fl aS) x0_0) aS (reE (fl aS) x0_1) aS (reE (fl aS) x0_2) tQ aS (reE (fl aS) x1_0) aS (reE (fl aS) x1_1) aS (reE (fl aS) x1_2)).boxes.set 7 (some [.leaf (.sl aS (reE (fl aS) x0_0)), .leaf (.sl aS (reE (fl aS) x0_1)), .leaf (.sl aS (reE (fl aS) x0_2))])).set 8 (some [.leaf (.sl aS (reE (fl aS) x1_0)), .leaf (.sl aS (reE (fl aS) x1_1)), .leaf (.sl aS (reE (fl aS) x1_2))])) } : St true).tmps = true := by
  simp [lW, rI, aGU, bA, cN, asLeaf, dD, aFs, aBR, aRd, aAc (p := p2) (c := tA) rfl, aAc (p := p2) (c := aS) rfl, show p2 tA = true from rfl, show p2 aS = true from rfl]
theorem aS3 : lW p3 ({ tmps := (dE tQ tA (reE (fl tA) x0_0) tA (reE (fl tA) x0_1) tA (reE (fl tA) x0_2) tQ tA (reE (fl tA) x1_0) tA (reE (fl tA) x1_1) tA (reE (fl tA) x1_2) tA (reE (fl tA) w) tQ tX (reE (fl tX) x0_0) tX (reE (fl tX) x0_1) tX (reE (fl tX) x0_2) tQ tX (reE (fl tX) x1_0) tX (reE (fl tX) x1_1) tX (reE (fl tX) x1_2) aS (reE (fl aS) w)).tmps.set 9 (.own (some T.aVQ) (reE (fl aS) w)), boxes := (dE tQ tA (reE (fl tA) x0_0) tA (reE (fl tA) x0_1) tA (reE (fl tA) x0_2) tQ tA (reE (fl tA) x1_0) tA (reE (fl tA) x1_1) tA (reE (fl tA) x1_2) tA (reE (fl tA) w) tQ tX (reE (fl tX) x0_0) tX (reE (fl tX) x0_1) tX (reE (fl tX) x0_2) tQ tX (reE (fl tX) x1_0) tX (reE (fl tX) x1_1) tX (reE (fl tX) x1_2) aS (reE (fl aS) w)).boxes } : St true).boxes [] 0 ({ tmps := (dE tQ tA (reE (fl tA) x0_0) tA (reE (fl tA) x0_1) tA (reE (fl tA) x0_2) tQ tA (reE (fl tA) x1_0) tA (reE (fl tA) x1_1) tA (reE (fl tA) x1_2) tA (reE (fl tA) w) tQ tX (reE (fl tX) x0_0) tX (reE (fl tX) x0_1) tX (reE (fl tX) x0_2) tQ tX (reE (fl tX) x1_0) tX (reE (fl tX) x1_1) tX (reE (fl tX) x1_2) aS (reE (fl aS) w)).tmps.set 9 (.own (some T.aVQ) (reE (fl aS) w)), boxes := (dE tQ tA (reE (fl tA) x0_0) tA (reE (fl tA) x0_1) tA (reE (fl tA) x0_2) tQ tA (reE (fl tA) x1_0) tA (reE (fl tA) x1_1) tA (reE (fl tA) x1_2) tA (reE (fl tA) w) tQ tX (reE (fl tX) x0_0) tX (reE (fl tX) x0_1) tX (reE (fl tX) x0_2) tQ tX (reE (fl tX) x1_0) tX (reE (fl tX) x1_1) tX (reE (fl tX) x1_2) aS (reE (fl aS) w)).boxes } : St true).tmps = true := by
  simp [lW, rI, aGU, bA, dE, aFs, aBR, aRd, Fl.new, aAc (p := p3) (c := tA) rfl, aAc (p := p3) (c := tX) rfl, aAc (p := p3) (c := aS) rfl, show p3 tA = true from rfl, show p3 tX = true from rfl, show p3 aS = true from rfl]
theorem aTq : lW p4 (fZ tQ tA (reE (fl tA) x0_0) tA (reE (fl tA) x0_1) tA (reE (fl tA) x0_2) tQ tA (reE (fl tA) x1_0) tA (reE (fl tA) x1_1) tA (reE (fl tA) x1_2) tA (reE (fl tA) w) tG (reE (fl tG) w)).boxes [9] 0 (fZ tQ tA (reE (fl tA) x0_0) tA (reE (fl tA) x0_1) tA (reE (fl tA) x0_2) tQ tA (reE (fl tA) x1_0) tA (reE (fl tA) x1_1) tA (reE (fl tA) x1_2) tA (reE (fl tA) w) tG (reE (fl tG) w)).tmps = true := by
  simp [lW, rI, aGU, fZ, aFs, aBR, aRd, aAc (p := p4) (c := tA) rfl, show p4 tA = true from rfl]
theorem aTk (h : aOE x0_0 x0_1 x0_2 x1_0 x1_1 x1_2 w) {W w' : World} {act : Act} {A B : Nat} {w0 : World} {F2 F3 : Fr} {hB0 : B ≤ w0.heap.size} {Fx : Fr} {Ow : Own} {bm : Nat → Nat} (hA : W.heap.size ≤ A) (hAB : A ≤ B) (hB : B ≤ w'.heap.size)
    (on : kM Tryz.prog (uJ Tryz.prog F.aUo) W (N3 w0 A B F2 F3 hB0) (fZ tQ tA (reE (fl tA) x0_0) tA (reE (fl tA) x0_1) tA (reE (fl tA) x0_2) tQ tA (reE (fl tA) x1_0) tA (reE (fl tA) x1_1) tA (reE (fl tA) x1_2) tA (reE (fl tA) w) tG (reE (fl tG) w)) act w' Fx Ow bm) :
    (sub body (way 17)).wp Tryz.prog (bodyPost Tryz.prog (uJ Tryz.prog F.aUo) (aID W)) act w' := by
  by_cases hw : w = []
  · have eqw0 := h.eqw
    have im0 := h.imp
    have mkn : ∀ (c : Fl true) (k : Int), Dd F.aUs [.leaf (.sl c []), .leaf (.int .i64 k)] [] = some (.leaf (.int .i64 k), []) := fun c k => rR rfl (aBJ k) (by simp [reS, reF, reE]) rfl rfl
    have hdn : ∀ (c : Fl true) (k : Int), Dd F.aUm [.leaf (.sl c []), .leaf (.int .i64 k)] [] = some (.leaf (.int .i64 k), []) := fun c k => rR rfl (aBE k) (by simp [reS, reF, reE]) rfl rfl
    rw [hw] at on
    simp only [hw, reE] at eqw0 im0
    refine aG3 (H := Hs) hP wI hfn hc0 spD nlD on fun J => ?_
    simp only [reE]
    rw [aFl]
    simp -implicitDefEqProofs only [mkn, hdn, Option.bind_some, aV, pI, dQ, fI, bL, cF, cA, aY, bQ, dK, List.length_cons, List.length_nil, beq_self_eq_true, aD, h.to0, h.to1, im0, eqw0, show decide ((1 : Int) < 0) = false from rfl, aG, bne_self_eq_false, Bool.not_true, nK]
  · have hpos : 0 < w.length := List.length_pos_iff.2 hw
    have hez : ∀ e ∈ reE (fl tG) w, e.length = 3 := kF fun e he => (h.wq e he).len
    obtain ⟨k, F', Ow', bm', R, hk, on'⟩ := aTJ on hA hB hAB [9] (t := 9) (of_decide_eq_true (by kernel_rfl)) (of_decide_eq_true (by kernel_rfl)) (es := reE (fl tG) w) (z := 3) rfl (by rw [cH]; exact hpos) hez aTq
    rw [aTp] at on'
    simp only [aDe (φ := φ4) (σ := fun _ => false) (c := tA) rfl, show φ4 tA = tA from rfl, cH] at on'
    rw [cH] at hk
    refine aG3 (H := Hs) hP wI hfn hc0 spD nlD on' fun J => ?_
    have hm := aKc (k := k) h.wl hk
    have hd := aJ2 (n := w.length) (k := k) h.wl
    have hf1 : ([List.replicate k (SV.any (m := true))].all fun (x : List (SV true)) => x.all SV.flat) = true := by
      simp only [List.all_cons, List.all_nil, Bool.and_true]
      rw [List.all_eq_true]; intro x hx; rw [List.eq_of_mem_replicate hx]; rfl
    have hf2 : ([(aK6 w.length k).map (reS li)].all fun (x : List (SV true)) => x.all SV.flat) = true := by
      simp only [List.all_cons, List.all_nil, Bool.and_true]
      exact aRm (aJl _ _)
    have he : ¬ gN w.length 1 < 0 := by
      have := aHb w.length 1 (by omega) (by have := h.wc; simp only [cap] at *; omega)
      omega
    rw [aDJ]
    simp -implicitDefEqProofs only [hf1, hm, hd, Option.bind_some, aV, pI, dQ, fI, bL, cF, cA, aY, bQ, dK, List.length_cons, List.length_nil, beq_self_eq_true, aD, sB, nK, hf2, h.to0, h.to1, h.imp, h.eqw, he, decide_false, aG, bne_self_eq_false, Bool.not_true]
theorem aS8 (h : aOE x0_0 x0_1 x0_2 x1_0 x1_1 x1_2 w) {W w' : World} {act : Act} {A B : Nat} {F2 : Fr} {Fx : Fr} {Ow : Own} {bm : Nat → Nat} (hA : W.heap.size ≤ A) (hAB : A ≤ B) (hB : B ≤ w'.heap.size)
    (on : kM Tryz.prog (uJ Tryz.prog F.aUo) W (N2 A B F2) ({ tmps := (dE tQ tA (reE (fl tA) x0_0) tA (reE (fl tA) x0_1) tA (reE (fl tA) x0_2) tQ tA (reE (fl tA) x1_0) tA (reE (fl tA) x1_1) tA (reE (fl tA) x1_2) tA (reE (fl tA) w) tQ tX (reE (fl tX) x0_0) tX (reE (fl tX) x0_1) tX (reE (fl tX) x0_2) tQ tX (reE (fl tX) x1_0) tX (reE (fl tX) x1_1) tX (reE (fl tX) x1_2) aS (reE (fl aS) w)).tmps.set 9 (.own (some T.aVQ) (reE (fl aS) w)), boxes := (dE tQ tA (reE (fl tA) x0_0) tA (reE (fl tA) x0_1) tA (reE (fl tA) x0_2) tQ tA (reE (fl tA) x1_0) tA (reE (fl tA) x1_1) tA (reE (fl tA) x1_2) tA (reE (fl tA) w) tQ tX (reE (fl tX) x0_0) tX (reE (fl tX) x0_1) tX (reE (fl tX) x0_2) tQ tX (reE (fl tX) x1_0) tX (reE (fl tX) x1_1) tX (reE (fl tX) x1_2) aS (reE (fl aS) w)).boxes } : St true) act w' Fx Ow bm) :
    (sub body (way 13)).wp Tryz.prog (bodyPost Tryz.prog (uJ Tryz.prog F.aUo) (aID W)) act w' := by
  have on' := aTD on hA hB hAB [] aS3
  rw [aRZ] at on'
  simp only [show σ3 tA = false from rfl, show σ3 tX = true from rfl, show σ3 aS = false from rfl, aDe (φ := φ3) (σ := σ3) (c := tA) rfl, aDe (φ := φ3) (σ := σ3) (c := aS) rfl, aPG (φ := φ3) (σ := σ3) (c := tX) rfl, Bool.false_eq_true, if_false, if_true, show φ3 tA = tA from rfl, show φ3 aS = tG from rfl] at on'
  refine aKl (H := Hs) (s1 := fZ tQ tA (reE (fl tA) x0_0) tA (reE (fl tA) x0_1) tA (reE (fl tA) x0_2) tQ tA (reE (fl tA) x1_0) tA (reE (fl tA) x1_1) tA (reE (fl tA) x1_2) tA (reE (fl tA) w) tG (reE (fl tG) w)) hP wI hfn hc0 spD on' (fun J => ?_) fun a' w2 F' Ow' bm' on2 far => ?_
  · rw [aFp]
    simp -implicitDefEqProofs only [h.mk0, h.mk1, Option.bind_some, aV, pI, dQ, fI, bL, cF, cA, aY, bQ, dK, List.length_cons, List.length_nil, beq_self_eq_true, aD, decide_eq_false h.mn, aF, h.eqw, Bool.not_true, aG]
    rfl
  · exact aTk h hA hAB (Nat.le_trans hB far.size) on2
theorem aSZ (h : aOE x0_0 x0_1 x0_2 x1_0 x1_1 x1_2 w) {W w' : World} {act : Act} {A : Nat} {Fx : Fr} {Ow : Own} {bm : Nat → Nat} (hA : W.heap.size ≤ A) (hB : A ≤ w'.heap.size)
    (on : kM Tryz.prog (uJ Tryz.prog F.aUo) W (N1 A) ({ tmps := (((dD tQ tA (reE (fl tA) x0_0) tA (reE (fl tA) x0_1) tA (reE (fl tA) x0_2) tQ tA (reE (fl tA) x1_0) tA (reE (fl tA) x1_1) tA (reE (fl tA) x1_2) tA (reE (fl tA) w) tQ aS (reE (fl aS) x0_0) aS (reE (fl aS) x0_1) aS (reE (fl aS) x0_2) tQ aS (reE (fl aS) x1_0) aS (reE (fl aS) x1_1) aS (reE (fl aS) x1_2)).tmps.set 7 (.ptr 7 0)).set 8 (.ptr 8 0)), boxes := (((dD tQ tA (reE (fl tA) x0_0) tA (reE (fl tA) x0_1) tA (reE (fl tA) x0_2) tQ tA (reE (fl tA) x1_0) tA (reE (fl tA) x1_1) tA (reE (fl tA) x1_2) tA (reE (fl tA) w) tQ aS (reE (fl aS) x0_0) aS (reE (fl aS) x0_1) aS (reE (fl aS) x0_2) tQ aS (reE (fl aS) x1_0) aS (reE (fl aS) x1_1) aS (reE (fl aS) x1_2)).boxes.set 7 (some [.leaf (.sl aS (reE (fl aS) x0_0)), .leaf (.sl aS (reE (fl aS) x0_1)), .leaf (.sl aS (reE (fl aS) x0_2))])).set 8 (some [.leaf (.sl aS (reE (fl aS) x1_0)), .leaf (.sl aS (reE (fl aS) x1_1)), .leaf (.sl aS (reE (fl aS) x1_2))])) } : St true) act w' Fx Ow bm) :
    (sub body (way 9)).wp Tryz.prog (bodyPost Tryz.prog (uJ Tryz.prog F.aUo) (aID W)) act w' := by
  have on' := aTL on [] aS4
  rw [aR7] at on'
  simp only [aDe (φ := φ2) (σ := fun _ => false) (c := tA) rfl, aDe (φ := φ2) (σ := fun _ => false) (c := aS) rfl, show φ2 tA = tA from rfl, show φ2 aS = tX from rfl] at on'
  refine aKl (H := Hs) (s1 := { tmps := (dE tQ tA (reE (fl tA) x0_0) tA (reE (fl tA) x0_1) tA (reE (fl tA) x0_2) tQ tA (reE (fl tA) x1_0) tA (reE (fl tA) x1_1) tA (reE (fl tA) x1_2) tA (reE (fl tA) w) tQ tX (reE (fl tX) x0_0) tX (reE (fl tX) x0_1) tX (reE (fl tX) x0_2) tQ tX (reE (fl tX) x1_0) tX (reE (fl tX) x1_1) tX (reE (fl tX) x1_2) aS (reE (fl aS) w)).tmps.set 9 (.own (some T.aVQ) (reE (fl aS) w)), boxes := (dE tQ tA (reE (fl tA) x0_0) tA (reE (fl tA) x0_1) tA (reE (fl tA) x0_2) tQ tA (reE (fl tA) x1_0) tA (reE (fl tA) x1_1) tA (reE (fl tA) x1_2) tA (reE (fl tA) w) tQ tX (reE (fl tX) x0_0) tX (reE (fl tX) x0_1) tX (reE (fl tX) x0_2) tQ tX (reE (fl tX) x1_0) tX (reE (fl tX) x1_1) tX (reE (fl tX) x1_2) aS (reE (fl aS) w)).boxes }) hP wI hfn hc0 spC on' (fun J => ?_) fun a' w2 F' Ow' bm' on2 far => ?_
  · rw [aFo]
    simp -implicitDefEqProofs only [h.to0, h.to1, h.imp, h.eq0, h.eq1, Option.bind_some, aV, pI, dQ, fI, bL, cF, cA, aY, bQ, dK, List.length_cons, List.length_nil, beq_self_eq_true, aD, h.eqw, Bool.not_true, aG]
    rfl
  · exact aS8 h hA hB far.size on2
theorem aTj (h : aOE x0_0 x0_1 x0_2 x1_0 x1_1 x1_2 w) {W w' : World} {act : Act} {A : Nat} {Fx : Fr} {Ow : Own} {bm : Nat → Nat} (hA : W.heap.size ≤ A) (hB : A ≤ w'.heap.size)
    (on : kM Tryz.prog (uJ Tryz.prog F.aUo) W (N1 A) (fV tQ tA (reE (fl tA) x0_0) tA (reE (fl tA) x0_1) tA (reE (fl tA) x0_2) tQ tA (reE (fl tA) x1_0) tA (reE (fl tA) x1_1) tA (reE (fl tA) x1_2) tA (reE (fl tA) w)) act w' Fx Ow bm) :
    (sub body (way 7)).wp Tryz.prog (bodyPost Tryz.prog (uJ Tryz.prog F.aUo) (aID W)) act w' := by
  refine aKl (H := Hs) (s1 := { tmps := (((dD tQ tA (reE (fl tA) x0_0) tA (reE (fl tA) x0_1) tA (reE (fl tA) x0_2) tQ tA (reE (fl tA) x1_0) tA (reE (fl tA) x1_1) tA (reE (fl tA) x1_2) tA (reE (fl tA) w) tQ aS (reE (fl aS) x0_0) aS (reE (fl aS) x0_1) aS (reE (fl aS) x0_2) tQ aS (reE (fl aS) x1_0) aS (reE (fl aS) x1_1) aS (reE (fl aS) x1_2)).tmps.set 7 (.ptr 7 0)).set 8 (.ptr 8 0)), boxes := (((dD tQ tA (reE (fl tA) x0_0) tA (reE (fl tA) x0_1) tA (reE (fl tA) x0_2) tQ tA (reE (fl tA) x1_0) tA (reE (fl tA) x1_1) tA (reE (fl tA) x1_2) tA (reE (fl tA) w) tQ aS (reE (fl aS) x0_0) aS (reE (fl aS) x0_1) aS (reE (fl aS) x0_2) tQ aS (reE (fl aS) x1_0) aS (reE (fl aS) x1_1) aS (reE (fl aS) x1_2)).boxes.set 7 (some [.leaf (.sl aS (reE (fl aS) x0_0)), .leaf (.sl aS (reE (fl aS) x0_1)), .leaf (.sl aS (reE (fl aS) x0_2))])).set 8 (some [.leaf (.sl aS (reE (fl aS) x1_0)), .leaf (.sl aS (reE (fl aS) x1_1)), .leaf (.sl aS (reE (fl aS) x1_2))])) }) hP wI hfn hc0 spB on (fun J => ?_) fun a' w2 F' Ow' bm' on2 far => ?_
  · rw [aEN]
    simp -implicitDefEqProofs only [h.to0, h.to1, Option.bind_some, aV, pI, dQ, fI, bL, cF, cA, aY, bQ, dK, List.length_cons, List.length_nil, beq_self_eq_true, aD]
    rfl
  · exact aSZ h hA (Nat.le_trans hB far.size) on2
theorem aTn (sz0 : ∀ (c : Fl true) (n : Int), 0 ≤ n → Dd F.aVa [.agg [.sl c (reE (fl c) x0_0), .sl c (reE (fl c) x0_1), .sl c (reE (fl c) x0_2)], .leaf (.int .i64 n)] [] = some (.leaf (.int .i64 (szL [.sl fP x0_0, .sl fP x0_1, .sl fP x0_2] n)), [])) (sz1 : ∀ (c : Fl true) (n : Int), 0 ≤ n → Dd F.aVa [.agg [.sl c (reE (fl c) x1_0), .sl c (reE (fl c) x1_1), .sl c (reE (fl c) x1_2)], .leaf (.int .i64 n)] [] = some (.leaf (.int .i64 (szL [.sl fP x1_0, .sl fP x1_1, .sl fP x1_2] n)), [])) (fits : 0 ≤ szL [.sl fP x0_0, .sl fP x0_1, .sl fP x0_2] 1048576 → 0 ≤ szL [.sl fP x1_0, .sl fP x1_1, .sl fP x1_2] (szL [.sl fP x0_0, .sl fP x0_1, .sl fP x0_2] 1048576) → aOE x0_0 x0_1 x0_2 x1_0 x1_1 x1_2 w) {W : World} {act : Act} {Fx : Fr} {Ow : Own} {bm : Nat → Nat}
    (on : kM Tryz.prog (uJ Tryz.prog F.aUo) W (N0 W) (qT cG (reE (fl cG) x0_0) cG (reE (fl cG) x0_1) cG (reE (fl cG) x0_2) cG (reE (fl cG) x1_0) cG (reE (fl cG) x1_1) cG (reE (fl cG) x1_2)) act W Fx Ow bm) :
    (sub body (way 0)).wp Tryz.prog (bodyPost Tryz.prog (uJ Tryz.prog F.aUo) (aID W)) act W := by
  by_cases hn0 : szL [.sl fP x0_0, .sl fP x0_1, .sl fP x0_2] 1048576 < 0
  · refine aHR (H := Hs) hP wI hfn hc0 spA on fun J => ?_
    rw [qR]
    simp -implicitDefEqProofs only [sz0 cG 1048576 (by omega), Option.bind_some, aV, pI, dQ, fI, bL, cF, cA, aY, bQ, dK, List.length_cons, List.length_nil, beq_self_eq_true, aD, decide_eq_true hn0, aF, aG]
  · by_cases hn1 : szL [.sl fP x1_0, .sl fP x1_1, .sl fP x1_2] (szL [.sl fP x0_0, .sl fP x0_1, .sl fP x0_2] 1048576) < 0
    · refine aHR (H := Hs) hP wI hfn hc0 spA on fun J => ?_
      rw [qR]
      simp -implicitDefEqProofs only [sz0 cG 1048576 (by omega), sz1 cG (szL [.sl fP x0_0, .sl fP x0_1, .sl fP x0_2] 1048576) (by omega), Option.bind_some, aV, pI, dQ, fI, bL, cF, cA, aY, bQ, dK, List.length_cons, List.length_nil, beq_self_eq_true, aD, decide_eq_false hn0, decide_eq_true hn1, aF, aG]
    · have h := fits (by omega) (by omega)
      refine aKl (H := Hs) (s1 := { tmps := ((((fV tQ cG (reE (fl cG) x0_0) cG (reE (fl cG) x0_1) cG (reE (fl cG) x0_2) tQ cG (reE (fl cG) x1_0) cG (reE (fl cG) x1_1) cG (reE (fl cG) x1_2) cG (reE (fl cG) w)).tmps.set 2 (.ptr 2 0)).set 3 (.ptr 3 0)).set 6 (.own (some T.aVQ) (reE (fl cG) w))), boxes := (((fV tQ cG (reE (fl cG) x0_0) cG (reE (fl cG) x0_1) cG (reE (fl cG) x0_2) tQ cG (reE (fl cG) x1_0) cG (reE (fl cG) x1_1) cG (reE (fl cG) x1_2) cG (reE (fl cG) w)).boxes.set 2 (some [.leaf (.sl cG (reE (fl cG) x0_0)), .leaf (.sl cG (reE (fl cG) x0_1)), .leaf (.sl cG (reE (fl cG) x0_2))])).set 3 (some [.leaf (.sl cG (reE (fl cG) x1_0)), .leaf (.sl cG (reE (fl cG) x1_1)), .leaf (.sl cG (reE (fl cG) x1_2))])) }) hP wI hfn hc0 spA on (fun J => ?_) fun a' w2 F' Ow' bm' on2 far => ?_
      · rw [qR]
        simp -implicitDefEqProofs only [sz0 cG 1048576 (by omega), sz1 cG (szL [.sl fP x0_0, .sl fP x0_1, .sl fP x0_2] 1048576) (by omega), Option.bind_some, aV, pI, dQ, fI, bL, cF, cA, aY, bQ, dK, List.length_cons, List.length_nil, beq_self_eq_true, aD, decide_eq_false hn0, decide_eq_false hn1, aF, aG, h.to0, h.to1, h.spc]
        rfl
      · have on3 := aTI on2 (fun _ => rfl) []
        rw [aRJ] at on3
        simp only [aDe (φ := φ1) (σ := fun _ => false) (c := cG) rfl, show φ1 cG = tA from rfl, show φ1 aS = tA from rfl] at on3
        exact aTj h far.size (Nat.le_refl _) on3
end
end Go.Vs
end
section
open Go Go.Vs Go.Proofs
set_option linter.unusedVariables false
set_option linter.unusedSimpArgs false
namespace Go.Vs
theorem tl (s : ByteArray) : s.toList = s.data.toList := by first | exact ByteArray.toList_eq s | exact Go.ByteArray.toList_eq s
end Go.Vs
end
section
open Go Go.Vs Go.Proofs
set_option linter.unusedVariables false
set_option linter.unusedSimpArgs false
namespace Go.Vs
end Go.Vs
end
section
open Go Go.Vs Go.Proofs
set_option linter.unusedVariables false
set_option linter.unusedSimpArgs false
namespace Go.Vs
def uB (s : cT) (n : ByteArray) : Int := if s.a0.length > 60 then -1 else lB (at3 n) 0 s.a0
theorem aEE {s : cT} {n : ByteArray} (hs : bX s.l) (h : ¬ uB s n < 0) : ∃ (j : Nat) (hj : j < s.a0.length) (y : aE), uB s n = (j : Int) ∧ s.a0[j] = y.l ∧ dV y.l := by
  unfold uB at h ⊢
  split at h
  · omega
  · rename_i h60
    obtain ⟨j, hj, hi, _⟩ := aHZ h
    obtain ⟨y, hy, iy⟩ := (hs.p.2.1 _ (List.getElem_mem hj)).st
    exact ⟨j, hj, y, by rw [if_neg h60, hi], hy, iy⟩
def aHN : aE := ⟨0, false, nul, nul, [], [], [], [], [], false, []⟩
theorem aQo : dV aHN.l := show dV [.int .i64 0, .bool false, .str nul, .str nul, .sl fP [], .sl fP [], .sl fP [], .sl fP [], .sl fP [], .bool false, .sl fP []] from
  .mk 0 false nul nul [] [] [] [] [] false [] (by decide) (by decide) (by decide) (fun _ h => by cases h) (by decide) (fun _ h => by cases h) (by decide) (fun _ h => by cases h) (by decide) (fun _ h => by cases h) (by decide) (fun _ h => by cases h) (by decide) (fun _ h => by cases h)
def aMD (s : cT) (n : ByteArray) : aE := if uB s n < 0 then aHN else .of (s.a0.getD (uB s n).toNat [])
theorem aHf {s : cT} {n : ByteArray} {j : Nat} {hj : j < s.a0.length} {y : aE} (hi : uB s n = (j : Int)) (hy : s.a0[j] = y.l) : aMD s n = y := by
  unfold aMD
  rw [hi, if_neg (by omega), Int.toNat_natCast, bI hj, hy]
  rfl
section
variable {s : cT} {n a b : ByteArray}
theorem aFu (hs : bX s.l) : Dn F.aVS [.agg s.l, .leaf (.str n)] [] = some (aJ (uB s n), []) := by
  obtain ⟨hl, hq, _⟩ := hs.p
  refine bH ?_
  rw [aJ5]
  unfold uB
  by_cases h60 : s.a0.length > 60
  · rw [if_pos h60, uV]
    simp -implicitDefEqProofs only [uM, bT, show ((s.a0.length : Int) ≤ 60) = False by simp; omega, decide_false, aG, aJt]
  · rw [if_neg h60]
    have h6 : ((s.a0.length : Nat) : Int) ≤ 60 := by omega
    refine aDf (es := s.a0) (A := fun i => eU Dn (vE n i s)) (by rw [uV]; simp [uM]) fun i hi => ?_
    obtain ⟨x, hx, _⟩ := (hq _ (List.getElem_mem hi)).st
    rw [uV]
    simp -implicitDefEqProofs only [inI, hi, h6, bT, uM, bB (Nat.lt_of_lt_of_le hi hl), aR (fun e he => (hq e he).len), bI hi, hx, atP]
    rfl
theorem aFW (hs : bX s.l) : Dn F.aVW [.agg s.l, .leaf (.str n)] [] = some (aJ (uB s n), []) := by
  obtain ⟨hl, hq, _⟩ := hs.p
  have key : Dn F.aT4 [vsl s.a0, .fn F.aVx [.ptr 0 0]] [[.leaf (.str n)]] = some (aJ (lB (at3 n) 0 s.a0), [[.leaf (.str n)]]) := by
    refine bH ?_
    rw [gR]
    refine aDf (es := s.a0) (A := fun i => bR Dn (cZ s.a0 F.aVx s.a0.length i n)) (by rw [dJ]; simp) fun i hi => ?_
    obtain ⟨x, hx, _⟩ := (hq _ (List.getElem_mem hi)).st
    have hc : Dn F.aVx [.agg x.l, .ptr 0 0] [[.leaf (.str n)]] = some (aP (x.a3.toList == n.toList), [[.leaf (.str n)]]) := bH (aBc ..)
    rw [dJ]
    simp -implicitDefEqProofs only [inI, hi, bB (Nat.lt_of_lt_of_le hi hl), aR (fun e he => (hq e he).len), bI hi, hx, aE.rd_l, hc, aMI]
    rfl
  have k2 : Dn F.aV8 [vsl s.a0, .leaf (.str n)] [] = some (aJ (uB s n), []) := by
    refine bH ?_
    rw [aCW, key, aN1, bZ]
    unfold uB
    by_cases h60 : s.a0.length > 60
    · rw [if_pos h60, if_pos (by simp; omega)]
    · rw [if_neg h60, if_neg (by simp; omega)]
  refine bH ?_
  rw [aJR, k2, yD]
theorem aKR (hs : bX s.l) : Dn F.aVm [.agg s.l, .leaf (.str n)] [] = some (.tup [.agg (aMD s n).l, aP (!decide (uB s n < 0))], []) := by
  refine bH ?_
  rw [aIU, aFW hs, yD]
  by_cases h : uB s n < 0
  · have : aMD s n = aHN := by unfold aMD; rw [if_pos h]
    rw [this]
    simp -implicitDefEqProofs only [h, decide_true, aF]
    rfl
  · obtain ⟨j, hj, y, hi, hy, iy⟩ := aEE hs h
    have hn : ¬ ((j : Int) < 0) := by omega
    rw [aHf hi hy, hi]
    simp -implicitDefEqProofs only [hn, decide_false, aG, inI, hj, aR (fun e he => (hs.p.2.1 e he).len), bI hj, hy, aE.rd_l]
    rfl
end
end Go.Vs
end
section
open Go Go.Vs Go.Proofs
set_option linter.unusedVariables false
set_option linter.unusedSimpArgs false
namespace Go.Vs
def tU (x : aE) : Bool := decide ((x.a4.length : Int) > 100) || (decide ((x.a5.length : Int) > 100) || (decide ((x.a6.length : Int) > 100) || (decide ((x.a7.length : Int) > 100) || x.a5.any fun f => decide (((slAt f 2).length : Int) > 100))))
theorem aOu {x : aE} (h : tU x = false) : x.a4.length ≤ 100 ∧ x.a5.length ≤ 100 ∧ x.a6.length ≤ 100 ∧ x.a7.length ≤ 100 ∧ ∀ f ∈ x.a5, (slAt f 2).length ≤ 100 := by
  unfold tU at h
  simp -implicitDefEqProofs only [Bool.or_eq_false_iff, decide_eq_false_iff_not, List.any_eq_false, decide_eq_true_eq] at h
  obtain ⟨h1, h2, h3, h4, h5⟩ := h
  exact ⟨by omega, by omega, by omega, by omega, fun f hf => by have := h5 f hf; omega⟩
theorem aFI {x : aE} (hx : dV x.l) : Dn F.aVO [.agg x.l] [] = some (aP (tU x), []) := by
  obtain ⟨_, _, _, _, hl, hq, _⟩ := hx.p
  refine bH ?_
  rw [aJ7]
  have := aKZ (es := x.a5) (p := fun f => decide (((slAt f 2).length : Int) > 100)) (A := fun i => kR Dn (vK i x)) (yes := some (aP true, []))
    (no := some (aP (decide ((x.a4.length : Int) > 100) || (decide ((x.a5.length : Int) > 100) || (decide ((x.a6.length : Int) > 100) || decide ((x.a7.length : Int) > 100)))), [])) (by
      rw [aBi]
      simp -implicitDefEqProofs only [Int.lt_irrefl, decide_false, aG, bF, aBP]
      cases decide ((x.a4.length : Int) > 100) <;> cases decide ((x.a5.length : Int) > 100) <;> cases decide ((x.a6.length : Int) > 100) <;> rfl) fun i hi => by
    obtain ⟨y, hy, _⟩ := (hq _ (List.getElem_mem hi)).st
    rw [aBi]
    simp -implicitDefEqProofs only [inI, hi, bB (Nat.lt_of_lt_of_le hi hl), aR (fun e he => (hq e he).len), bI hi, hy, atP]
    rfl
  rw [this]
  unfold tU
  cases hb : x.a5.any fun f => decide (((slAt f 2).length : Int) > 100)
  · simp -implicitDefEqProofs only [Bool.false_eq_true, if_false, Bool.or_false]
  · simp -implicitDefEqProofs only [if_true, Bool.or_true]
theorem aKx {x : aE} (hx : dV x.l) : Dn F.aVn [.agg x.l] [] = some (aP (tU x), []) := by
  obtain ⟨_, _, _, _, hl, hq, _⟩ := hx.p
  have key : Dn F.aT1 [vsl x.a5, .fn F.aUY []] [] = some (aJ (lB (fun f => decide (((slAt f 2).length : Int) > 100)) 0 x.a5), []) := by
    refine bH ?_
    rw [kB]
    refine aDf (es := x.a5) (A := fun i => bN Dn (dA x.a5 F.aUY x.a5.length i)) (by rw [eR]; simp) fun i hi => ?_
    obtain ⟨y, hy, _⟩ := (hq _ (List.getElem_mem hi)).st
    have hc : Dn F.aUY [.agg y.l] [] = some (aP (decide ((y.a2.length : Int) > 100)), []) := bH (aGB ..)
    rw [eR]
    simp -implicitDefEqProofs only [inI, hi, bB (Nat.lt_of_lt_of_le hi hl), aR (fun e he => (hq e he).len), bI hi, hy, cQ.rd_l, hc, aED]
    rfl
  have k2 : Dn F.aT0 [vsl x.a5, .fn F.aUY []] [] = some (aP (x.a5.any fun f => decide (((slAt f 2).length : Int) > 100)), []) := by
    refine bH ?_
    rw [jR, key, aOi, aDT _ _ _ (by omega)]
  refine bH ?_
  rw [aIo]
  unfold tU
  simp -implicitDefEqProofs only [aHh, k2, aED, bF, aBP]
  cases decide ((x.a4.length : Int) > 100) <;> cases decide ((x.a5.length : Int) > 100) <;> cases decide ((x.a6.length : Int) > 100) <;> cases decide ((x.a7.length : Int) > 100) <;> rfl
end Go.Vs
end
section
open Go Go.Vs Go.Proofs
set_option linter.unusedVariables false
set_option linter.unusedSimpArgs false
namespace Go.Vs
section
variable {s : cT}
def opW (k : Int) : ByteArray := if (k == 1) = true then ByteArray.mk #[113, 117, 101, 114, 121] else if (k == 2) = true then ByteArray.mk #[109, 117, 116, 97, 116, 105, 111, 110] else if (k == 3) = true then ByteArray.mk #[115, 117, 98, 115, 99, 114, 105, 112, 116, 105, 111, 110] else ByteArray.mk #[]
theorem aFF {k : Int} : Dn F.aVD [aJ k] [] = some (.leaf (.str (opW k)), []) := by
  refine bH ?_
  rw [aJW]
  unfold opW
  simp -implicitDefEqProofs only [bZ]
  cases (k == 1) <;> cases (k == 2) <;> cases (k == 3) <;> rfl
theorem aFC {k : Int} : Dn F.aVG [aJ k] [] = some (.leaf (.str (opW k)), []) := by
  have hi : Dn F.aWk [aJ k, aJ 1, aJ 3] [] = some (aP (decide (1 ≤ k) && decide (k ≤ 3)), []) := by
    refine bH ?_
    rw [aNZ]
    simp -implicitDefEqProofs only [bT]
    by_cases h : 1 ≤ k
    · simp [h]
    · simp [h]
  refine bH ?_
  rw [aKf, hi, qV]
  by_cases h : 1 ≤ k ∧ k ≤ 3
  · have hk : k = 1 ∨ k = 2 ∨ k = 3 := by omega
    rcases hk with rfl | rfl | rfl <;> rfl
  · have hb : (decide (1 ≤ k) && decide (k ≤ 3)) = false := by
      rw [Bool.and_eq_false_iff, decide_eq_false_iff_not, decide_eq_false_iff_not]; omega
    have h1 : (k == 1) = false := by rw [beq_eq_false_iff_ne]; omega
    have h2 : (k == 2) = false := by rw [beq_eq_false_iff_ne]; omega
    have h3 : (k == 3) = false := by rw [beq_eq_false_iff_ne]; omega
    rw [hb, Bool.not_false, aF]
    unfold opW
    rw [h1, h2, h3]
    rfl
def atI (k : Int) (e : El) : Bool := intAt e 0 == k
def tB (s : cT) (k : Int) : ByteArray := if lB (atI k) 0 s.a2 < 0 then ByteArray.mk #[] else bC (s.a2.getD (lB (atI k) 0 s.a2).toNat []) 1
theorem aFy {k : Int} (hs : bX s.l) : Dn F.aVH [.agg s.l, aJ k] [] = some (.leaf (.str (tB s k)), []) := by
  obtain ⟨_, _, _, _, hl, hq⟩ := hs.p
  refine bH ?_
  rw [aJ4]
  have := uU (es := s.a2) (p := atI k) (A := fun i => kO Dn (vG k i s)) (yes := fun i => some (.leaf (.str (bC (s.a2.getD i.toNat []) 1)), [])) (no := some (.leaf (.str (ByteArray.mk #[])), []))
    (by rw [aBb]; simp) fun i hi => by
      obtain ⟨y, hy, _⟩ := (hq _ (List.getElem_mem hi)).st
      have hw := bB (Nat.lt_of_lt_of_le hi hl)
      rw [aBb]
      simp -implicitDefEqProofs only [inI, hi, aR (fun e he => (hq e he).len), bI hi, hy, atP, hw]
      rfl
  rw [this]
  unfold tB
  split <;> rfl
theorem aFG {k : Int} (hs : bX s.l) : Dn F.aVU [.agg s.l, aJ k] [] = some (.leaf (.str (tB s k)), []) := by
  obtain ⟨_, _, _, _, hl, hq⟩ := hs.p
  refine bH ?_
  rw [aJV]
  have := uU (es := s.a2) (p := atI k) (A := fun i => kN Dn (vB k s.a2 s.a2.length i)) (yes := fun i => some (.leaf (.str (bC (s.a2.getD i.toNat []) 1)), [])) (no := some (.leaf (.str (ByteArray.mk #[])), []))
    (by rw [aA7]; simp) fun i hi => by
      obtain ⟨y, hy, _⟩ := (hq _ (List.getElem_mem hi)).st
      have hw := bB (Nat.lt_of_lt_of_le hi hl)
      rw [aA7]
      simp -implicitDefEqProofs only [inI, hi, aR (fun e he => (hq e he).len), bI hi, hy, sR.rd_l, hw]
      rfl
  rw [this]
  unfold tB
  split <;> rfl
end
end Go.Vs
end
section
open Go Go.Vs Go.Proofs
set_option linter.unusedVariables false
set_option linter.unusedSimpArgs false
namespace Go.Vs
def sZ (es : List El) (n : ByteArray) : Int := if es.length > 60 then -1 else lB (at3 n) 0 es
theorem aHT {es : List El} {n : ByteArray} (hl : es.length ≤ maxLen) (hq : ∀ e ∈ es, dV e) : Dn F.aV8 [vsl es, .leaf (.str n)] [] = some (aJ (sZ es n), []) := by
  have key : Dn F.aT4 [vsl es, .fn F.aVx [.ptr 0 0]] [[.leaf (.str n)]] = some (aJ (lB (at3 n) 0 es), [[.leaf (.str n)]]) := by
    refine bH ?_
    rw [gR]
    refine aDf (es := es) (A := fun i => bR Dn (cZ es F.aVx es.length i n)) (by rw [dJ]; simp) fun i hi => ?_
    obtain ⟨x, hx, _⟩ := (hq _ (List.getElem_mem hi)).st
    have hc : Dn F.aVx [.agg x.l, .ptr 0 0] [[.leaf (.str n)]] = some (aP (x.a3.toList == n.toList), [[.leaf (.str n)]]) := bH (aBc ..)
    rw [dJ]
    simp -implicitDefEqProofs only [inI, hi, bB (Nat.lt_of_lt_of_le hi hl), aR (fun e he => (hq e he).len), bI hi, hx, aE.rd_l, hc, aMI]
    rfl
  refine bH ?_
  rw [aCW, key, aN1, bZ]
  unfold sZ
  by_cases h60 : es.length > 60
  · rw [if_pos h60, if_pos (by simp; omega)]
  · rw [if_neg h60, if_neg (by simp; omega)]
def aRX : List El := [[.str (ByteArray.mk #[70, 73, 69, 76, 68])], [.str (ByteArray.mk #[70, 82, 65, 71, 77, 69, 78, 84, 95, 83, 80, 82, 69, 65, 68])], [.str (ByteArray.mk #[73, 78, 76, 73, 78, 69, 95, 70, 82, 65, 71, 77, 69, 78, 84])]]
def ifL : List El := [[.str (ByteArray.mk #[105, 102]), .str (ByteArray.mk #[]), .str (ByteArray.mk #[66, 111, 111, 108, 101, 97, 110]), .str (ByteArray.mk #[33]), .bool false, .int .i64 0, .str (ByteArray.mk #[]), .sl fP [], .sl fP [], .sl fP []]]
def aMs (n : ByteArray) : aE := ⟨7, false, ByteArray.mk #[], n, aRX, [], ifL, [], [], false, []⟩
def aSo : aE := ⟨7, false, ByteArray.mk #[], ByteArray.mk #[100, 101, 112, 114, 101, 99, 97, 116, 101, 100], [[.str (ByteArray.mk #[70, 73, 69, 76, 68, 95, 68, 69, 70, 73, 78, 73, 84, 73, 79, 78])], [.str (ByteArray.mk #[65, 82, 71, 85, 77, 69, 78, 84, 95, 68, 69, 70, 73, 78, 73, 84, 73, 79, 78])], [.str (ByteArray.mk #[73, 78, 80, 85, 84, 95, 70, 73, 69, 76, 68, 95, 68, 69, 70, 73, 78, 73, 84, 73, 79, 78])], [.str (ByteArray.mk #[69, 78, 85, 77, 95, 86, 65, 76, 85, 69])]], [],
  [[.str (ByteArray.mk #[114, 101, 97, 115, 111, 110]), .str (ByteArray.mk #[]), .str (ByteArray.mk #[83, 116, 114, 105, 110, 103]), .str (ByteArray.mk #[]), .bool true, .int .i64 4, .str (ByteArray.mk #[78, 111, 32, 108, 111, 110, 103, 101, 114, 32, 115, 117, 112, 112, 111, 114, 116, 101, 100]), .sl fP [], .sl fP [], .sl fP []]], [], [], false, []⟩
def fY : List El := [aSo.l, (aMs (ByteArray.mk #[105, 110, 99, 108, 117, 100, 101])).l, (aMs (ByteArray.mk #[115, 107, 105, 112])).l]
theorem aQd {l : List ByteArray} (h : ∀ s ∈ l, s.size ≤ maxLen) : ∀ e ∈ l.map (fun s => [aA.str s]), dP e := fun e he => by
  obtain ⟨s, hs, rfl⟩ := List.mem_map.1 he
  exact ⟨s, rfl, h s hs⟩
theorem aSR {a b c d e : ByteArray} {q : Bool} {k : Int} (h0 : a.size ≤ 100) (h1 : b.size ≤ 100) (h2 : c.size ≤ 100) (h3 : d.size ≤ 100) (h4 : e.size ≤ 100) : ∀ x ∈ ([[.str a, .str b, .str c, .str d, .bool q, .int .i64 k, .str e, .sl fP [], .sl fP [], .sl fP []]] : List El), cI x := fun x hx => by
  have hm : maxLen = 9223372036854775807 := rfl
  rw [List.mem_singleton.1 hx]
  exact .mk a b c d q k e [] [] [] (by omega) (by omega) (by omega) (by omega) (by omega) (by decide) (fun _ h => by cases h) (by decide) (fun _ h => by cases h) (by decide) (fun _ h => by cases h)
theorem aNR {x : aE} (h2 : x.a2.size ≤ 100) (h3 : x.a3.size ≤ 100) (l4 : x.a4.length ≤ 100) (q4 : ∀ e ∈ x.a4, dP e) (h5 : x.a5 = []) (l6 : x.a6.length ≤ 100) (q6 : ∀ e ∈ x.a6, cI e) (h7 : x.a7 = []) (h8 : x.a8 = []) (h10 : x.a10 = []) : dV x.l := by
  have hm : maxLen = 9223372036854775807 := rfl
  obtain ⟨a0, a1, a2, a3, a4, a5, a6, a7, a8, a9, a10⟩ := x
  simp only at h2 h3 l4 q4 h5 l6 q6 h7 h8 h10
  subst h5 h7 h8 h10
  exact .mk a0 a1 a2 a3 a4 [] a6 [] [] a9 [] (by omega) (by omega) (by omega) q4 (by decide) (fun _ h => by cases h) (by omega) q6 (by decide) (fun _ h => by cases h) (by decide) (fun _ h => by cases h) (by decide) (fun _ h => by cases h)
theorem aSb {n : ByteArray} (h : n.size ≤ 100) : dV (aMs n).l :=
  aNR (show (ByteArray.mk #[]).size ≤ 100 by decide) h (show aRX.length ≤ 100 by decide) (aQd (l := [ByteArray.mk #[70, 73, 69, 76, 68], ByteArray.mk #[70, 82, 65, 71, 77, 69, 78, 84, 95, 83, 80, 82, 69, 65, 68], ByteArray.mk #[73, 78, 76, 73, 78, 69, 95, 70, 82, 65, 71, 77, 69, 78, 84]]) (by decide)) rfl (show ifL.length ≤ 100 by decide)
    (aSR (by decide) (by decide) (by decide) (by decide) (by decide)) rfl rfl rfl
theorem aTE : dV aSo.l :=
  aNR (by decide) (by decide) (by decide) (aQd (l := [ByteArray.mk #[70, 73, 69, 76, 68, 95, 68, 69, 70, 73, 78, 73, 84, 73, 79, 78], ByteArray.mk #[65, 82, 71, 85, 77, 69, 78, 84, 95, 68, 69, 70, 73, 78, 73, 84, 73, 79, 78], ByteArray.mk #[73, 78, 80, 85, 84, 95, 70, 73, 69, 76, 68, 95, 68, 69, 70, 73, 78, 73, 84, 73, 79, 78], ByteArray.mk #[69, 78, 85, 77, 95, 86, 65, 76, 85, 69]]) (by decide)) rfl (by decide)
    (aSR (by decide) (by decide) (by decide) (by decide) (by decide)) rfl rfl rfl
theorem aEw : ∀ e ∈ fY, dV e := fun e he => by
  simp -implicitDefEqProofs only [fY, List.mem_cons, List.not_mem_nil, or_false] at he
  rcases he with rfl | rfl | rfl
  · exact aTE
  · exact aSb (by decide)
  · exact aSb (by decide)
theorem aII : Dn F.aUQ [] [] = some (.own (some T.aWj) fY, []) := by
  have fl : ∀ n : ByteArray, Dn F.aVk [.leaf (.str n)] [] = some (.agg (aMs n).l, []) := fun n => bH (aH7 ..)
  refine bH ?_
  rw [aGj, fl, fl]
  simp -implicitDefEqProofs only [rdR, aTx, beq_self_eq_true, Bool.not_true, Bool.not_false, Bool.and_true, Bool.true_and, bT, bF, aE.va_l]
  rfl
theorem aIr : Dn F.aUJ [] [] = some (.own (some T.aWj) fY, []) := by
  refine bH ?_
  have step : ∀ (e : List El) (i : Int) (n : ByteArray), e.length ≤ 10 → 0 ≤ i → i < 2 → ([[.str (ByteArray.mk #[105, 110, 99, 108, 117, 100, 101])], [.str (ByteArray.mk #[115, 107, 105, 112])]] : List El).getD i.toNat [] = [.str n] →
      eT Dn (kV e i) = eT Dn (kV (e ++ [(aMs n).l]) (IntKind.i64.wrap (i + 1))) := fun e i n he h0 h2 hg => by
    rw [xP, decide_eq_true h2, aF, hg]
    have hr : decide ((e.length + 1) * 200 ≤ aH) = true := decide_eq_true (by have hb : aH = 140737488355328 := rfl; omega)
    rw [show (decide (0 ≤ i) && true && true) = true by simp [h0], aD, aPU, hr, Bool.and_true, aD]
    rfl
  have e1 : bM Tryz.prog Dn Hs cB F.aUJ [] [] = eT Dn (kV [aSo.l] 0) := aGu Dn
  rw [e1, step _ 0 _ (by decide) (by decide) (by decide) rfl, step _ (IntKind.i64.wrap (0 + 1)) _ (by simp) (by decide) (by decide) rfl, xP]
  rw [show decide (IntKind.i64.wrap (IntKind.i64.wrap (0 + 1) + 1) < 2) = false by decide, aG]
  rfl
section
variable {s : cT} {n : ByteArray}
def oR (s : cT) (n : ByteArray) : Bool := if sZ s.a1 n < 0 then !decide (lB (at3 n) 0 fY < 0) else true
def uE (s : cT) (n : ByteArray) : aE :=
  if sZ s.a1 n < 0 then (if lB (at3 n) 0 fY < 0 then aHN else .of (fY.getD (lB (at3 n) 0 fY).toNat [])) else .of (s.a1.getD (sZ s.a1 n).toNat [])
theorem aK5 {es : List El} (hq : ∀ e ∈ es, dV e) (h : ¬ sZ es n < 0) : ∃ (j : Nat) (hj : j < es.length) (y : aE), sZ es n = (j : Int) ∧ es[j] = y.l ∧ dV y.l := by
  unfold sZ at h ⊢
  split at h
  · omega
  · rename_i h60
    obtain ⟨j, hj, hi, _⟩ := aHZ h
    obtain ⟨y, hy, iy⟩ := (hq _ (List.getElem_mem hj)).st
    exact ⟨j, hj, y, by rw [if_neg h60, hi], hy, iy⟩
theorem aFH (hs : bX s.l) : Dn F.aVE [.agg s.l, .leaf (.str n)] [] = some (.tup [.agg (uE s n).l, aP (oR s n)], []) := by
  have l3 : fY.length = 3 := rfl
  have nb : sZ fY n = lB (at3 n) 0 fY := by unfold sZ; rw [if_neg (by rw [l3]; omega)]
  refine bH ?_
  rw [aJ6, aHT hs.p.2.2.1 hs.p.2.2.2.1, yD, aIr, mW, aHT (by rw [l3]; decide) aEw, yD, nb]
  unfold uE oR
  by_cases h : sZ s.a1 n < 0
  · have h' : ¬ sZ s.a1 n ≥ 0 := by omega
    rw [if_pos h, if_pos h]
    simp -implicitDefEqProofs only [h', decide_false, aG]
    by_cases k : lB (at3 n) 0 fY < 0
    · have k' : ¬ lB (at3 n) 0 fY ≥ 0 := by omega
      simp -implicitDefEqProofs only [k, k', decide_true, decide_false, aG, if_true, Bool.not_true]
      rfl
    · obtain ⟨j, hj, hi, _⟩ := aHZ k
      obtain ⟨y, hy, iy⟩ := (aEw _ (List.getElem_mem hj)).st
      have hn : ¬ ((j : Int) < 0) := by omega
      have hg : (j : Int) ≥ 0 := by omega
      rw [hi]
      simp -implicitDefEqProofs only [hn, hg, decide_true, decide_false, aF, if_false, Bool.not_false, inI, hj, aR (fun e he => (aEw e he).len), bI hj, hy, aE.rd_l, aE.of_l]
  · obtain ⟨j, hj, y, hi, hy, iy⟩ := aK5 hs.p.2.2.2.1 h
    have hn : ¬ ((j : Int) < 0) := by omega
    have hg : (j : Int) ≥ 0 := by omega
    rw [hi]
    simp -implicitDefEqProofs only [hn, hg, decide_true, aF, if_false, inI, hj, aR (fun e he => (hs.p.2.2.2.1 e he).len), bI hj, hy, aE.rd_l, aE.of_l]
theorem aFK (hs : bX s.l) : Dn F.aVF [.agg s.l, .leaf (.str n)] [] = some (.tup [.agg (uE s n).l, aP (oR s n)], []) := by
  obtain ⟨_, _, hl, hq, _⟩ := hs.p
  have l3 : fY.length = 3 := rfl
  refine bH ?_
  rw [aJT]
  have tail : dB Dn (qW n fY 0) = if lB (at3 n) 0 fY < 0 then some (.tup [.agg aHN.l, aP false], []) else some (.tup [.agg (aE.of (fY.getD (lB (at3 n) 0 fY).toNat [])).l, aP true], []) := by
    refine uU (es := fY) (p := at3 n) (A := fun i => dB Dn (qW n fY i)) (yes := fun i => some (.tup [.agg (aE.of (fY.getD i.toNat [])).l, aP true], [])) (no := some (.tup [.agg aHN.l, aP false], [])) (by rw [aA4]; simp -implicitDefEqProofs only [Int.lt_irrefl, decide_false, aG]; rfl) fun i hi => ?_
    obtain ⟨y, hy, _⟩ := (aEw _ (List.getElem_mem hi)).st
    have hw := aSF (i := i) (by rw [l3] at hi; omega)
    rw [aA4]
    simp -implicitDefEqProofs only [inI, hi, aR (fun e he => (aEw e he).len), bI hi, hy, atP, aE.rd_l, aE.of_l, hw]
    rfl
  have bu : ∀ i : Int, dB Dn (vA n i false s) = if lB (at3 n) 0 fY < 0 then some (.tup [.agg aHN.l, aP false], []) else some (.tup [.agg (aE.of (fY.getD (lB (at3 n) 0 fY).toNat [])).l, aP true], []) := fun i => by
    rw [aAD, aG, aII, mW, tail]
  unfold uE oR sZ
  by_cases h60 : s.a1.length > 60
  · rw [if_pos h60]
    have e6 : ¬ ((s.a1.length : Int) ≤ 60) := by omega
    rw [uX, decide_eq_false e6, aJt, bu]
    by_cases k : lB (at3 n) 0 fY < 0
    · simp [k]
    · simp [k]
  · rw [if_neg h60]
    have e6 : ((s.a1.length : Int) ≤ 60) := by omega
    have := uU (es := s.a1) (p := at3 n) (A := fun i => dB Dn (vS n i s)) (yes := fun i => some (.tup [.agg (aE.of (s.a1.getD i.toNat [])).l, aP true], []))
      (no := if lB (at3 n) 0 fY < 0 then some (.tup [.agg aHN.l, aP false], []) else some (.tup [.agg (aE.of (fY.getD (lB (at3 n) 0 fY).toNat [])).l, aP true], []))
      (by rw [uX]; simp -implicitDefEqProofs only [Int.lt_irrefl, decide_false, show (false == true) = false from rfl, aG, bu]) fun i hi => by
        obtain ⟨y, hy, _⟩ := (hq _ (List.getElem_mem hi)).st
        have hw := bB (Nat.lt_of_lt_of_le hi hl)
        rw [uX]
        simp -implicitDefEqProofs only [inI, hi, beq_self_eq_true, e6, aAD, aR (fun e he => (hq e he).len), bI hi, hy, atP, aE.rd_l, aE.of_l, hw]
        rfl
    rw [this]
    by_cases h : lB (at3 n) 0 s.a1 < 0
    · simp -implicitDefEqProofs only [h, if_true]
      by_cases k : lB (at3 n) 0 fY < 0
      · simp [k]
      · simp [k]
    · simp -implicitDefEqProofs only [h, if_false]
end
end Go.Vs
end
