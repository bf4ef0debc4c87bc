/- What the program's functions compute, read off their text by the shadow runner (KTt, KTm0, KTm, KTr, VsEr, KTz, KTy, KLi, KLj, KLk, KLp); no condition. -/
import Derived.Laws.Strings
import Derived.Test.YtndacingbfeonaaGreatDoorVB6
section
open Go Go.Vs Go.Proofs
set_option linter.unusedVariables false
set_option linter.unusedSimpArgs false
namespace Go.Vs
def aCV : FuncId → Bool := fun f => [F.aW0, F.aXw, F.aXl, F.aW9, F.aWj, F.aWc, F.aWE, F.aWY, F.aWw, F.aWp, F.aWF, F.aYj, F.aXZ, F.aYq, F.aYc, F.aYi, F.aXN, F.aWM, F.aWB, F.aWx, F.aWu, F.aXu, F.aXb, F.aXR, F.aXp, F.aW4, F.aWT, F.aXQ, F.aXr, F.aXg].contains f
noncomputable abbrev Dd : cA true := den Go.Proofs.Tryz.prog (aNf Dn aCV) Hs
theorem mN {f : FuncId} {a : List (SV true)} {b : List (List (SV true))} {r : SV true × List (List (SV true))} (hk : aCV f = true) (h : aV Go.Proofs.Tryz.prog Dd Hs bP f a b = some r) : Dd f a b = some r :=
  aM4 (by simp only [aNf, hk]) h
theorem uK {f : FuncId} (hk : aCV f = false) {a : List (SV true)} {b : List (List (SV true))} {a' : List (SV false)} {b' : List (List (SV false))} {r' : SV false × List (List (SV false))} {r : SV true × List (List (SV true))}
    (h : Dn f a' b' = some r') (ha : a.map (reS er) = a') (hb : b.map (List.map (reS er)) = b') (hr : (reS li r'.1, r'.2.map (List.map (reS li))) = r) : Dd f a b = some r := aSE hk h ha hb hr
theorem aDN : eQ Tryz.prog 3 = some 1 := by kernel_rfl
theorem aDk : eQ Tryz.prog 4 = some 1 := by kernel_rfl
theorem aDd : eQ Tryz.prog 9 = some 1 := by kernel_rfl
theorem aGw {c : Fl true} {es : List (List (aE false))} (hl : es.length ≤ 1048576) (hq : ∀ e ∈ es, kZ e) : ∀ i : Nat, i ≤ es.length → ∀ z : List (SV true), z.length = (es.length - i) * 1 →
    gL Dd (pP c (reE (fl c) es) es.length i (gP (reE (fl aM) es) i z)) = some (.leaf (.sl aM (reE (fl aM) es)), []) := by
  have hall : ∀ e ∈ reE (fl aM) es, e.length = 1 := lI fun e he => (hq e he).len
  have hN : (reE (fl aM) es).length = es.length := cN es
  have hC : (reE (fl c) es).length = es.length := cN es
  have hml : (1048576 : Nat) ≤ maxLen := by decide
  refine cT ?_ ?_
  · intro z hz
    have g1 := wR (z := z) hall
    have g2 := iJ hall
    have g3 := gT (z := z) hall (Nat.le_refl _)
    rw [hN] at g1 g2 g3
    try rw [Nat.mul_one] at g1
    rw [xN]
    simp [g1, g2, g3, hC, SV.flatT, SV.flat, Fl.new]
  · intro i hi ih z hz
    have g3 := gT (z := z) hall (i := i) (by omega)
    have hp := qB (z := z) hall (i := i) (by omega)
    rw [xN]
    obtain ⟨s, he, hs⟩ := hq _ (List.getElem_mem hi)
    rw [yU, he] at hp
    simp only [reL, reF, List.map_cons, List.map_nil] at hp
    simp only [Int.ofNat_lt, hi, hC, decide_true, aD, Int.natCast_nonneg, Bool.and_true, Int.toNat_natCast, aG, bA (Nat.lt_of_lt_of_le hi (Nat.le_trans hl hml)), aR (lI (φ := fl c) fun e he => (hq e he).len), vX hi]
    rw [he]
    simp only [reL, reF, cU, cE]
    have hd' : (i + 1) * 1 ≤ es.length * 1 := Nat.mul_le_mul_right 1 hi
    have hg : (0 + i) * 1 + 1 ≤ (gP (reE (fl aM) es) i z).length := by rw [g3, hz, Nat.sub_mul]; omega
    simp only [hg, decide_true, aG]
    rw [Nat.zero_add, hp]
    exact ih _ (by rw [List.length_drop, hz, Nat.sub_mul, Nat.sub_mul]; omega)
theorem aCO {c : Fl true} {es : List (List (aE false))} (hl : es.length ≤ 1048576) (hq : ∀ e ∈ es, kZ e) : Dd F.aWT [.leaf (.sl c (reE (fl c) es))] [] = some (.leaf (.sl aM (reE (fl aM) es)), []) := by
  apply mN rfl
  have hb : aO = 140737488355328 := rfl
  rw [aEU]
  have hs : decide (es.length ≤ aO) = true := decide_eq_true (by omega)
  have hs2 : decide (es.length * 16 ≤ aO) = true := decide_eq_true (by omega)
  simp only [cN, Int.natCast_nonneg, Int.toNat_natCast, beq_self_eq_true, hs, hs2, decide_true, Bool.and_true, Bool.true_and, aG]
  exact aGw hl hq 0 (Nat.zero_le _) _ (by simp [List.length_flatten])
theorem aHb {c : Fl true} {ls : List (aE false)} (h : nV ls) : tL ls ≤ 1048576 → Dd F.aXQ [.agg (reL (fl c) ls)] [] = some (.agg (reL (fl aM) ls), []) := by
  cases h with
  | mk s0 s1 h0 h1 =>
    intro hb
    apply mN rfl
    simp only [reL, reF]
    rw [aIU]
    try simp []
theorem aHW {c : Fl true} {es : List (List (aE false))} (hl : es.length ≤ 1048576) (hq : ∀ e ∈ es, cZ e) (hd : ∀ e ∈ es, Dd F.aXr [.agg (reL (fl c) e)] [] = some (.agg (reL (fl aM) e), [])) : ∀ i : Nat, i ≤ es.length → ∀ z : List (SV true), z.length = (es.length - i) * 4 →
    iG Dd (qJ c (reE (fl c) es) es.length i (gP (reE (fl aM) es) i z)) = some (.leaf (.sl aM (reE (fl aM) es)), []) := by
  have hall : ∀ e ∈ reE (fl aM) es, e.length = 4 := lI fun e he => (hq e he).len
  have hN : (reE (fl aM) es).length = es.length := cN es
  have hC : (reE (fl c) es).length = es.length := cN es
  have hml : (1048576 : Nat) ≤ maxLen := by decide
  refine cT ?_ ?_
  · intro z hz
    have g1 := wR (z := z) hall
    have g2 := iJ hall
    have g3 := gT (z := z) hall (Nat.le_refl _)
    rw [hN] at g1 g2 g3
    try rw [Nat.mul_one] at g1
    rw [zV]
    simp [g1, g2, g3, hC, SV.flatT, SV.flat, Fl.new]
  · intro i hi ih z hz
    have g3 := gT (z := z) hall (i := i) (by omega)
    have hp := qB (z := z) hall (i := i) (by omega)
    rw [zV]
    have hci := hd _ (List.getElem_mem hi)
    obtain ⟨i0, s1, e2, e3, he, h1, h2, q2, h3, q3⟩ := (hq _ (List.getElem_mem hi)).ex
    rw [yU, he] at hp
    simp only [reL, reF, List.map_cons, List.map_nil] at hp
    simp only [Int.ofNat_lt, hi, hC, decide_true, aD, Int.natCast_nonneg, Bool.and_true, Int.toNat_natCast, aG, bA (Nat.lt_of_lt_of_le hi (Nat.le_trans hl hml)), aR (lI (φ := fl c) fun e he => (hq e he).len), vX hi]
    rw [he] at hci ⊢
    simp only [reL, reF] at hci
    simp only [reL, reF, eE, cU, dA, cP, cE, cV, eR, hci, Option.bind_some, hR, List.length_cons, List.length_nil, beq_self_eq_true, Nat.reduceAdd, Nat.reduceBEq, aG]
    have hd' : (i + 1) * 4 ≤ es.length * 4 := Nat.mul_le_mul_right 4 hi
    have hg : (0 + i) * 4 + 4 ≤ (gP (reE (fl aM) es) i z).length := by rw [g3, hz, Nat.sub_mul]; omega
    simp only [hg, decide_true, aG]
    rw [Nat.zero_add, hp]
    exact ih _ (by rw [List.length_drop, hz, Nat.sub_mul, Nat.sub_mul]; omega)
theorem aAS {c : Fl true} {es : List (List (aE false))} (hl : es.length ≤ 1048576) (hq : ∀ e ∈ es, cZ e) (hd : ∀ e ∈ es, Dd F.aXr [.agg (reL (fl c) e)] [] = some (.agg (reL (fl aM) e), [])) : Dd F.aXg [.leaf (.sl c (reE (fl c) es))] [] = some (.leaf (.sl aM (reE (fl aM) es)), []) := by
  apply mN rfl
  have hb : aO = 140737488355328 := rfl
  rw [aGl]
  have hs : decide (es.length ≤ aO) = true := decide_eq_true (by omega)
  have hs2 : decide (es.length * 72 ≤ aO) = true := decide_eq_true (by omega)
  simp only [cN, Int.natCast_nonneg, Int.toNat_natCast, beq_self_eq_true, hs, hs2, decide_true, Bool.and_true, Bool.true_and, aG]
  exact aHW hl hq hd 0 (Nat.zero_le _) _ (by simp [List.length_flatten])
theorem aBd {c : Fl true} {ls : List (aE false)} (h : cZ ls) : tL ls ≤ 1048576 → Dd F.aXr [.agg (reL (fl c) ls)] [] = some (.agg (reL (fl aM) ls), []) := by
  induction h with
  | mk i0 s1 e2 e3 h1 h2 q2 h3 q3 ih2 =>
    intro hb
    apply mN rfl
    simp only [reL, reF]
    rw [aHG]
    have c2 := aAS (c := c) (show e2.length ≤ 1048576 by simp only [tL, tF] at hb; omega) q2 fun e he => ih2 e he (by have := aCa he; simp only [tL, tF] at hb; omega)
    have c3 := aCO (c := c) (show e3.length ≤ 1048576 by simp only [tL, tF] at hb; omega) q3
    try simp [c2, c3]
theorem aSG {c : Fl true} {es : List (List (aE false))} (hb : es.length + tE es ≤ 1048576) (hq : ∀ e ∈ es, cZ e) : Dd F.aXg [.leaf (.sl c (reE (fl c) es))] [] = some (.leaf (.sl aM (reE (fl aM) es)), []) := aAS (by omega) hq fun e he => aBd (hq e he) (by have := aCa he; omega)
theorem aJR {c : Fl true} {es : List (List (aE false))} (hl : es.length ≤ 1048576) (hq : ∀ e ∈ es, kO e) (hd : ∀ e ∈ es, Dd F.aYj [.agg (reL (fl c) e)] [] = some (.agg (reL (fl aM) e), [])) : ∀ i : Nat, i ≤ es.length → ∀ z : List (SV true), z.length = (es.length - i) * 5 →
    jR Dd (tN c (reE (fl c) es) es.length i (gP (reE (fl aM) es) i z)) = some (.leaf (.sl aM (reE (fl aM) es)), []) := by
  have hall : ∀ e ∈ reE (fl aM) es, e.length = 5 := lI fun e he => (hq e he).len
  have hN : (reE (fl aM) es).length = es.length := cN es
  have hC : (reE (fl c) es).length = es.length := cN es
  have hml : (1048576 : Nat) ≤ maxLen := by decide
  refine cT ?_ ?_
  · intro z hz
    have g1 := wR (z := z) hall
    have g2 := iJ hall
    have g3 := gT (z := z) hall (Nat.le_refl _)
    rw [hN] at g1 g2 g3
    try rw [Nat.mul_one] at g1
    rw [aA3]
    simp [g1, g2, g3, hC, SV.flatT, SV.flat, Fl.new]
  · intro i hi ih z hz
    have g3 := gT (z := z) hall (i := i) (by omega)
    have hp := qB (z := z) hall (i := i) (by omega)
    rw [aA3]
    have hci := hd _ (List.getElem_mem hi)
    obtain ⟨s0, i1, s2, e3, e4, he, h0, h2, h3, q3, h4, q4⟩ := (hq _ (List.getElem_mem hi)).ex
    rw [yU, he] at hp
    simp only [reL, reF, List.map_cons, List.map_nil] at hp
    simp only [Int.ofNat_lt, hi, hC, decide_true, aD, Int.natCast_nonneg, Bool.and_true, Int.toNat_natCast, aG, bA (Nat.lt_of_lt_of_le hi (Nat.le_trans hl hml)), aR (lI (φ := fl c) fun e he => (hq e he).len), vX hi]
    rw [he] at hci ⊢
    simp only [reL, reF] at hci
    simp only [reL, reF, eE, cU, dA, cP, cE, cV, eR, hci, Option.bind_some, hR, List.length_cons, List.length_nil, beq_self_eq_true, Nat.reduceAdd, Nat.reduceBEq, aG]
    have hd' : (i + 1) * 5 ≤ es.length * 5 := Nat.mul_le_mul_right 5 hi
    have hg : (0 + i) * 5 + 5 ≤ (gP (reE (fl aM) es) i z).length := by rw [g3, hz, Nat.sub_mul]; omega
    simp only [hg, decide_true, aG]
    rw [Nat.zero_add, hp]
    exact ih _ (by rw [List.length_drop, hz, Nat.sub_mul, Nat.sub_mul]; omega)
theorem aJ8 {c : Fl true} {es : List (List (aE false))} (hl : es.length ≤ 1048576) (hq : ∀ e ∈ es, kO e) (hd : ∀ e ∈ es, Dd F.aYj [.agg (reL (fl c) e)] [] = some (.agg (reL (fl aM) e), [])) : Dd F.aXZ [.leaf (.sl c (reE (fl c) es))] [] = some (.leaf (.sl aM (reE (fl aM) es)), []) := by
  apply mN rfl
  have hb : aO = 140737488355328 := rfl
  rw [aIw]
  have hs : decide (es.length ≤ aO) = true := decide_eq_true (by omega)
  have hs2 : decide (es.length * 88 ≤ aO) = true := decide_eq_true (by omega)
  simp only [cN, Int.natCast_nonneg, Int.toNat_natCast, beq_self_eq_true, hs, hs2, decide_true, Bool.and_true, Bool.true_and, aG]
  exact aJR hl hq hd 0 (Nat.zero_le _) _ (by simp [List.length_flatten])
theorem aO3 {c : Fl true} {ls : List (aE false)} (h : kO ls) : tL ls ≤ 1048576 → Dd F.aYj [.agg (reL (fl c) ls)] [] = some (.agg (reL (fl aM) ls), []) := by
  cases h with
  | mk s0 i1 s2 e3 e4 h0 h2 h3 q3 h4 q4 =>
    intro hb
    apply mN rfl
    simp only [reL, reF]
    rw [aKs]
    have c1 := aBd (c := c) (.mk i1 s2 e3 e4 h2 h3 q3 h4 q4) (by simp only [tL, tF] at hb ⊢; omega)
    simp only [reL, reF] at c1
    try simp [c1]
theorem aNI {c : Fl true} {es : List (List (aE false))} (hb : es.length + tE es ≤ 1048576) (hq : ∀ e ∈ es, kO e) : Dd F.aXZ [.leaf (.sl c (reE (fl c) es))] [] = some (.leaf (.sl aM (reE (fl aM) es)), []) := aJ8 (by omega) hq fun e he => aO3 (hq e he) (by have := aCa he; omega)
theorem aJ6 {c : Fl true} {es : List (List (aE false))} (hl : es.length ≤ 1048576) (hq : ∀ e ∈ es, gR e) (hd : ∀ e ∈ es, Dd F.aYi [.agg (reL (fl c) e)] [] = some (.agg (reL (fl aM) e), [])) : ∀ i : Nat, i ≤ es.length → ∀ z : List (SV true), z.length = (es.length - i) * 2 →
    jJ Dd (tM c (reE (fl c) es) es.length i (gP (reE (fl aM) es) i z)) = some (.leaf (.sl aM (reE (fl aM) es)), []) := by
  have hall : ∀ e ∈ reE (fl aM) es, e.length = 2 := lI fun e he => (hq e he).len
  have hN : (reE (fl aM) es).length = es.length := cN es
  have hC : (reE (fl c) es).length = es.length := cN es
  have hml : (1048576 : Nat) ≤ maxLen := by decide
  refine cT ?_ ?_
  · intro z hz
    have g1 := wR (z := z) hall
    have g2 := iJ hall
    have g3 := gT (z := z) hall (Nat.le_refl _)
    rw [hN] at g1 g2 g3
    try rw [Nat.mul_one] at g1
    rw [aAN]
    simp [g1, g2, g3, hC, SV.flatT, SV.flat, Fl.new]
  · intro i hi ih z hz
    have g3 := gT (z := z) hall (i := i) (by omega)
    have hp := qB (z := z) hall (i := i) (by omega)
    rw [aAN]
    have hci := hd _ (List.getElem_mem hi)
    obtain ⟨s0, e1, he, h0, h1, q1⟩ := (hq _ (List.getElem_mem hi)).ex
    rw [yU, he] at hp
    simp only [reL, reF, List.map_cons, List.map_nil] at hp
    simp only [Int.ofNat_lt, hi, hC, decide_true, aD, Int.natCast_nonneg, Bool.and_true, Int.toNat_natCast, aG, bA (Nat.lt_of_lt_of_le hi (Nat.le_trans hl hml)), aR (lI (φ := fl c) fun e he => (hq e he).len), vX hi]
    rw [he] at hci ⊢
    simp only [reL, reF] at hci
    simp only [reL, reF, eE, cU, dA, cP, cE, cV, eR, hci, Option.bind_some, hR, List.length_cons, List.length_nil, beq_self_eq_true, Nat.reduceAdd, Nat.reduceBEq, aG]
    have hd' : (i + 1) * 2 ≤ es.length * 2 := Nat.mul_le_mul_right 2 hi
    have hg : (0 + i) * 2 + 2 ≤ (gP (reE (fl aM) es) i z).length := by rw [g3, hz, Nat.sub_mul]; omega
    simp only [hg, decide_true, aG]
    rw [Nat.zero_add, hp]
    exact ih _ (by rw [List.length_drop, hz, Nat.sub_mul, Nat.sub_mul]; omega)
theorem aKp {c : Fl true} {es : List (List (aE false))} (hl : es.length ≤ 1048576) (hq : ∀ e ∈ es, gR e) (hd : ∀ e ∈ es, Dd F.aYi [.agg (reL (fl c) e)] [] = some (.agg (reL (fl aM) e), [])) : Dd F.aXN [.leaf (.sl c (reE (fl c) es))] [] = some (.leaf (.sl aM (reE (fl aM) es)), []) := by
  apply mN rfl
  have hb : aO = 140737488355328 := rfl
  rw [aII]
  have hs : decide (es.length ≤ aO) = true := decide_eq_true (by omega)
  have hs2 : decide (es.length * 40 ≤ aO) = true := decide_eq_true (by omega)
  simp only [cN, Int.natCast_nonneg, Int.toNat_natCast, beq_self_eq_true, hs, hs2, decide_true, Bool.and_true, Bool.true_and, aG]
  exact aJ6 hl hq hd 0 (Nat.zero_le _) _ (by simp [List.length_flatten])
theorem aOV {c : Fl true} {ls : List (aE false)} (h : gR ls) : tL ls ≤ 1048576 → Dd F.aYi [.agg (reL (fl c) ls)] [] = some (.agg (reL (fl aM) ls), []) := by
  cases h with
  | mk s0 e1 h0 h1 q1 =>
    intro hb
    apply mN rfl
    simp only [reL, reF]
    rw [aJ4]
    have c1 := aNI (c := c) (show e1.length + tE e1 ≤ 1048576 by simp only [tL, tF] at hb; omega) q1
    try simp [c1]
theorem yS {c : Fl true} {es : List (List (aE false))} (hb : es.length + tE es ≤ 1048576) (hq : ∀ e ∈ es, gR e) : Dd F.aXN [.leaf (.sl c (reE (fl c) es))] [] = some (.leaf (.sl aM (reE (fl aM) es)), []) := aKp (by omega) hq fun e he => aOV (hq e he) (by have := aCa he; omega)
theorem aHZ {c : Fl true} {es : List (List (aE false))} (hl : es.length ≤ 1048576) (hq : ∀ e ∈ es, dH e) (hd : ∀ e ∈ es, Dd F.aXu [.agg (reL (fl c) e)] [] = some (.agg (reL (fl aM) e), [])) : ∀ i : Nat, i ≤ es.length → ∀ z : List (SV true), z.length = (es.length - i) * 10 →
    iC Dd (qI c (reE (fl c) es) es.length i (gP (reE (fl aM) es) i z)) = some (.leaf (.sl aM (reE (fl aM) es)), []) := by
  have hall : ∀ e ∈ reE (fl aM) es, e.length = 10 := lI fun e he => (hq e he).len
  have hN : (reE (fl aM) es).length = es.length := cN es
  have hC : (reE (fl c) es).length = es.length := cN es
  have hml : (1048576 : Nat) ≤ maxLen := by decide
  refine cT ?_ ?_
  · intro z hz
    have g1 := wR (z := z) hall
    have g2 := iJ hall
    have g3 := gT (z := z) hall (Nat.le_refl _)
    rw [hN] at g1 g2 g3
    try rw [Nat.mul_one] at g1
    rw [zE]
    simp [g1, g2, g3, hC, SV.flatT, SV.flat, Fl.new]
  · intro i hi ih z hz
    have g3 := gT (z := z) hall (i := i) (by omega)
    have hp := qB (z := z) hall (i := i) (by omega)
    rw [zE]
    have hci := hd _ (List.getElem_mem hi)
    obtain ⟨s0, s1, s2, s3, b4, i5, s6, e7, e8, e9, he, h0, h1, h2, h3, h6, h7, q7, h8, q8, h9, q9⟩ := (hq _ (List.getElem_mem hi)).ex
    rw [yU, he] at hp
    simp only [reL, reF, List.map_cons, List.map_nil] at hp
    simp only [Int.ofNat_lt, hi, hC, decide_true, aD, Int.natCast_nonneg, Bool.and_true, Int.toNat_natCast, aG, bA (Nat.lt_of_lt_of_le hi (Nat.le_trans hl hml)), aR (lI (φ := fl c) fun e he => (hq e he).len), vX hi]
    rw [he] at hci ⊢
    simp only [reL, reF] at hci
    simp only [reL, reF, eE, cU, dA, cP, cE, cV, eR, hci, Option.bind_some, hR, List.length_cons, List.length_nil, beq_self_eq_true, Nat.reduceAdd, Nat.reduceBEq, aG]
    have hd' : (i + 1) * 10 ≤ es.length * 10 := Nat.mul_le_mul_right 10 hi
    have hg : (0 + i) * 10 + 10 ≤ (gP (reE (fl aM) es) i z).length := by rw [g3, hz, Nat.sub_mul]; omega
    simp only [hg, decide_true, aG]
    rw [Nat.zero_add, hp]
    exact ih _ (by rw [List.length_drop, hz, Nat.sub_mul, Nat.sub_mul]; omega)
theorem aHr {c : Fl true} {es : List (List (aE false))} (hl : es.length ≤ 1048576) (hq : ∀ e ∈ es, dH e) (hd : ∀ e ∈ es, Dd F.aXu [.agg (reL (fl c) e)] [] = some (.agg (reL (fl aM) e), [])) : Dd F.aXb [.leaf (.sl c (reE (fl c) es))] [] = some (.leaf (.sl aM (reE (fl aM) es)), []) := by
  apply mN rfl
  have hb : aO = 140737488355328 := rfl
  rw [aGA]
  have hs : decide (es.length ≤ aO) = true := decide_eq_true (by omega)
  have hs2 : decide (es.length * 168 ≤ aO) = true := decide_eq_true (by omega)
  simp only [cN, Int.natCast_nonneg, Int.toNat_natCast, beq_self_eq_true, hs, hs2, decide_true, Bool.and_true, Bool.true_and, aG]
  exact aHZ hl hq hd 0 (Nat.zero_le _) _ (by simp [List.length_flatten])
theorem aMw {c : Fl true} {ls : List (aE false)} (h : dH ls) : tL ls ≤ 1048576 → Dd F.aXu [.agg (reL (fl c) ls)] [] = some (.agg (reL (fl aM) ls), []) := by
  cases h with
  | mk s0 s1 s2 s3 b4 i5 s6 e7 e8 e9 h0 h1 h2 h3 h6 h7 q7 h8 q8 h9 q9 =>
    intro hb
    apply mN rfl
    simp only [reL, reF]
    rw [aH0]
    have c2 := aHb (c := c) (.mk s2 s3 h2 h3) (by simp only [tL, tF] at hb ⊢; omega)
    simp only [reL, reF] at c2
    have c5 := aBd (c := c) (.mk i5 s6 e7 e8 h6 h7 q7 h8 q8) (by simp only [tL, tF] at hb ⊢; omega)
    simp only [reL, reF] at c5
    have c9 := yS (c := c) (show e9.length + tE e9 ≤ 1048576 by simp only [tL, tF] at hb; omega) q9
    try simp [c2, c5, c9]
theorem aD4 {c : Fl true} {es : List (List (aE false))} (hb : es.length + tE es ≤ 1048576) (hq : ∀ e ∈ es, dH e) : Dd F.aXb [.leaf (.sl c (reE (fl c) es))] [] = some (.leaf (.sl aM (reE (fl aM) es)), []) := aHr (by omega) hq fun e he => aMw (hq e he) (by have := aCa he; omega)
theorem aEC {c : Fl true} {es : List (List (aE false))} (hl : es.length ≤ 1048576) (hq : ∀ e ∈ es, cF e) (hd : ∀ e ∈ es, Dd F.aWx [.agg (reL (fl c) e)] [] = some (.agg (reL (fl aM) e), [])) : ∀ i : Nat, i ≤ es.length → ∀ z : List (SV true), z.length = (es.length - i) * 6 →
    eY Dd (nF c (reE (fl c) es) es.length i (gP (reE (fl aM) es) i z)) = some (.leaf (.sl aM (reE (fl aM) es)), []) := by
  have hall : ∀ e ∈ reE (fl aM) es, e.length = 6 := lI fun e he => (hq e he).len
  have hN : (reE (fl aM) es).length = es.length := cN es
  have hC : (reE (fl c) es).length = es.length := cN es
  have hml : (1048576 : Nat) ≤ maxLen := by decide
  refine cT ?_ ?_
  · intro z hz
    have g1 := wR (z := z) hall
    have g2 := iJ hall
    have g3 := gT (z := z) hall (Nat.le_refl _)
    rw [hN] at g1 g2 g3
    try rw [Nat.mul_one] at g1
    rw [uV]
    simp [g1, g2, g3, hC, SV.flatT, SV.flat, Fl.new]
  · intro i hi ih z hz
    have g3 := gT (z := z) hall (i := i) (by omega)
    have hp := qB (z := z) hall (i := i) (by omega)
    rw [uV]
    have hci := hd _ (List.getElem_mem hi)
    obtain ⟨s0, s1, e2, s3, s4, e5, he, h0, h1, h2, q2, h3, h4, h5, q5⟩ := (hq _ (List.getElem_mem hi)).ex
    rw [yU, he] at hp
    simp only [reL, reF, List.map_cons, List.map_nil] at hp
    simp only [Int.ofNat_lt, hi, hC, decide_true, aD, Int.natCast_nonneg, Bool.and_true, Int.toNat_natCast, aG, bA (Nat.lt_of_lt_of_le hi (Nat.le_trans hl hml)), aR (lI (φ := fl c) fun e he => (hq e he).len), vX hi]
    rw [he] at hci ⊢
    simp only [reL, reF] at hci
    simp only [reL, reF, eE, cU, dA, cP, cE, cV, eR, hci, Option.bind_some, hR, List.length_cons, List.length_nil, beq_self_eq_true, Nat.reduceAdd, Nat.reduceBEq, aG]
    have hd' : (i + 1) * 6 ≤ es.length * 6 := Nat.mul_le_mul_right 6 hi
    have hg : (0 + i) * 6 + 6 ≤ (gP (reE (fl aM) es) i z).length := by rw [g3, hz, Nat.sub_mul]; omega
    simp only [hg, decide_true, aG]
    rw [Nat.zero_add, hp]
    exact ih _ (by rw [List.length_drop, hz, Nat.sub_mul, Nat.sub_mul]; omega)
theorem aEq {c : Fl true} {es : List (List (aE false))} (hl : es.length ≤ 1048576) (hq : ∀ e ∈ es, cF e) (hd : ∀ e ∈ es, Dd F.aWx [.agg (reL (fl c) e)] [] = some (.agg (reL (fl aM) e), [])) : Dd F.aWu [.leaf (.sl c (reE (fl c) es))] [] = some (.leaf (.sl aM (reE (fl aM) es)), []) := by
  apply mN rfl
  have hb : aO = 140737488355328 := rfl
  rw [aDA]
  have hs : decide (es.length ≤ aO) = true := decide_eq_true (by omega)
  have hs2 : decide (es.length * 112 ≤ aO) = true := decide_eq_true (by omega)
  simp only [cN, Int.natCast_nonneg, Int.toNat_natCast, beq_self_eq_true, hs, hs2, decide_true, Bool.and_true, Bool.true_and, aG]
  exact aEC hl hq hd 0 (Nat.zero_le _) _ (by simp [List.length_flatten])
theorem aIz {c : Fl true} {ls : List (aE false)} (h : cF ls) : tL ls ≤ 1048576 → Dd F.aWx [.agg (reL (fl c) ls)] [] = some (.agg (reL (fl aM) ls), []) := by
  cases h with
  | mk s0 s1 e2 s3 s4 e5 h0 h1 h2 q2 h3 h4 h5 q5 =>
    intro hb
    apply mN rfl
    simp only [reL, reF]
    rw [aEG]
    have c2 := aD4 (c := c) (show e2.length + tE e2 ≤ 1048576 by simp only [tL, tF] at hb; omega) q2
    have c3 := aHb (c := c) (.mk s3 s4 h3 h4) (by simp only [tL, tF] at hb ⊢; omega)
    simp only [reL, reF] at c3
    have c5 := yS (c := c) (show e5.length + tE e5 ≤ 1048576 by simp only [tL, tF] at hb; omega) q5
    try simp [c2, c3, c5]
theorem aHK {c : Fl true} {es : List (List (aE false))} (hb : es.length + tE es ≤ 1048576) (hq : ∀ e ∈ es, cF e) : Dd F.aWu [.leaf (.sl c (reE (fl c) es))] [] = some (.leaf (.sl aM (reE (fl aM) es)), []) := aEq (by omega) hq fun e he => aIz (hq e he) (by have := aCa he; omega)
theorem aFM {c : Fl true} {es : List (List (aE false))} (hl : es.length ≤ 1048576) (hq : ∀ e ∈ es, cY e) (hd : ∀ e ∈ es, Dd F.aWM [.agg (reL (fl c) e)] [] = some (.agg (reL (fl aM) e), [])) : ∀ i : Nat, i ≤ es.length → ∀ z : List (SV true), z.length = (es.length - i) * 3 →
    fO Dd (oM c (reE (fl c) es) es.length i (gP (reE (fl aM) es) i z)) = some (.leaf (.sl aM (reE (fl aM) es)), []) := by
  have hall : ∀ e ∈ reE (fl aM) es, e.length = 3 := lI fun e he => (hq e he).len
  have hN : (reE (fl aM) es).length = es.length := cN es
  have hC : (reE (fl c) es).length = es.length := cN es
  have hml : (1048576 : Nat) ≤ maxLen := by decide
  refine cT ?_ ?_
  · intro z hz
    have g1 := wR (z := z) hall
    have g2 := iJ hall
    have g3 := gT (z := z) hall (Nat.le_refl _)
    rw [hN] at g1 g2 g3
    try rw [Nat.mul_one] at g1
    rw [wE]
    simp [g1, g2, g3, hC, SV.flatT, SV.flat, Fl.new]
  · intro i hi ih z hz
    have g3 := gT (z := z) hall (i := i) (by omega)
    have hp := qB (z := z) hall (i := i) (by omega)
    rw [wE]
    have hci := hd _ (List.getElem_mem hi)
    obtain ⟨s0, s1, e2, he, h0, h1, h2, q2⟩ := (hq _ (List.getElem_mem hi)).ex
    rw [yU, he] at hp
    simp only [reL, reF, List.map_cons, List.map_nil] at hp
    simp only [Int.ofNat_lt, hi, hC, decide_true, aD, Int.natCast_nonneg, Bool.and_true, Int.toNat_natCast, aG, bA (Nat.lt_of_lt_of_le hi (Nat.le_trans hl hml)), aR (lI (φ := fl c) fun e he => (hq e he).len), vX hi]
    rw [he] at hci ⊢
    simp only [reL, reF] at hci
    simp only [reL, reF, eE, cU, dA, cP, cE, cV, eR, hci, Option.bind_some, hR, List.length_cons, List.length_nil, beq_self_eq_true, Nat.reduceAdd, Nat.reduceBEq, aG]
    have hd' : (i + 1) * 3 ≤ es.length * 3 := Nat.mul_le_mul_right 3 hi
    have hg : (0 + i) * 3 + 3 ≤ (gP (reE (fl aM) es) i z).length := by rw [g3, hz, Nat.sub_mul]; omega
    simp only [hg, decide_true, aG]
    rw [Nat.zero_add, hp]
    exact ih _ (by rw [List.length_drop, hz, Nat.sub_mul, Nat.sub_mul]; omega)
theorem aFD {c : Fl true} {es : List (List (aE false))} (hl : es.length ≤ 1048576) (hq : ∀ e ∈ es, cY e) (hd : ∀ e ∈ es, Dd F.aWM [.agg (reL (fl c) e)] [] = some (.agg (reL (fl aM) e), [])) : Dd F.aWB [.leaf (.sl c (reE (fl c) es))] [] = some (.leaf (.sl aM (reE (fl aM) es)), []) := by
  apply mN rfl
  have hb : aO = 140737488355328 := rfl
  rw [aEu]
  have hs : decide (es.length ≤ aO) = true := decide_eq_true (by omega)
  have hs2 : decide (es.length * 56 ≤ aO) = true := decide_eq_true (by omega)
  simp only [cN, Int.natCast_nonneg, Int.toNat_natCast, beq_self_eq_true, hs, hs2, decide_true, Bool.and_true, Bool.true_and, aG]
  exact aFM hl hq hd 0 (Nat.zero_le _) _ (by simp [List.length_flatten])
theorem aKd {c : Fl true} {ls : List (aE false)} (h : cY ls) : tL ls ≤ 1048576 → Dd F.aWM [.agg (reL (fl c) ls)] [] = some (.agg (reL (fl aM) ls), []) := by
  cases h with
  | mk s0 s1 e2 h0 h1 h2 q2 =>
    intro hb
    apply mN rfl
    simp only [reL, reF]
    rw [aE7]
    have c2 := yS (c := c) (show e2.length + tE e2 ≤ 1048576 by simp only [tL, tF] at hb; omega) q2
    try simp [c2]
theorem aIM {c : Fl true} {es : List (List (aE false))} (hb : es.length + tE es ≤ 1048576) (hq : ∀ e ∈ es, cY e) : Dd F.aWB [.leaf (.sl c (reE (fl c) es))] [] = some (.leaf (.sl aM (reE (fl aM) es)), []) := aFD (by omega) hq fun e he => aKd (hq e he) (by have := aCa he; omega)
theorem aIN {c : Fl true} {es : List (List (aE false))} (hl : es.length ≤ 1048576) (hq : ∀ e ∈ es, eX e) (hd : ∀ e ∈ es, Dd F.aXR [.agg (reL (fl c) e)] [] = some (.agg (reL (fl aM) e), [])) : ∀ i : Nat, i ≤ es.length → ∀ z : List (SV true), z.length = (es.length - i) * 2 →
    iS Dd (rX c (reE (fl c) es) es.length i (gP (reE (fl aM) es) i z)) = some (.leaf (.sl aM (reE (fl aM) es)), []) := by
  have hall : ∀ e ∈ reE (fl aM) es, e.length = 2 := lI fun e he => (hq e he).len
  have hN : (reE (fl aM) es).length = es.length := cN es
  have hC : (reE (fl c) es).length = es.length := cN es
  have hml : (1048576 : Nat) ≤ maxLen := by decide
  refine cT ?_ ?_
  · intro z hz
    have g1 := wR (z := z) hall
    have g2 := iJ hall
    have g3 := gT (z := z) hall (Nat.le_refl _)
    rw [hN] at g1 g2 g3
    try rw [Nat.mul_one] at g1
    rw [aAn]
    simp [g1, g2, g3, hC, SV.flatT, SV.flat, Fl.new]
  · intro i hi ih z hz
    have g3 := gT (z := z) hall (i := i) (by omega)
    have hp := qB (z := z) hall (i := i) (by omega)
    rw [aAn]
    have hci := hd _ (List.getElem_mem hi)
    obtain ⟨i0, s1, he, h1⟩ := (hq _ (List.getElem_mem hi)).ex
    rw [yU, he] at hp
    simp only [reL, reF, List.map_cons, List.map_nil] at hp
    simp only [Int.ofNat_lt, hi, hC, decide_true, aD, Int.natCast_nonneg, Bool.and_true, Int.toNat_natCast, aG, bA (Nat.lt_of_lt_of_le hi (Nat.le_trans hl hml)), aR (lI (φ := fl c) fun e he => (hq e he).len), vX hi]
    rw [he] at hci ⊢
    simp only [reL, reF] at hci
    simp only [reL, reF, eE, cU, dA, cP, cE, cV, eR, hci, Option.bind_some, hR, List.length_cons, List.length_nil, beq_self_eq_true, Nat.reduceAdd, Nat.reduceBEq, aG]
    have hd' : (i + 1) * 2 ≤ es.length * 2 := Nat.mul_le_mul_right 2 hi
    have hg : (0 + i) * 2 + 2 ≤ (gP (reE (fl aM) es) i z).length := by rw [g3, hz, Nat.sub_mul]; omega
    simp only [hg, decide_true, aG]
    rw [Nat.zero_add, hp]
    exact ih _ (by rw [List.length_drop, hz, Nat.sub_mul, Nat.sub_mul]; omega)
theorem aIb {c : Fl true} {es : List (List (aE false))} (hl : es.length ≤ 1048576) (hq : ∀ e ∈ es, eX e) (hd : ∀ e ∈ es, Dd F.aXR [.agg (reL (fl c) e)] [] = some (.agg (reL (fl aM) e), [])) : Dd F.aXp [.leaf (.sl c (reE (fl c) es))] [] = some (.leaf (.sl aM (reE (fl aM) es)), []) := by
  apply mN rfl
  have hb : aO = 140737488355328 := rfl
  rw [aHX]
  have hs : decide (es.length ≤ aO) = true := decide_eq_true (by omega)
  have hs2 : decide (es.length * 24 ≤ aO) = true := decide_eq_true (by omega)
  simp only [cN, Int.natCast_nonneg, Int.toNat_natCast, beq_self_eq_true, hs, hs2, decide_true, Bool.and_true, Bool.true_and, aG]
  exact aIN hl hq hd 0 (Nat.zero_le _) _ (by simp [List.length_flatten])
theorem aNK {c : Fl true} {ls : List (aE false)} (h : eX ls) : tL ls ≤ 1048576 → Dd F.aXR [.agg (reL (fl c) ls)] [] = some (.agg (reL (fl aM) ls), []) := by
  cases h with
  | mk i0 s1 h1 =>
    intro hb
    apply mN rfl
    simp only [reL, reF]
    rw [aIQ]
    try simp []
theorem aFa {c : Fl true} {es : List (List (aE false))} (hb : es.length + tE es ≤ 1048576) (hq : ∀ e ∈ es, eX e) : Dd F.aXp [.leaf (.sl c (reE (fl c) es))] [] = some (.leaf (.sl aM (reE (fl aM) es)), []) := aIb (by omega) hq fun e he => aNK (hq e he) (by have := aCa he; omega)
theorem aKf {c : Fl true} {es : List (List (aE false))} (hl : es.length ≤ 1048576) (hq : ∀ e ∈ es, dM e) (hd : ∀ e ∈ es, Dd F.aYq [.agg (reL (fl c) e)] [] = some (.agg (reL (fl aM) e), [])) : ∀ i : Nat, i ≤ es.length → ∀ z : List (SV true), z.length = (es.length - i) * 11 →
    jM Dd (tK c (reE (fl c) es) es.length i (gP (reE (fl aM) es) i z)) = some (.leaf (.sl aM (reE (fl aM) es)), []) := by
  have hall : ∀ e ∈ reE (fl aM) es, e.length = 11 := lI fun e he => (hq e he).len
  have hN : (reE (fl aM) es).length = es.length := cN es
  have hC : (reE (fl c) es).length = es.length := cN es
  have hml : (1048576 : Nat) ≤ maxLen := by decide
  refine cT ?_ ?_
  · intro z hz
    have g1 := wR (z := z) hall
    have g2 := iJ hall
    have g3 := gT (z := z) hall (Nat.le_refl _)
    rw [hN] at g1 g2 g3
    try rw [Nat.mul_one] at g1
    rw [aAL]
    simp [g1, g2, g3, hC, SV.flatT, SV.flat, Fl.new]
  · intro i hi ih z hz
    have g3 := gT (z := z) hall (i := i) (by omega)
    have hp := qB (z := z) hall (i := i) (by omega)
    rw [aAL]
    have hci := hd _ (List.getElem_mem hi)
    obtain ⟨i0, b1, s2, s3, e4, e5, e6, e7, e8, b9, e10, he, h2, h3, h4, q4, h5, q5, h6, q6, h7, q7, h8, q8, h10, q10⟩ := (hq _ (List.getElem_mem hi)).ex
    rw [yU, he] at hp
    simp only [reL, reF, List.map_cons, List.map_nil] at hp
    simp only [Int.ofNat_lt, hi, hC, decide_true, aD, Int.natCast_nonneg, Bool.and_true, Int.toNat_natCast, aG, bA (Nat.lt_of_lt_of_le hi (Nat.le_trans hl hml)), aR (lI (φ := fl c) fun e he => (hq e he).len), vX hi]
    rw [he] at hci ⊢
    simp only [reL, reF] at hci
    simp only [reL, reF, eE, cU, dA, cP, cE, cV, eR, hci, Option.bind_some, hR, List.length_cons, List.length_nil, beq_self_eq_true, Nat.reduceAdd, Nat.reduceBEq, aG]
    have hd' : (i + 1) * 11 ≤ es.length * 11 := Nat.mul_le_mul_right 11 hi
    have hg : (0 + i) * 11 + 11 ≤ (gP (reE (fl aM) es) i z).length := by rw [g3, hz, Nat.sub_mul]; omega
    simp only [hg, decide_true, aG]
    rw [Nat.zero_add, hp]
    exact ih _ (by rw [List.length_drop, hz, Nat.sub_mul, Nat.sub_mul]; omega)
theorem aKT {c : Fl true} {es : List (List (aE false))} (hl : es.length ≤ 1048576) (hq : ∀ e ∈ es, dM e) (hd : ∀ e ∈ es, Dd F.aYq [.agg (reL (fl c) e)] [] = some (.agg (reL (fl aM) e), [])) : Dd F.aYc [.leaf (.sl c (reE (fl c) es))] [] = some (.leaf (.sl aM (reE (fl aM) es)), []) := by
  apply mN rfl
  have hb : aO = 140737488355328 := rfl
  rw [aIh]
  have hs : decide (es.length ≤ aO) = true := decide_eq_true (by omega)
  have hs2 : decide (es.length * 200 ≤ aO) = true := decide_eq_true (by omega)
  simp only [cN, Int.natCast_nonneg, Int.toNat_natCast, beq_self_eq_true, hs, hs2, decide_true, Bool.and_true, Bool.true_and, aG]
  exact aKf hl hq hd 0 (Nat.zero_le _) _ (by simp [List.length_flatten])
theorem aIP {c : Fl true} {ls : List (aE false)} (h : dM ls) : tL ls ≤ 1048576 → Dd F.aYq [.agg (reL (fl c) ls)] [] = some (.agg (reL (fl aM) ls), []) := by
  cases h with
  | mk i0 b1 s2 s3 e4 e5 e6 e7 e8 b9 e10 h2 h3 h4 q4 h5 q5 h6 q6 h7 q7 h8 q8 h10 q10 =>
    intro hb
    apply mN rfl
    simp only [reL, reF]
    rw [aJ1]
    have c4 := aCO (c := c) (show e4.length ≤ 1048576 by simp only [tL, tF] at hb; omega) q4
    have c5 := aHK (c := c) (show e5.length + tE e5 ≤ 1048576 by simp only [tL, tF] at hb; omega) q5
    have c6 := aD4 (c := c) (show e6.length + tE e6 ≤ 1048576 by simp only [tL, tF] at hb; omega) q6
    have c7 := aIM (c := c) (show e7.length + tE e7 ≤ 1048576 by simp only [tL, tF] at hb; omega) q7
    have c8 := aFa (c := c) (show e8.length + tE e8 ≤ 1048576 by simp only [tL, tF] at hb; omega) q8
    have c10 := yS (c := c) (show e10.length + tE e10 ≤ 1048576 by simp only [tL, tF] at hb; omega) q10
    try simp [c4, c5, c6, c7, c8, c10]
theorem aG4 {c : Fl true} {es : List (List (aE false))} (hb : es.length + tE es ≤ 1048576) (hq : ∀ e ∈ es, dM e) : Dd F.aYc [.leaf (.sl c (reE (fl c) es))] [] = some (.leaf (.sl aM (reE (fl aM) es)), []) := aKT (by omega) hq fun e he => aIP (hq e he) (by have := aCa he; omega)
theorem aLT {c : Fl true} {ls : List (aE false)} (h : bQ ls) : tL ls ≤ 1048576 → Dd F.aW4 [.agg (reL (fl c) ls)] [] = some (.agg (reL (fl aM) ls), []) := by
  cases h with
  | mk e0 e1 e2 h0 q0 h1 q1 h2 q2 =>
    intro hb
    apply mN rfl
    simp only [reL, reF]
    rw [aGo]
    have c0 := aG4 (c := c) (show e0.length + tE e0 ≤ 1048576 by simp only [tL, tF] at hb; omega) q0
    have c1 := aG4 (c := c) (show e1.length + tE e1 ≤ 1048576 by simp only [tL, tF] at hb; omega) q1
    have c2 := aFa (c := c) (show e2.length + tE e2 ≤ 1048576 by simp only [tL, tF] at hb; omega) q2
    try simp [c0, c1, c2]
end Go.Vs
end
section
open Go Go.Vs Go.Proofs
set_option linter.unusedVariables false
set_option linter.unusedSimpArgs false
namespace Go.Vs
theorem aTP {x : Int} (h : 0 ≤ x) : IntKind.i64.wrap x ≤ x := by
  have e : IntKind.i64.wrap x = if x % 18446744073709551616 ≥ 9223372036854775808 then x % 18446744073709551616 - 18446744073709551616 else x % 18446744073709551616 := by
    simp [IntKind.wrap, IntKind.signed, IntKind.bits]
  rw [e]
  split <;> omega
theorem aG0 : ∀ (n : Nat) (i0 : Int) (s3 : ByteArray), i0 < 10 ^ n → s3.size + n + 1 ≤ 140737488355328 → ∃ s : ByteArray, jN Dn (tY i0 s3) = some (.leaf (.str s), [])
  | 0, i0, s3, h, hs => by
    have h0 : ¬ i0 > 0 := by simp at h; omega
    rw [uR]
    have h1 : (ByteArray.mk #[109]).size + s3.size ≤ 140737488355328 := by have : (ByteArray.mk #[109]).size = 1 := rfl; omega
    simp only [h0, decide_false, aC, h1, decide_true, aG]
    exact ⟨_, rfl⟩
  | n + 1, i0, s3, h, hs => by
    rw [uR]
    by_cases h0 : i0 > 0
    · have hz : ∀ x : UInt8, (ByteArray.mk #[x]).size = 1 := fun _ => rfl
      have h2 : IntKind.i64.wrap (i0.tdiv 10) < 10 ^ n := by
        have h3 : 0 ≤ i0.tdiv 10 := Int.tdiv_nonneg (by omega) (by omega)
        have h4 := aTP h3
        have h5 : i0.tdiv 10 < 10 ^ n := by
          rw [Int.tdiv_eq_ediv_of_nonneg (by omega)]
          rw [Int.pow_succ] at h
          omega
        omega
      simp only [h0, decide_true, aD, List.map_cons, List.map_nil, hz, show 1 + s3.size ≤ 140737488355328 by omega, aG]
      exact aG0 n _ _ h2 (by rw [ByteArray.size_append, hz]; omega)
    · have h1 : (ByteArray.mk #[109]).size + s3.size ≤ 140737488355328 := by have : (ByteArray.mk #[109]).size = 1 := rfl; omega
      simp only [h0, decide_false, aC, h1, decide_true, aG]
      exact ⟨_, rfl⟩
theorem aLa (k : Int) : ∃ s : ByteArray, Dn F.aXk [aJ k] [] = some (.leaf (.str s), []) := by
  have key : ∃ s : ByteArray, aV Go.Proofs.Tryz.prog Dn Hs bP F.aXk [aJ k] [] = some (.leaf (.str s), []) := by
    rw [aIO]
    by_cases h : k ≤ 0
    · simp only [h, decide_true, aD]; exact ⟨_, rfl⟩
    · obtain ⟨n, hn⟩ : ∃ n : Nat, k < 10 ^ n ∧ n ≤ k.toNat := ⟨k.toNat, by
        have : (k.toNat : Int) < 10 ^ k.toNat := by exact_mod_cast (Nat.lt_pow_self (by omega) : k.toNat < 10 ^ k.toNat)
        omega, Nat.le_refl _⟩
      simp only [h, decide_false, aC]
      rw [uR]
      have hz : ∀ x : UInt8, (ByteArray.mk #[x]).size = 1 := fun _ => rfl
      have h0 : k > 0 := by omega
      have he : (ByteArray.mk #[]).size = 0 := rfl
      simp only [h0, decide_true, aD, List.map_cons, List.map_nil, hz, he, show 1 + 0 ≤ 140737488355328 by omega, aG]
      refine aG0 19 _ _ ?_ (by rw [ByteArray.size_append, hz, he]; omega)
      have e : ∀ x : Int, IntKind.i64.wrap x < 10 ^ 19 := fun x => by
        have e : IntKind.i64.wrap x = if x % 18446744073709551616 ≥ 9223372036854775808 then x % 18446744073709551616 - 18446744073709551616 else x % 18446744073709551616 := by
          simp [IntKind.wrap, IntKind.signed, IntKind.bits]
        rw [e]
        split <;> omega
      exact e _
  obtain ⟨s, hs⟩ := key
  exact ⟨s, aQ hs⟩
noncomputable def mtx (k : Int) : ByteArray := Classical.choose (aLa k)
theorem aH3 (k : Int) : Dn F.aXk [aJ k] [] = some (.leaf (.str (mtx k)), []) := Classical.choose_spec (aLa k)
end Go.Vs
end
section
open Go Go.Vs Go.Proofs
set_option linter.unusedVariables false
set_option linter.unusedSimpArgs false
namespace Go.Vs
theorem fS (k : Int) : Dd F.aXk [.leaf (.int .i64 k)] [] = some (.leaf (.str (mtx k)), []) :=
  uK rfl (aH3 k) rfl rfl rfl
theorem aEh {es : List (List (aE false))} (hl : es.length ≤ maxLen) (hq : ∀ e ∈ es, kZ e) : ∀ i : Nat, i ≤ es.length → ∀ k : Int,
    fA Dd (mY eC (soE es) k i) = some (.leaf (.int .i64 (mkE (es.drop i) k)), []) := by
  have hC : (soE es).length = es.length := pJ es
  refine cT ?_ ?_
  · intro k; rw [vD]; simp [hC, mkE]
  · intro i hi ih k
    obtain ⟨s, he, hs⟩ := (hq _ (List.getElem_mem hi))
    rw [vD, kP hi]
    simp only [Int.ofNat_lt, hi, hC, decide_true, aD, Int.natCast_nonneg, Bool.and_true, Int.toNat_natCast, aG, bA (Nat.lt_of_lt_of_le hi hl), aR (aAv fun e he => (hq e he).len), vP hi, fS, Option.bind_some, bH, cE]
    rw [he]
    simp only [soL, soF, cU, dA, eR, fC, List.getElem?_cons_zero, List.getElem?_cons_succ, nI, St.eval, List.getD_cons_zero, List.getD_cons_succ, SV.plain, aDN, aDk, aDd, and_self, ite_true, if_true, aAG, true_and, and_true, fS, Option.bind_some, bH, cE, cP, ih]
    simp only [mkE, mkL, mkF]
theorem mD {es : List (List (aE false))} (hl : es.length ≤ maxLen) (hq : ∀ e ∈ es, kZ e) (k : Int) : Dd F.aWp [.leaf (.sl eC (soE es)), .leaf (.int .i64 k)] [] = some (.leaf (.int .i64 (mkE es k)), []) := by
  apply mN rfl
  rw [aDy]
  have := aEh hl hq 0 (Nat.zero_le _) k
  simpa using this
def aPa (ls : List (aE false)) : Prop := ∀ (i0 : Int) (s1 : ByteArray) (e2 : List (List (aE false))) (e3 : List (List (aE false))), ls = [.int .i64 i0, .str s1, .sl fP e2, .sl fP e3] → (∀ k : Int, Dd F.aWF [.leaf (.sl eC (soE e2)), .leaf (.int .i64 k)] [] = some (.leaf (.int .i64 (mkE e2 k)), []))
theorem aFl {es : List (List (aE false))} (hl : es.length ≤ maxLen) (hq : ∀ e ∈ es, cZ e) (hd : ∀ e ∈ es, aPa e) : ∀ i : Nat, i ≤ es.length → ∀ k : Int,
    fQ Dd (oI eC (soE es) k i) = some (.leaf (.int .i64 (mkE (es.drop i) k)), []) := by
  have hC : (soE es).length = es.length := pJ es
  refine cT ?_ ?_
  · intro k; rw [vW]; simp [hC, mkE]
  · intro i hi ih k
    have hci := hd _ (List.getElem_mem hi)
    obtain ⟨i0, s1, e2, e3, he, h1, h2, q2, h3, q3⟩ := (hq _ (List.getElem_mem hi)).ex
    rw [vW, kP hi]
    simp only [Int.ofNat_lt, hi, hC, decide_true, aD, Int.natCast_nonneg, Bool.and_true, Int.toNat_natCast, aG, bA (Nat.lt_of_lt_of_le hi hl), aR (aAv fun e he => (hq e he).len), vP hi, fS, Option.bind_some, bH, cE]
    rw [he]
    have c2 := hci i0 s1 e2 e3 he
    have c3 := mD h3 q3
    simp only [soL, soF, cU, dA, eR, fC, List.getElem?_cons_zero, List.getElem?_cons_succ, nI, St.eval, List.getD_cons_zero, List.getD_cons_succ, SV.plain, aDN, aDk, aDd, and_self, ite_true, if_true, aAG, true_and, and_true, c2, c3, fS, Option.bind_some, bH, cE, cP, ih]
    simp only [mkE, mkL, mkF]
theorem zW {es : List (List (aE false))} (hl : es.length ≤ maxLen) (hq : ∀ e ∈ es, cZ e) (hd : ∀ e ∈ es, aPa e) (k : Int) : Dd F.aWF [.leaf (.sl eC (soE es)), .leaf (.int .i64 k)] [] = some (.leaf (.int .i64 (mkE es k)), []) := by
  apply mN rfl
  rw [aEB]
  have := aFl hl hq hd 0 (Nat.zero_le _) k
  simpa using this
theorem aUb {ls : List (aE false)} (h : cZ ls) : aPa ls := by
  induction h with
  | mk i0 s1 e2 e3 h1 h2 q2 h3 q3 ih2 =>
    intro y0 y1 y2 y3 heq
    simp only [List.cons.injEq, aE.int.injEq, aE.str.injEq, aE.sl.injEq, and_true, true_and] at heq
    obtain ⟨rfl, rfl, rfl, rfl⟩ := heq
    exact zW h2 q2 ih2
theorem aBN {es : List (List (aE false))} (hl : es.length ≤ maxLen) (hq : ∀ e ∈ es, cZ e) (k : Int) : Dd F.aWF [.leaf (.sl eC (soE es)), .leaf (.int .i64 k)] [] = some (.leaf (.int .i64 (mkE es k)), []) := zW hl hq (fun e he => aUb (hq e he)) k
theorem aHd {es : List (List (aE false))} (hl : es.length ≤ maxLen) (hq : ∀ e ∈ es, kO e) : ∀ i : Nat, i ≤ es.length → ∀ k : Int,
    iH Dd (qS eC (soE es) k i) = some (.leaf (.int .i64 (mkE (es.drop i) k)), []) := by
  have hC : (soE es).length = es.length := pJ es
  refine cT ?_ ?_
  · intro k; rw [zX]; simp [hC, mkE]
  · intro i hi ih k
    obtain ⟨s0, i1, s2, e3, e4, he, h0, h2, h3, q3, h4, q4⟩ := (hq _ (List.getElem_mem hi)).ex
    rw [zX, kP hi]
    simp only [Int.ofNat_lt, hi, hC, decide_true, aD, Int.natCast_nonneg, Bool.and_true, Int.toNat_natCast, aG, bA (Nat.lt_of_lt_of_le hi hl), aR (aAv fun e he => (hq e he).len), vP hi, fS, Option.bind_some, bH, cE]
    rw [he]
    have c3 := aBN h3 q3
    have c4 := mD h4 q4
    simp only [soL, soF, cU, dA, eR, fC, List.getElem?_cons_zero, List.getElem?_cons_succ, nI, St.eval, List.getD_cons_zero, List.getD_cons_succ, SV.plain, aDN, aDk, aDd, and_self, ite_true, if_true, aAG, true_and, and_true, c3, c4, fS, Option.bind_some, bH, cE, cP, ih]
    simp only [mkE, mkL, mkF]
theorem aLl {es : List (List (aE false))} (hl : es.length ≤ maxLen) (hq : ∀ e ∈ es, kO e) (k : Int) : Dd F.aW0 [.leaf (.sl eC (soE es)), .leaf (.int .i64 k)] [] = some (.leaf (.int .i64 (mkE es k)), []) := by
  apply mN rfl
  rw [aGs]
  have := aHd hl hq 0 (Nat.zero_le _) k
  simpa using this
theorem aH2 {es : List (List (aE false))} (hl : es.length ≤ maxLen) (hq : ∀ e ∈ es, gR e) : ∀ i : Nat, i ≤ es.length → ∀ k : Int,
    iE Dd (qU eC (soE es) k i) = some (.leaf (.int .i64 (mkE (es.drop i) k)), []) := by
  have hC : (soE es).length = es.length := pJ es
  refine cT ?_ ?_
  · intro k; rw [zQ]; simp [hC, mkE]
  · intro i hi ih k
    obtain ⟨s0, e1, he, h0, h1, q1⟩ := (hq _ (List.getElem_mem hi)).ex
    rw [zQ, kP hi]
    simp only [Int.ofNat_lt, hi, hC, decide_true, aD, Int.natCast_nonneg, Bool.and_true, Int.toNat_natCast, aG, bA (Nat.lt_of_lt_of_le hi hl), aR (aAv fun e he => (hq e he).len), vP hi, fS, Option.bind_some, bH, cE]
    rw [he]
    have c1 := aLl h1 q1
    simp only [soL, soF, cU, dA, eR, fC, List.getElem?_cons_zero, List.getElem?_cons_succ, nI, St.eval, List.getD_cons_zero, List.getD_cons_succ, SV.plain, aDN, aDk, aDd, and_self, ite_true, if_true, aAG, true_and, and_true, c1, fS, Option.bind_some, bH, cE, cP, ih]
    simp only [mkE, mkL, mkF]
theorem pW {es : List (List (aE false))} (hl : es.length ≤ maxLen) (hq : ∀ e ∈ es, gR e) (k : Int) : Dd F.aW9 [.leaf (.sl eC (soE es)), .leaf (.int .i64 k)] [] = some (.leaf (.int .i64 (mkE es k)), []) := by
  apply mN rfl
  rw [aGp]
  have := aH2 hl hq 0 (Nat.zero_le _) k
  simpa using this
theorem aEJ {es : List (List (aE false))} (hl : es.length ≤ maxLen) (hq : ∀ e ∈ es, dH e) : ∀ i : Nat, i ≤ es.length → ∀ k : Int,
    fR Dd (oB eC (soE es) k i) = some (.leaf (.int .i64 (mkE (es.drop i) k)), []) := by
  have hC : (soE es).length = es.length := pJ es
  refine cT ?_ ?_
  · intro k; rw [wJ]; simp [hC, mkE]
  · intro i hi ih k
    obtain ⟨s0, s1, s2, s3, b4, i5, s6, e7, e8, e9, he, h0, h1, h2, h3, h6, h7, q7, h8, q8, h9, q9⟩ := (hq _ (List.getElem_mem hi)).ex
    rw [wJ, kP hi]
    simp only [Int.ofNat_lt, hi, hC, decide_true, aD, Int.natCast_nonneg, Bool.and_true, Int.toNat_natCast, aG, bA (Nat.lt_of_lt_of_le hi hl), aR (aAv fun e he => (hq e he).len), vP hi, fS, Option.bind_some, bH, cE]
    rw [he]
    have c7 := aBN h7 q7
    have c8 := mD h8 q8
    have c9 := pW h9 q9
    simp only [soL, soF, cU, dA, eR, fC, List.getElem?_cons_zero, List.getElem?_cons_succ, nI, St.eval, List.getD_cons_zero, List.getD_cons_succ, SV.plain, aDN, aDk, aDd, and_self, ite_true, if_true, aAG, true_and, and_true, c7, c8, c9, fS, Option.bind_some, bH, cE, cP, ih]
    simp only [mkE, mkL, mkF]
theorem xG {es : List (List (aE false))} (hl : es.length ≤ maxLen) (hq : ∀ e ∈ es, dH e) (k : Int) : Dd F.aWE [.leaf (.sl eC (soE es)), .leaf (.int .i64 k)] [] = some (.leaf (.int .i64 (mkE es k)), []) := by
  apply mN rfl
  rw [aEz]
  have := aEJ hl hq 0 (Nat.zero_le _) k
  simpa using this
theorem aCM {es : List (List (aE false))} (hl : es.length ≤ maxLen) (hq : ∀ e ∈ es, cF e) : ∀ i : Nat, i ≤ es.length → ∀ k : Int,
    eM Dd (lK eC (soE es) k i) = some (.leaf (.int .i64 (mkE (es.drop i) k)), []) := by
  have hC : (soE es).length = es.length := pJ es
  refine cT ?_ ?_
  · intro k; rw [sG]; simp [hC, mkE]
  · intro i hi ih k
    obtain ⟨s0, s1, e2, s3, s4, e5, he, h0, h1, h2, q2, h3, h4, h5, q5⟩ := (hq _ (List.getElem_mem hi)).ex
    rw [sG, kP hi]
    simp only [Int.ofNat_lt, hi, hC, decide_true, aD, Int.natCast_nonneg, Bool.and_true, Int.toNat_natCast, aG, bA (Nat.lt_of_lt_of_le hi hl), aR (aAv fun e he => (hq e he).len), vP hi, fS, Option.bind_some, bH, cE]
    rw [he]
    have c2 := xG h2 q2
    have c5 := pW h5 q5
    simp only [soL, soF, cU, dA, eR, fC, List.getElem?_cons_zero, List.getElem?_cons_succ, nI, St.eval, List.getD_cons_zero, List.getD_cons_succ, SV.plain, aDN, aDk, aDd, and_self, ite_true, if_true, aAG, true_and, and_true, c2, c5, fS, Option.bind_some, bH, cE, cP, ih]
    simp only [mkE, mkL, mkF]
theorem zR {es : List (List (aE false))} (hl : es.length ≤ maxLen) (hq : ∀ e ∈ es, cF e) (k : Int) : Dd F.aWc [.leaf (.sl eC (soE es)), .leaf (.int .i64 k)] [] = some (.leaf (.int .i64 (mkE es k)), []) := by
  apply mN rfl
  rw [aBY]
  have := aCM hl hq 0 (Nat.zero_le _) k
  simpa using this
theorem aDL {es : List (List (aE false))} (hl : es.length ≤ maxLen) (hq : ∀ e ∈ es, cY e) : ∀ i : Nat, i ≤ es.length → ∀ k : Int,
    eS Dd (mK eC (soE es) k i) = some (.leaf (.int .i64 (mkE (es.drop i) k)), []) := by
  have hC : (soE es).length = es.length := pJ es
  refine cT ?_ ?_
  · intro k; rw [sY]; simp [hC, mkE]
  · intro i hi ih k
    obtain ⟨s0, s1, e2, he, h0, h1, h2, q2⟩ := (hq _ (List.getElem_mem hi)).ex
    rw [sY, kP hi]
    simp only [Int.ofNat_lt, hi, hC, decide_true, aD, Int.natCast_nonneg, Bool.and_true, Int.toNat_natCast, aG, bA (Nat.lt_of_lt_of_le hi hl), aR (aAv fun e he => (hq e he).len), vP hi, fS, Option.bind_some, bH, cE]
    rw [he]
    have c2 := pW h2 q2
    simp only [soL, soF, cU, dA, eR, fC, List.getElem?_cons_zero, List.getElem?_cons_succ, nI, St.eval, List.getD_cons_zero, List.getD_cons_succ, SV.plain, aDN, aDk, aDd, and_self, ite_true, if_true, aAG, true_and, and_true, c2, fS, Option.bind_some, bH, cE, cP, ih]
    simp only [mkE, mkL, mkF]
theorem aAf {es : List (List (aE false))} (hl : es.length ≤ maxLen) (hq : ∀ e ∈ es, cY e) (k : Int) : Dd F.aWj [.leaf (.sl eC (soE es)), .leaf (.int .i64 k)] [] = some (.leaf (.int .i64 (mkE es k)), []) := by
  apply mN rfl
  rw [aCw]
  have := aDL hl hq 0 (Nat.zero_le _) k
  simpa using this
theorem aGx {es : List (List (aE false))} (hl : es.length ≤ maxLen) (hq : ∀ e ∈ es, eX e) : ∀ i : Nat, i ≤ es.length → ∀ k : Int,
    gI Dd (pO eC (soE es) k i) = some (.leaf (.int .i64 (mkE (es.drop i) k)), []) := by
  have hC : (soE es).length = es.length := pJ es
  refine cT ?_ ?_
  · intro k; rw [xM]; simp [hC, mkE]
  · intro i hi ih k
    obtain ⟨i0, s1, he, h1⟩ := (hq _ (List.getElem_mem hi)).ex
    rw [xM, kP hi]
    simp only [Int.ofNat_lt, hi, hC, decide_true, aD, Int.natCast_nonneg, Bool.and_true, Int.toNat_natCast, aG, bA (Nat.lt_of_lt_of_le hi hl), aR (aAv fun e he => (hq e he).len), vP hi, fS, Option.bind_some, bH, cE]
    rw [he]
    simp only [soL, soF, cU, dA, eR, fC, List.getElem?_cons_zero, List.getElem?_cons_succ, nI, St.eval, List.getD_cons_zero, List.getD_cons_succ, SV.plain, aDN, aDk, aDd, and_self, ite_true, if_true, aAG, true_and, and_true, fS, Option.bind_some, bH, cE, cP, ih]
    simp only [mkE, mkL, mkF]
theorem yB {es : List (List (aE false))} (hl : es.length ≤ maxLen) (hq : ∀ e ∈ es, eX e) (k : Int) : Dd F.aWY [.leaf (.sl eC (soE es)), .leaf (.int .i64 k)] [] = some (.leaf (.int .i64 (mkE es k)), []) := by
  apply mN rfl
  rw [aFn]
  have := aGx hl hq 0 (Nat.zero_le _) k
  simpa using this
theorem aHp {es : List (List (aE false))} (hl : es.length ≤ maxLen) (hq : ∀ e ∈ es, dM e) : ∀ i : Nat, i ≤ es.length → ∀ k : Int,
    hX Dd (qR eC (soE es) k i) = some (.leaf (.int .i64 (mkE (es.drop i) k)), []) := by
  have hC : (soE es).length = es.length := pJ es
  refine cT ?_ ?_
  · intro k; rw [zG]; simp [hC, mkE]
  · intro i hi ih k
    obtain ⟨i0, b1, s2, s3, e4, e5, e6, e7, e8, b9, e10, he, h2, h3, h4, q4, h5, q5, h6, q6, h7, q7, h8, q8, h10, q10⟩ := (hq _ (List.getElem_mem hi)).ex
    rw [zG, kP hi]
    simp only [Int.ofNat_lt, hi, hC, decide_true, aD, Int.natCast_nonneg, Bool.and_true, Int.toNat_natCast, aG, bA (Nat.lt_of_lt_of_le hi hl), aR (aAv fun e he => (hq e he).len), vP hi, fS, Option.bind_some, bH, cE]
    rw [he]
    have c4 := mD h4 q4
    have c5 := zR h5 q5
    have c6 := xG h6 q6
    have c7 := aAf h7 q7
    have c8 := yB h8 q8
    have c10 := pW h10 q10
    simp only [soL, soF, cU, dA, eR, fC, List.getElem?_cons_zero, List.getElem?_cons_succ, nI, St.eval, List.getD_cons_zero, List.getD_cons_succ, SV.plain, aDN, aDk, aDd, and_self, ite_true, if_true, aAG, true_and, and_true, c4, c5, c6, c7, c8, c10, fS, Option.bind_some, bH, cE, cP, ih]
    simp only [mkE, mkL, mkF]
theorem aEa {es : List (List (aE false))} (hl : es.length ≤ maxLen) (hq : ∀ e ∈ es, dM e) (k : Int) : Dd F.aXl [.leaf (.sl eC (soE es)), .leaf (.int .i64 k)] [] = some (.leaf (.int .i64 (mkE es k)), []) := by
  apply mN rfl
  rw [aGg]
  have := aHp hl hq 0 (Nat.zero_le _) k
  simpa using this
theorem aMW {ls : List (aE false)} (h : dM ls) (k : Int) : Dd F.aXw [.agg (saL ls), .leaf (.int .i64 k)] [] = some (.leaf (.int .i64 (msL ls k)), []) := by
  cases h with
  | mk i0 b1 s2 s3 e4 e5 e6 e7 e8 b9 e10 h2 h3 h4 q4 h5 q5 h6 q6 h7 q7 h8 q8 h10 q10 =>
    apply mN rfl
    simp only [saL, saF]
    rw [aHv]
    simp only [mD h4 q4, zR h5 q5, xG h6 q6, aAf h7 q7, yB h8 q8, pW h10 q10, Option.bind_some, bH, cP, msL]
theorem aJB {ls : List (aE false)} (h : bQ ls) (k : Int) : Dd F.aWw [.agg (saL ls), .leaf (.int .i64 k)] [] = some (.leaf (.int .i64 (msL ls k)), []) := by
  cases h with
  | mk e0 e1 e2 h0 q0 h1 q1 h2 q2 =>
    apply mN rfl
    simp only [saL, saF]
    rw [aEs]
    simp only [aEa h0 q0, aEa h1 q1, yB h2 q2, Option.bind_some, bH, cP, msL]
end Go.Vs
end
section
open Go Go.Vs Go.Proofs
set_option linter.unusedVariables false
set_option linter.unusedSimpArgs false
namespace Go.Vs
noncomputable def xX (k : Int) : List (aE false) := [.int .i64 (k), .str (mtx (IntKind.i64.wrap (k + 1))), .str (mtx (IntKind.i64.wrap (IntKind.i64.wrap (k + 1) + 1)))]
def mZ (k : Int) : Int := IntKind.i64.wrap (IntKind.i64.wrap (IntKind.i64.wrap (k + 1) + 1) + 1)
noncomputable def dO : Nat → Int → List (List (aE false))
  | 0, _ => []
  | n + 1, k => xX k :: dO n (mZ k)
def fU : Nat → Int → Int
  | 0, k => k
  | n + 1, k => fU n (mZ k)
theorem aAc : ∀ (n : Nat) (k : Int), fU (n + 1) k = mZ (fU n k)
  | 0, _ => rfl
  | n + 1, k => aAc n (mZ k)
theorem wL : ∀ (n : Nat) (k : Int), (dO n k).length = n
  | 0, _ => rfl
  | n + 1, k => by rw [dO, List.length_cons, wL n]
theorem aA4 : ∀ (n : Nat) (k : Int), ∀ e ∈ dO n k, e.length = 3
  | 0, _, e, h => by simp [dO] at h
  | n + 1, k, e, h => by
    rcases List.mem_cons.1 h with rfl | h
    · rfl
    · exact aA4 n _ e h
theorem aA5 : ∀ (n : Nat) (k : Int) (i : Nat) (h : i < (dO n k).length), (dO n k)[i] = xX (fU i k)
  | 0, _, i, h => by simp [dO] at h
  | n + 1, k, 0, h => rfl
  | n + 1, k, i + 1, h => aA5 n (mZ k) i (by simpa [dO] using h)
theorem aC0 {n : Nat} {k : Int} (hl : n ≤ maxLen) : ∀ i : Nat, i ≤ n → ∀ z : List (SV false), z.all SV.flat = true → (n - i) * 3 ≤ z.length →
    eK Dn (lP n (fU i k) i (gP (dO n k) i z)) = some (aJ (fU n k), [gP (dO n k) n (z.drop ((n - i) * 3))]) := by
  have hN := wL n k
  have hall := aA4 n k
  refine cT ?_ ?_
  · intro z hz hzl
    rw [sC]
    have hf := aHy (l := dO n k) (i := n) hz
    simp [hf]
  · intro i hi ih z hz hzl
    have hlen := gT (z := z) hall (i := i) (by omega)
    have hp := qB (z := z) hall (i := i) (by omega)
    rw [aA5] at hp
    simp only [xX, List.map_cons, List.map_nil] at hp
    have hd : (n - i) * 3 = (n - (i + 1)) * 3 + 3 := by rw [← Nat.succ_mul]; congr 1; omega
    rw [sC]
    simp only [Int.ofNat_lt, hi, decide_true, aD, Int.natCast_nonneg, Bool.and_true, aG, bA (Nat.lt_of_lt_of_le hi hl), List.getElem_toArray, List.getElem_cons_zero, List.getElem_cons_succ, Nat.zero_add, Nat.add_zero, Int.toNat_natCast, aH3, Option.bind_some, bH, cE]
    have b0 : i * 3 + 1 ≤ (gP (dO n k) i z).length := by rw [hlen]; omega
    simp only [b0, decide_true, aG]
    have b1 : ∀ l : List (SV false), l.length = 1 → i * 3 + 1 + 1 ≤ (kW (gP (dO n k) i z) (i * 3) l).length := fun l hl0 => by rw [aIL (by rw [hl0, hlen]; omega), hlen]; omega
    have j1 : ∀ (l : List (SV false)) (x : SV false), l.length = 1 → kW (kW (gP (dO n k) i z) (i * 3) l) (i * 3 + 1) [x] = kW (gP (dO n k) i z) (i * 3) (l ++ [x]) := fun l x hl0 => aOr (by rw [hl0]) (by rw [hl0, hlen]; simp; omega)
    have b2 : ∀ l : List (SV false), l.length = 2 → i * 3 + 2 + 1 ≤ (kW (gP (dO n k) i z) (i * 3) l).length := fun l hl0 => by rw [aIL (by rw [hl0, hlen]; omega), hlen]; omega
    have j2 : ∀ (l : List (SV false)) (x : SV false), l.length = 2 → kW (kW (gP (dO n k) i z) (i * 3) l) (i * 3 + 2) [x] = kW (gP (dO n k) i z) (i * 3) (l ++ [x]) := fun l x hl0 => aOr (by rw [hl0]) (by rw [hl0, hlen]; simp; omega)
    rw [decide_eq_true (b1 _ rfl), aG, j1 _ _ rfl]
    simp only [List.cons_append, List.nil_append]
    rw [decide_eq_true (b2 _ rfl), aG, j2 _ _ rfl]
    simp only [List.cons_append, List.nil_append]
    rw [hp]
    have hz2 : (z.drop 3).all SV.flat = true := List.all_eq_true.2 fun x hx => List.all_eq_true.1 hz x (List.mem_of_mem_drop hx)
    have := ih (z.drop 3) hz2 (by rw [List.length_drop]; omega)
    rw [aAc] at this
    simp only [mZ] at this
    rw [this, List.drop_drop, hd, Nat.add_comm 3]
theorem aEA {n : Nat} {k : Int} (hl : n ≤ maxLen) {z : List (SV false)} (hz : z.all SV.flat = true) (hzl : n * 3 ≤ z.length) :
    Dn F.aWo [.bsl 0 3 0 n, aJ k] [z] = some (aJ (fU n k), [gP (dO n k) n (z.drop (n * 3))]) := by
  refine aQ ?_
  rw [aB3]
  have := aC0 (n := n) (k := k) hl 0 (Nat.zero_le _) z hz (by simpa using hzl)
  simpa [gP, fU] using this
theorem aDH {n : Nat} {k : Int} (hl : n ≤ maxLen) {z : List (SV false)} (hz : z.all SV.flat = true) : ∀ i : Nat, i ≤ n →
    eJ Dn (lH n (fU i k) i (gP (dO n k) n z)) = some (aJ (fU n k), [gP (dO n k) n z]) := by
  have hN := wL n k
  have hall := aA4 n k
  have hf := aHy (l := dO n k) (i := n) hz
  refine cT ?_ ?_
  · rw [sF]
    simp [hf]
  · intro i hi ih
    have hi' : i < (dO n k).length := by omega
    rw [aAc] at ih
    simp only [mZ] at ih
    rw [sF]
    simp only [Int.ofNat_lt, hi, decide_true, aD, Int.natCast_nonneg, Bool.and_true, aG, bA (Nat.lt_of_lt_of_le hi hl), List.getElem_toArray, List.getElem_cons_zero, List.getElem_cons_succ, Nat.zero_add, Nat.add_zero, Int.toNat_natCast, aH3, Option.bind_some, bH, cE]
    have get : ∀ (o p : Nat) (ho : o < 3) (hp : p = i * 3 + o) (kk : SV false → Res), aHz (gP (dO n k) n z) p kk = kk (.leaf ((xX (fU i k))[o]'ho)) := fun o p ho hp kk => by
      have := aTo (r := z) hall hi' ho hp kk
      rw [hN] at this
      rw [this]
      simp only [aA5]
      try rfl
    rw [get 0 _ (by omega) (by omega)]
    simp only [xX, List.getElem_cons_zero, List.getElem_cons_succ, SV.drop, bH, cP, cE, bne_self_eq_false, beq_self_eq_true, Bool.not_true, aC]
    rw [get 1 _ (by omega) (by omega)]
    simp only [xX, List.getElem_cons_zero, List.getElem_cons_succ, SV.drop, bH, cP, cE, bne_self_eq_false, beq_self_eq_true, Bool.not_true, aC]
    rw [get 2 _ (by omega) (by omega)]
    simp only [xX, List.getElem_cons_zero, List.getElem_cons_succ, SV.drop, bH, cP, cE, bne_self_eq_false, beq_self_eq_true, Bool.not_true, aC]
    exact ih
theorem aEm {n : Nat} {k : Int} (hl : n ≤ maxLen) {z : List (SV false)} (hz : z.all SV.flat = true) :
    Dn F.aWl [.bsl 0 3 0 n, aJ k] [gP (dO n k) n z] = some (aJ (fU n k), [gP (dO n k) n z]) := by
  refine aQ ?_
  rw [aB0]
  have := aDH (n := n) (k := k) hl hz 0 (Nat.zero_le _)
  simpa [fU] using this
theorem aCS (k : Int) : Dn F.aWo [vsl [], aJ k] [] = some (aJ k, []) := by
  refine aQ ?_
  rw [aEo, aC9]
  simp
theorem aCJ (k : Int) : Dn F.aWl [vsl [], aJ k] [] = some (aJ k, []) := by
  refine aQ ?_
  rw [aEr, aDt]
  simp
end Go.Vs
end
section
namespace Go.Vs
mutual
theorem aST (c : Fl true) : ∀ l : aE false, reF er (reF (fl c) l) = l
  | .sl _ es => by rw [reF, reF, aOG c es]; cases ‹Fl false›; rfl
  | .bool _ | .int _ _ | .str _ | .unk | .nl _ => by simp [reF]
theorem aOO (c : Fl true) : ∀ l : List (aE false), reL er (reL (fl c) l) = l
  | [] => by rw [reL, reL]
  | l :: r => by rw [reL, reL, aST c l, aOO c r]
theorem aOG (c : Fl true) : ∀ l : List (List (aE false)), reE er (reE (fl c) l) = l
  | [] => by rw [reE, reE]
  | l :: r => by rw [reE, reE, aOO c l, aOG c r]
end
theorem aUJ {m m' : Bool} {φ : Fl m → Fl m'} (a b : List (List (aE m))) : reE φ (a ++ b) = reE φ a ++ reE φ b := by rw [xF, xF, xF, List.map_append]
theorem aTa (c : Fl true) (es : List (List (aE false))) : reS er (.leaf (.sl c (reE (fl c) es))) = vsl es := by
  simp only [reS, reF, aOG]
theorem yO (c : Fl true) (ls : List (aE false)) : reS er (.agg (reL (fl c) ls)) = .agg ls := by
  simp only [reS, aOO]
end Go.Vs
end
section
open Go Go.Vs Go.Proofs
set_option linter.unusedVariables false
set_option linter.unusedSimpArgs false
set_option maxRecDepth 100000
namespace Go.Vs
theorem aS3 {N : Env} {ev0 ev1 : Value} (hN : N.K = KOf ev0 ev1) (hE : xL ev0 ∧ xL ev1) : mT Tryz.prog N Dn := aKB hP hG (aRd hN hE.1 hE.2) Hs
theorem zM {N : Env} {ev0 ev1 : Value} (hN : N.K = KOf ev0 ev1) (hE : xL ev0 ∧ xL ev1) : mT Tryz.prog N Dd := aKB hP hG (aP6 (aS3 hN hE) aCV) Hs
section
variable {c : Fl true}
theorem aR5 {x : SV false} (h : x.flat = true) : reS er (reS li x) = x := by
  have e : ∀ es : List (List (aE false)), reE er (reE li es) = es := fun es => aOG bL es
  cases x <;> simp [SV.flat] at h <;> simp only [reS]
  · rw [show reF er (reF li _) = _ from aST bL _]
  · rw [e]
  · rw [show reL er (reL li _) = _ from aOO bL _]
theorem aNW : ∀ {l : List (SV false)}, l.all SV.flat = true → (l.map (reS li)).map (reS er) = l
  | [], _ => rfl
  | x :: l, h => by
    rw [List.all_cons, Bool.and_eq_true] at h
    rw [List.map_cons, List.map_cons, aR5 h.1, aNW h.2]
theorem aS8 {l : List (SV false)} (h : l.all SV.flat = true) : (l.map (reS li)).all SV.flat = true := by
  rw [List.all_map]
  exact List.all_eq_true.2 fun x hx => aJj x (List.all_eq_true.1 h x hx)
noncomputable def aMs (n k : Nat) : List (SV false) := gP (dO n 1) n ((List.replicate k SV.any).drop (n * 3))
theorem aMK (k : Nat) : (List.replicate k (SV.any (m := false))).all SV.flat = true := by
  rw [List.all_eq_true]; intro x hx; rw [List.eq_of_mem_replicate hx]; rfl
theorem aNX {l : List (SV false)} (h : l.all SV.flat = true) (n : Nat) : (l.drop n).all SV.flat = true :=
  List.all_eq_true.2 fun x hx => List.all_eq_true.1 h x (List.mem_of_mem_drop hx)
theorem aK3 (n k : Nat) : (aMs n k).all SV.flat = true := aHy (aNX (aMK k) _)
theorem aKl {n k : Nat} (hl : n ≤ maxLen) (hk : n * 3 ≤ k) : Dd F.aWo [.bsl 0 3 0 n, .leaf (.int .i64 1)] [List.replicate k .any] = some (.leaf (.int .i64 (fU n 1)), [(aMs n k).map (reS li)]) :=
  uK rfl (aEA (k := 1) hl (aMK k) (by rw [List.length_replicate]; exact hk)) rfl (by rw [List.map_cons, List.map_replicate]; rfl) rfl
theorem aKQ {n k : Nat} (hl : n ≤ maxLen) : Dd F.aWl [.bsl 0 3 0 n, .leaf (.int .i64 1)] [(aMs n k).map (reS li)] = some (.leaf (.int .i64 (fU n 1)), [(aMs n k).map (reS li)]) :=
  uK rfl (aEm (k := 1) hl (aNX (aMK k) _)) rfl (by rw [List.map_cons, aNW (aK3 n k)]; rfl) rfl
theorem aG1 : ∀ (n : Nat) (k : Int), 0 ≤ k → k + 3 * n ≤ cap → 0 ≤ fU n k
  | 0, k, h, _ => h
  | n + 1, k, h, hc => by
    rw [fU]
    have e : mZ k = k + 3 := by
      unfold mZ
      simp only [cap] at hc
      rw [qG (z := k + 1) (by omega) (by omega), qG (z := k + 1 + 1) (by omega) (by omega), qG (z := k + 1 + 1 + 1) (by omega) (by omega)]; omega
    rw [e]
    exact aG1 n _ (by omega) (by omega)
end
end Go.Vs
end
section
open Go Go.Vs Go.Proofs
set_option linter.unusedVariables false
set_option linter.unusedSimpArgs false
set_option maxRecDepth 100000
namespace Go.Vs
noncomputable abbrev body : Code := nR Tryz.prog F.aV5
theorem hc0 : (sK Tryz.prog F.aV5).body = some body := by kernel_rfl
theorem hfn : Tryz.prog.funcs[F.aV5]? = some (sK Tryz.prog F.aV5) := by kernel_rfl
theorem spA : kN (0 + (6 + 1)) body = true := by kernel_rfl
theorem spB : kN (7 + (1 + 1)) body = true := by kernel_rfl
theorem spC : kN (9 + (3 + 1)) body = true := by kernel_rfl
theorem spD : kN (13 + (3 + 1)) body = true := by kernel_rfl
theorem nlD : xZ (sub body (way 17)) = true := by kernel_rfl
structure aPs (x0_0 : List (List (aE false))) (x0_1 : List (List (aE false))) (x0_2 : List (List (aE false))) (x1_0 : Int) (x1_1 : Bool) (x1_2 : ByteArray) (x1_3 : ByteArray) (x1_4 : List (List (aE false))) (x1_5 : List (List (aE false))) (x1_6 : List (List (aE false))) (x1_7 : List (List (aE false))) (x1_8 : List (List (aE false))) (x1_9 : Bool) (x1_10 : List (List (aE false))) (w : List (List (aE false))) : Prop where
  wl : w.length ≤ maxLen
  wc : (w.length : Int) * 3 + 1 ≤ cap
  wq : ∀ e ∈ w, dP e
  spc : ∀ c0 c1 : Fl true, Dd F.aWf [.agg [.sl c0 (reE (fl c0) x0_0), .sl c0 (reE (fl c0) x0_1), .sl c0 (reE (fl c0) x0_2)], .agg [.int .i64 x1_0, .bool x1_1, .str x1_2, .str x1_3, .sl c1 (reE (fl c1) x1_4), .sl c1 (reE (fl c1) x1_5), .sl c1 (reE (fl c1) x1_6), .sl c1 (reE (fl c1) x1_7), .sl c1 (reE (fl c1) x1_8), .bool x1_9, .sl c1 (reE (fl c1) x1_10)]] [] = some (.own (some T.aXJ) (reE (fl bL) w), [])
  imp : ∀ c0 c1 : Fl true, Dd F.aWi [.agg [.sl c0 (reE (fl c0) x0_0), .sl c0 (reE (fl c0) x0_1), .sl c0 (reE (fl c0) x0_2)], .agg [.int .i64 x1_0, .bool x1_1, .str x1_2, .str x1_3, .sl c1 (reE (fl c1) x1_4), .sl c1 (reE (fl c1) x1_5), .sl c1 (reE (fl c1) x1_6), .sl c1 (reE (fl c1) x1_7), .sl c1 (reE (fl c1) x1_8), .bool x1_9, .sl c1 (reE (fl c1) x1_10)]] [] = some (.own (some T.aXJ) (reE (fl aM) w), [])
  mn : ¬ msL [.int .i64 x1_0, .bool x1_1, .str x1_2, .str x1_3, .sl fP x1_4, .sl fP x1_5, .sl fP x1_6, .sl fP x1_7, .sl fP x1_8, .bool x1_9, .sl fP x1_10] (msL [.sl fP x0_0, .sl fP x0_1, .sl fP x0_2] (1)) < 0
  to0 : ∀ c : Fl true, Dd F.aW4 [.agg [.sl c (reE (fl c) x0_0), .sl c (reE (fl c) x0_1), .sl c (reE (fl c) x0_2)]] [] = some (.agg [.sl aM (reE (fl aM) x0_0), .sl aM (reE (fl aM) x0_1), .sl aM (reE (fl aM) x0_2)], [])
  eq0 : ∀ c c' : Fl true, Dd F.aXh [.agg [.sl c (reE (fl c) x0_0), .sl c (reE (fl c) x0_1), .sl c (reE (fl c) x0_2)], .agg [.sl c' (reE (fl c') x0_0), .sl c' (reE (fl c') x0_1), .sl c' (reE (fl c') x0_2)]] [] = some (.leaf (.bool true), [])
  mk0 : ∀ k : Int, Dd F.aWw [.agg [.sl eC (soE x0_0), .sl eC (soE x0_1), .sl eC (soE x0_2)], .leaf (.int .i64 k)] [] = some (.leaf (.int .i64 (msL [.sl fP x0_0, .sl fP x0_1, .sl fP x0_2] (k))), [])
  to1 : ∀ c : Fl true, Dd F.aYq [.agg [.int .i64 x1_0, .bool x1_1, .str x1_2, .str x1_3, .sl c (reE (fl c) x1_4), .sl c (reE (fl c) x1_5), .sl c (reE (fl c) x1_6), .sl c (reE (fl c) x1_7), .sl c (reE (fl c) x1_8), .bool x1_9, .sl c (reE (fl c) x1_10)]] [] = some (.agg [.int .i64 x1_0, .bool x1_1, .str x1_2, .str x1_3, .sl aM (reE (fl aM) x1_4), .sl aM (reE (fl aM) x1_5), .sl aM (reE (fl aM) x1_6), .sl aM (reE (fl aM) x1_7), .sl aM (reE (fl aM) x1_8), .bool x1_9, .sl aM (reE (fl aM) x1_10)], [])
  eq1 : ∀ c c' : Fl true, Dd F.aYs [.agg [.int .i64 x1_0, .bool x1_1, .str x1_2, .str x1_3, .sl c (reE (fl c) x1_4), .sl c (reE (fl c) x1_5), .sl c (reE (fl c) x1_6), .sl c (reE (fl c) x1_7), .sl c (reE (fl c) x1_8), .bool x1_9, .sl c (reE (fl c) x1_10)], .agg [.int .i64 x1_0, .bool x1_1, .str x1_2, .str x1_3, .sl c' (reE (fl c') x1_4), .sl c' (reE (fl c') x1_5), .sl c' (reE (fl c') x1_6), .sl c' (reE (fl c') x1_7), .sl c' (reE (fl c') x1_8), .bool x1_9, .sl c' (reE (fl c') x1_10)]] [] = some (.leaf (.bool true), [])
  mk1 : ∀ k : Int, Dd F.aXw [.agg [.int .i64 x1_0, .bool x1_1, .str x1_2, .str x1_3, .sl eC (soE x1_4), .sl eC (soE x1_5), .sl eC (soE x1_6), .sl eC (soE x1_7), .sl eC (soE x1_8), .bool x1_9, .sl eC (soE x1_10)], .leaf (.int .i64 k)] [] = some (.leaf (.int .i64 (msL [.int .i64 x1_0, .bool x1_1, .str x1_2, .str x1_3, .sl fP x1_4, .sl fP x1_5, .sl fP x1_6, .sl fP x1_7, .sl fP x1_8, .bool x1_9, .sl fP x1_10] (k))), [])
section
variable {ev0 ev1 : Value} {x0_0 : List (List (aE false))} {x0_1 : List (List (aE false))} {x0_2 : List (List (aE false))} {x1_0 : Int} {x1_1 : Bool} {x1_2 : ByteArray} {x1_3 : ByteArray} {x1_4 : List (List (aE false))} {x1_5 : List (List (aE false))} {x1_6 : List (List (aE false))} {x1_7 : List (List (aE false))} {x1_8 : List (List (aE false))} {x1_9 : Bool} {x1_10 : List (List (aE false))} {w : List (List (aE false))}
theorem aPs.eqw (h : aPs x0_0 x0_1 x0_2 x1_0 x1_1 x1_2 x1_3 x1_4 x1_5 x1_6 x1_7 x1_8 x1_9 x1_10 w) (c c' : Fl true) : Dd F.aWA [.leaf (.sl c (reE (fl c) w)), .leaf (.sl c' (reE (fl c') w))] [] = some (.leaf (.bool true), []) :=
  uK rfl (aJy h.wl h.wq) (by rw [List.map_cons, List.map_cons, aTa, aTa]; rfl) rfl rfl
theorem aTc : Vs.turn φ1 (fun _ => false) [] ({ tmps := ((((eA tQ bL (reE (fl bL) x0_0) bL (reE (fl bL) x0_1) bL (reE (fl bL) x0_2) tQ x1_0 x1_1 x1_2 x1_3 bL (reE (fl bL) x1_4) bL (reE (fl bL) x1_5) bL (reE (fl bL) x1_6) bL (reE (fl bL) x1_7) bL (reE (fl bL) x1_8) x1_9 bL (reE (fl bL) x1_10) bL (reE (fl bL) w)).tmps.set 2 (.ptr 2 0)).set 3 (.ptr 3 0)).set 6 (.own (some T.aXJ) (reE (fl bL) w))), boxes := (((eA tQ bL (reE (fl bL) x0_0) bL (reE (fl bL) x0_1) bL (reE (fl bL) x0_2) tQ x1_0 x1_1 x1_2 x1_3 bL (reE (fl bL) x1_4) bL (reE (fl bL) x1_5) bL (reE (fl bL) x1_6) bL (reE (fl bL) x1_7) bL (reE (fl bL) x1_8) x1_9 bL (reE (fl bL) x1_10) bL (reE (fl bL) w)).boxes.set 2 (some [.leaf (.sl bL (reE (fl bL) x0_0)), .leaf (.sl bL (reE (fl bL) x0_1)), .leaf (.sl bL (reE (fl bL) x0_2))])).set 3 (some [.leaf (.int .i64 x1_0), .leaf (.bool x1_1), .leaf (.str x1_2), .leaf (.str x1_3), .leaf (.sl bL (reE (fl bL) x1_4)), .leaf (.sl bL (reE (fl bL) x1_5)), .leaf (.sl bL (reE (fl bL) x1_6)), .leaf (.sl bL (reE (fl bL) x1_7)), .leaf (.sl bL (reE (fl bL) x1_8)), .leaf (.bool x1_9), .leaf (.sl bL (reE (fl bL) x1_10))])) } : St true) = eA tQ (φ1 bL) (tuE φ1 (fun _ => false) false (reE (fl bL) x0_0)) (φ1 bL) (tuE φ1 (fun _ => false) false (reE (fl bL) x0_1)) (φ1 bL) (tuE φ1 (fun _ => false) false (reE (fl bL) x0_2)) tQ x1_0 x1_1 x1_2 x1_3 (φ1 bL) (tuE φ1 (fun _ => false) false (reE (fl bL) x1_4)) (φ1 bL) (tuE φ1 (fun _ => false) false (reE (fl bL) x1_5)) (φ1 bL) (tuE φ1 (fun _ => false) false (reE (fl bL) x1_6)) (φ1 bL) (tuE φ1 (fun _ => false) false (reE (fl bL) x1_7)) (φ1 bL) (tuE φ1 (fun _ => false) false (reE (fl bL) x1_8)) x1_9 (φ1 bL) (tuE φ1 (fun _ => false) false (reE (fl bL) x1_10)) (φ1 aM) (tuE φ1 (fun _ => false) false (reE (fl bL) w)) := by
  kernel_rfl
theorem aTt : Vs.turn φ2 (fun _ => false) [] ({ tmps := (((cG tQ tA (reE (fl tA) x0_0) tA (reE (fl tA) x0_1) tA (reE (fl tA) x0_2) tQ x1_0 x1_1 x1_2 x1_3 tA (reE (fl tA) x1_4) tA (reE (fl tA) x1_5) tA (reE (fl tA) x1_6) tA (reE (fl tA) x1_7) tA (reE (fl tA) x1_8) x1_9 tA (reE (fl tA) x1_10) tA (reE (fl tA) w) tQ aM (reE (fl aM) x0_0) aM (reE (fl aM) x0_1) aM (reE (fl aM) x0_2) tQ x1_0 x1_1 x1_2 x1_3 aM (reE (fl aM) x1_4) aM (reE (fl aM) x1_5) aM (reE (fl aM) x1_6) aM (reE (fl aM) x1_7) aM (reE (fl aM) x1_8) x1_9 aM (reE (fl aM) x1_10)).tmps.set 7 (.ptr 7 0)).set 8 (.ptr 8 0)), boxes := (((cG tQ tA (reE (fl tA) x0_0) tA (reE (fl tA) x0_1) tA (reE (fl tA) x0_2) tQ x1_0 x1_1 x1_2 x1_3 tA (reE (fl tA) x1_4) tA (reE (fl tA) x1_5) tA (reE (fl tA) x1_6) tA (reE (fl tA) x1_7) tA (reE (fl tA) x1_8) x1_9 tA (reE (fl tA) x1_10) tA (reE (fl tA) w) tQ aM (reE (fl aM) x0_0) aM (reE (fl aM) x0_1) aM (reE (fl aM) x0_2) tQ x1_0 x1_1 x1_2 x1_3 aM (reE (fl aM) x1_4) aM (reE (fl aM) x1_5) aM (reE (fl aM) x1_6) aM (reE (fl aM) x1_7) aM (reE (fl aM) x1_8) x1_9 aM (reE (fl aM) x1_10)).boxes.set 7 (some [.leaf (.sl aM (reE (fl aM) x0_0)), .leaf (.sl aM (reE (fl aM) x0_1)), .leaf (.sl aM (reE (fl aM) x0_2))])).set 8 (some [.leaf (.int .i64 x1_0), .leaf (.bool x1_1), .leaf (.str x1_2), .leaf (.str x1_3), .leaf (.sl aM (reE (fl aM) x1_4)), .leaf (.sl aM (reE (fl aM) x1_5)), .leaf (.sl aM (reE (fl aM) x1_6)), .leaf (.sl aM (reE (fl aM) x1_7)), .leaf (.sl aM (reE (fl aM) x1_8)), .leaf (.bool x1_9), .leaf (.sl aM (reE (fl aM) x1_10))])) } : St true) = cG tQ (φ2 tA) (tuE φ2 (fun _ => false) false (reE (fl tA) x0_0)) (φ2 tA) (tuE φ2 (fun _ => false) false (reE (fl tA) x0_1)) (φ2 tA) (tuE φ2 (fun _ => false) false (reE (fl tA) x0_2)) tQ x1_0 x1_1 x1_2 x1_3 (φ2 tA) (tuE φ2 (fun _ => false) false (reE (fl tA) x1_4)) (φ2 tA) (tuE φ2 (fun _ => false) false (reE (fl tA) x1_5)) (φ2 tA) (tuE φ2 (fun _ => false) false (reE (fl tA) x1_6)) (φ2 tA) (tuE φ2 (fun _ => false) false (reE (fl tA) x1_7)) (φ2 tA) (tuE φ2 (fun _ => false) false (reE (fl tA) x1_8)) x1_9 (φ2 tA) (tuE φ2 (fun _ => false) false (reE (fl tA) x1_10)) (φ2 tA) (tuE φ2 (fun _ => false) false (reE (fl tA) w)) tQ (φ2 aM) (tuE φ2 (fun _ => false) false (reE (fl aM) x0_0)) (φ2 aM) (tuE φ2 (fun _ => false) false (reE (fl aM) x0_1)) (φ2 aM) (tuE φ2 (fun _ => false) false (reE (fl aM) x0_2)) tQ x1_0 x1_1 x1_2 x1_3 (φ2 aM) (tuE φ2 (fun _ => false) false (reE (fl aM) x1_4)) (φ2 aM) (tuE φ2 (fun _ => false) false (reE (fl aM) x1_5)) (φ2 aM) (tuE φ2 (fun _ => false) false (reE (fl aM) x1_6)) (φ2 aM) (tuE φ2 (fun _ => false) false (reE (fl aM) x1_7)) (φ2 aM) (tuE φ2 (fun _ => false) false (reE (fl aM) x1_8)) x1_9 (φ2 aM) (tuE φ2 (fun _ => false) false (reE (fl aM) x1_10)) := by
  kernel_rfl
theorem aTr : Vs.turn φ3 σ3 [] ({ tmps := (cH tQ tA (reE (fl tA) x0_0) tA (reE (fl tA) x0_1) tA (reE (fl tA) x0_2) tQ x1_0 x1_1 x1_2 x1_3 tA (reE (fl tA) x1_4) tA (reE (fl tA) x1_5) tA (reE (fl tA) x1_6) tA (reE (fl tA) x1_7) tA (reE (fl tA) x1_8) x1_9 tA (reE (fl tA) x1_10) tA (reE (fl tA) w) tQ tX (reE (fl tX) x0_0) tX (reE (fl tX) x0_1) tX (reE (fl tX) x0_2) tQ x1_0 x1_1 x1_2 x1_3 tX (reE (fl tX) x1_4) tX (reE (fl tX) x1_5) tX (reE (fl tX) x1_6) tX (reE (fl tX) x1_7) tX (reE (fl tX) x1_8) x1_9 tX (reE (fl tX) x1_10) aM (reE (fl aM) w)).tmps.set 9 (.own (some T.aXJ) (reE (fl aM) w)), boxes := (cH tQ tA (reE (fl tA) x0_0) tA (reE (fl tA) x0_1) tA (reE (fl tA) x0_2) tQ x1_0 x1_1 x1_2 x1_3 tA (reE (fl tA) x1_4) tA (reE (fl tA) x1_5) tA (reE (fl tA) x1_6) tA (reE (fl tA) x1_7) tA (reE (fl tA) x1_8) x1_9 tA (reE (fl tA) x1_10) tA (reE (fl tA) w) tQ tX (reE (fl tX) x0_0) tX (reE (fl tX) x0_1) tX (reE (fl tX) x0_2) tQ x1_0 x1_1 x1_2 x1_3 tX (reE (fl tX) x1_4) tX (reE (fl tX) x1_5) tX (reE (fl tX) x1_6) tX (reE (fl tX) x1_7) tX (reE (fl tX) x1_8) x1_9 tX (reE (fl tX) x1_10) aM (reE (fl aM) w)).boxes } : St true) = cH tQ (if σ3 tA then eC else φ3 tA) (tuE φ3 σ3 (σ3 tA) (reE (fl tA) x0_0)) (if σ3 tA then eC else φ3 tA) (tuE φ3 σ3 (σ3 tA) (reE (fl tA) x0_1)) (if σ3 tA then eC else φ3 tA) (tuE φ3 σ3 (σ3 tA) (reE (fl tA) x0_2)) tQ x1_0 x1_1 x1_2 x1_3 (if σ3 tA then eC else φ3 tA) (tuE φ3 σ3 (σ3 tA) (reE (fl tA) x1_4)) (if σ3 tA then eC else φ3 tA) (tuE φ3 σ3 (σ3 tA) (reE (fl tA) x1_5)) (if σ3 tA then eC else φ3 tA) (tuE φ3 σ3 (σ3 tA) (reE (fl tA) x1_6)) (if σ3 tA then eC else φ3 tA) (tuE φ3 σ3 (σ3 tA) (reE (fl tA) x1_7)) (if σ3 tA then eC else φ3 tA) (tuE φ3 σ3 (σ3 tA) (reE (fl tA) x1_8)) x1_9 (if σ3 tA then eC else φ3 tA) (tuE φ3 σ3 (σ3 tA) (reE (fl tA) x1_10)) (if σ3 tA then eC else φ3 tA) (tuE φ3 σ3 (σ3 tA) (reE (fl tA) w)) tQ (if σ3 tX then eC else φ3 tX) (tuE φ3 σ3 (σ3 tX) (reE (fl tX) x0_0)) (if σ3 tX then eC else φ3 tX) (tuE φ3 σ3 (σ3 tX) (reE (fl tX) x0_1)) (if σ3 tX then eC else φ3 tX) (tuE φ3 σ3 (σ3 tX) (reE (fl tX) x0_2)) tQ x1_0 x1_1 x1_2 x1_3 (if σ3 tX then eC else φ3 tX) (tuE φ3 σ3 (σ3 tX) (reE (fl tX) x1_4)) (if σ3 tX then eC else φ3 tX) (tuE φ3 σ3 (σ3 tX) (reE (fl tX) x1_5)) (if σ3 tX then eC else φ3 tX) (tuE φ3 σ3 (σ3 tX) (reE (fl tX) x1_6)) (if σ3 tX then eC else φ3 tX) (tuE φ3 σ3 (σ3 tX) (reE (fl tX) x1_7)) (if σ3 tX then eC else φ3 tX) (tuE φ3 σ3 (σ3 tX) (reE (fl tX) x1_8)) x1_9 (if σ3 tX then eC else φ3 tX) (tuE φ3 σ3 (σ3 tX) (reE (fl tX) x1_10)) (if σ3 aM then eC else φ3 aM) (tuE φ3 σ3 (σ3 aM) (reE (fl aM) w)) := by
  kernel_rfl
theorem aUO (n k : Nat) : aQa (Vs.turn φ4 (fun _ => false) [9] (dY tQ tA (reE (fl tA) x0_0) tA (reE (fl tA) x0_1) tA (reE (fl tA) x0_2) tQ x1_0 x1_1 x1_2 x1_3 tA (reE (fl tA) x1_4) tA (reE (fl tA) x1_5) tA (reE (fl tA) x1_6) tA (reE (fl tA) x1_7) tA (reE (fl tA) x1_8) x1_9 tA (reE (fl tA) x1_10) tA (reE (fl tA) w) tG (reE (fl tG) w))) 9 3 n k = qA tQ (φ4 tA) (tuE φ4 (fun _ => false) false (reE (fl tA) x0_0)) (φ4 tA) (tuE φ4 (fun _ => false) false (reE (fl tA) x0_1)) (φ4 tA) (tuE φ4 (fun _ => false) false (reE (fl tA) x0_2)) tQ x1_0 x1_1 x1_2 x1_3 (φ4 tA) (tuE φ4 (fun _ => false) false (reE (fl tA) x1_4)) (φ4 tA) (tuE φ4 (fun _ => false) false (reE (fl tA) x1_5)) (φ4 tA) (tuE φ4 (fun _ => false) false (reE (fl tA) x1_6)) (φ4 tA) (tuE φ4 (fun _ => false) false (reE (fl tA) x1_7)) (φ4 tA) (tuE φ4 (fun _ => false) false (reE (fl tA) x1_8)) x1_9 (φ4 tA) (tuE φ4 (fun _ => false) false (reE (fl tA) x1_10)) (φ4 tA) (tuE φ4 (fun _ => false) false (reE (fl tA) w)) n (List.replicate k .any) := by
  kernel_rfl
theorem aUB : nA p2 ({ tmps := (((cG tQ tA (reE (fl tA) x0_0) tA (reE (fl tA) x0_1) tA (reE (fl tA) x0_2) tQ x1_0 x1_1 x1_2 x1_3 tA (reE (fl tA) x1_4) tA (reE (fl tA) x1_5) tA (reE (fl tA) x1_6) tA (reE (fl tA) x1_7) tA (reE (fl tA) x1_8) x1_9 tA (reE (fl tA) x1_10) tA (reE (fl tA) w) tQ aM (reE (fl aM) x0_0) aM (reE (fl aM) x0_1) aM (reE (fl aM) x0_2) tQ x1_0 x1_1 x1_2 x1_3 aM (reE (fl aM) x1_4) aM (reE (fl aM) x1_5) aM (reE (fl aM) x1_6) aM (reE (fl aM) x1_7) aM (reE (fl aM) x1_8) x1_9 aM (reE (fl aM) x1_10)).tmps.set 7 (.ptr 7 0)).set 8 (.ptr 8 0)), boxes := (((cG tQ tA (reE (fl tA) x0_0) tA (reE (fl tA) x0_1) tA (reE (fl tA) x0_2) tQ x1_0 x1_1 x1_2 x1_3 tA (reE (fl tA) x1_4) tA (reE (fl tA) x1_5) tA (reE (fl tA) x1_6) tA (reE (fl tA) x1_7) tA (reE (fl tA) x1_8) x1_9 tA (reE (fl tA) x1_10) tA (reE (fl tA) w) tQ aM (reE (fl aM) x0_0) aM (reE (fl aM) x0_1) aM (reE (fl aM) x0_2) tQ x1_0 x1_1 x1_2 x1_3 aM (reE (fl aM) x1_4) aM (reE (fl aM) x1_5) aM (reE (fl aM) x1_6) aM (reE (fl aM) x1_7) aM (reE (fl aM) x1_8) x1_9 aM (reE (fl aM) x1_10)).boxes.set 7 (some [.leaf (.sl aM (reE (fl aM) x0_0)), .leaf (.sl aM (reE (fl aM) x0_1)), .leaf (.sl aM (reE (fl aM) x0_2))])).set 8 (some [.leaf (.int .i64 x1_0), .leaf (.bool x1_1), .leaf (.str x1_2), .leaf (.str x1_3), .leaf (.sl aM (reE (fl aM) x1_4)), .leaf (.sl aM (reE (fl aM) x1_5)), .leaf (.sl aM (reE (fl aM) x1_6)), .leaf (.sl aM (reE (fl aM) x1_7)), .leaf (.sl aM (reE (fl aM) x1_8)), .leaf (.bool x1_9), .leaf (.sl aM (reE (fl aM) x1_10))])) } : St true).boxes [] 0 ({ tmps := (((cG tQ tA (reE (fl tA) x0_0) tA (reE (fl tA) x0_1) tA (reE (fl tA) x0_2) tQ x1_0 x1_1 x1_2 x1_3 tA (reE (fl tA) x1_4) tA (reE (fl tA) x1_5) tA (reE (fl tA) x1_6) tA (reE (fl tA) x1_7) tA (reE (fl tA) x1_8) x1_9 tA (reE (fl tA) x1_10) tA (reE (fl tA) w) tQ aM (reE (fl aM) x0_0) aM (reE (fl aM) x0_1) aM (reE (fl aM) x0_2) tQ x1_0 x1_1 x1_2 x1_3 aM (reE (fl aM) x1_4) aM (reE (fl aM) x1_5) aM (reE (fl aM) x1_6) aM (reE (fl aM) x1_7) aM (reE (fl aM) x1_8) x1_9 aM (reE (fl aM) x1_10)).tmps.set 7 (.ptr 7 0)).set 8 (.ptr 8 0)), boxes := (((cG tQ tA (reE (fl tA) x0_0) tA (reE (fl tA) x0_1) tA (reE (fl tA) x0_2) tQ x1_0 x1_1 x1_2 x1_3 tA (reE (fl tA) x1_4) tA (reE (fl tA) x1_5) tA (reE (fl tA) x1_6) tA (reE (fl tA) x1_7) tA (reE (fl tA) x1_8) x1_9 tA (reE (fl tA) x1_10) tA (reE (fl tA) w) tQ aM (reE (fl aM) x0_0) aM (reE (fl aM) x0_1) aM (reE (fl aM) x0_2) tQ x1_0 x1_1 x1_2 x1_3 aM (reE (fl aM) x1_4) aM (reE (fl aM) x1_5) aM (reE (fl aM) x1_6) aM (reE (fl aM) x1_7) aM (reE (fl aM) x1_8) x1_9 aM (reE (fl aM) x1_10)).boxes.set 7 (some [.leaf (.sl aM (reE (fl aM) x0_0)), .leaf (.sl aM (reE (fl aM) x0_1)), .leaf (.sl aM (reE (fl aM) x0_2))])).set 8 (some [.leaf (.int .i64 x1_0), .leaf (.bool x1_1), .leaf (.str x1_2), .leaf (.str x1_3), .leaf (.sl aM (reE (fl aM) x1_4)), .leaf (.sl aM (reE (fl aM) x1_5)), .leaf (.sl aM (reE (fl aM) x1_6)), .leaf (.sl aM (reE (fl aM) x1_7)), .leaf (.sl aM (reE (fl aM) x1_8)), .leaf (.bool x1_9), .leaf (.sl aM (reE (fl aM) x1_10))])) } : St true).tmps = true := by
  simp [nA, tW, aHQ, bJ, dT, asLeaf, cG, aGB, aC7, aSC, aBK (p := p2) (c := tA) rfl, aBK (p := p2) (c := aM) rfl, show p2 tA = true from rfl, show p2 aM = true from rfl]
theorem aU1 : nA p3 ({ tmps := (cH tQ tA (reE (fl tA) x0_0) tA (reE (fl tA) x0_1) tA (reE (fl tA) x0_2) tQ x1_0 x1_1 x1_2 x1_3 tA (reE (fl tA) x1_4) tA (reE (fl tA) x1_5) tA (reE (fl tA) x1_6) tA (reE (fl tA) x1_7) tA (reE (fl tA) x1_8) x1_9 tA (reE (fl tA) x1_10) tA (reE (fl tA) w) tQ tX (reE (fl tX) x0_0) tX (reE (fl tX) x0_1) tX (reE (fl tX) x0_2) tQ x1_0 x1_1 x1_2 x1_3 tX (reE (fl tX) x1_4) tX (reE (fl tX) x1_5) tX (reE (fl tX) x1_6) tX (reE (fl tX) x1_7) tX (reE (fl tX) x1_8) x1_9 tX (reE (fl tX) x1_10) aM (reE (fl aM) w)).tmps.set 9 (.own (some T.aXJ) (reE (fl aM) w)), boxes := (cH tQ tA (reE (fl tA) x0_0) tA (reE (fl tA) x0_1) tA (reE (fl tA) x0_2) tQ x1_0 x1_1 x1_2 x1_3 tA (reE (fl tA) x1_4) tA (reE (fl tA) x1_5) tA (reE (fl tA) x1_6) tA (reE (fl tA) x1_7) tA (reE (fl tA) x1_8) x1_9 tA (reE (fl tA) x1_10) tA (reE (fl tA) w) tQ tX (reE (fl tX) x0_0) tX (reE (fl tX) x0_1) tX (reE (fl tX) x0_2) tQ x1_0 x1_1 x1_2 x1_3 tX (reE (fl tX) x1_4) tX (reE (fl tX) x1_5) tX (reE (fl tX) x1_6) tX (reE (fl tX) x1_7) tX (reE (fl tX) x1_8) x1_9 tX (reE (fl tX) x1_10) aM (reE (fl aM) w)).boxes } : St true).boxes [] 0 ({ tmps := (cH tQ tA (reE (fl tA) x0_0) tA (reE (fl tA) x0_1) tA (reE (fl tA) x0_2) tQ x1_0 x1_1 x1_2 x1_3 tA (reE (fl tA) x1_4) tA (reE (fl tA) x1_5) tA (reE (fl tA) x1_6) tA (reE (fl tA) x1_7) tA (reE (fl tA) x1_8) x1_9 tA (reE (fl tA) x1_10) tA (reE (fl tA) w) tQ tX (reE (fl tX) x0_0) tX (reE (fl tX) x0_1) tX (reE (fl tX) x0_2) tQ x1_0 x1_1 x1_2 x1_3 tX (reE (fl tX) x1_4) tX (reE (fl tX) x1_5) tX (reE (fl tX) x1_6) tX (reE (fl tX) x1_7) tX (reE (fl tX) x1_8) x1_9 tX (reE (fl tX) x1_10) aM (reE (fl aM) w)).tmps.set 9 (.own (some T.aXJ) (reE (fl aM) w)), boxes := (cH tQ tA (reE (fl tA) x0_0) tA (reE (fl tA) x0_1) tA (reE (fl tA) x0_2) tQ x1_0 x1_1 x1_2 x1_3 tA (reE (fl tA) x1_4) tA (reE (fl tA) x1_5) tA (reE (fl tA) x1_6) tA (reE (fl tA) x1_7) tA (reE (fl tA) x1_8) x1_9 tA (reE (fl tA) x1_10) tA (reE (fl tA) w) tQ tX (reE (fl tX) x0_0) tX (reE (fl tX) x0_1) tX (reE (fl tX) x0_2) tQ x1_0 x1_1 x1_2 x1_3 tX (reE (fl tX) x1_4) tX (reE (fl tX) x1_5) tX (reE (fl tX) x1_6) tX (reE (fl tX) x1_7) tX (reE (fl tX) x1_8) x1_9 tX (reE (fl tX) x1_10) aM (reE (fl aM) w)).boxes } : St true).tmps = true := by
  simp [nA, tW, aHQ, bJ, cH, aGB, aC7, aSC, Fl.new, aBK (p := p3) (c := tA) rfl, aBK (p := p3) (c := tX) rfl, aBK (p := p3) (c := aM) rfl, show p3 tA = true from rfl, show p3 tX = true from rfl, show p3 aM = true from rfl]
theorem aUI : nA p4 (dY tQ tA (reE (fl tA) x0_0) tA (reE (fl tA) x0_1) tA (reE (fl tA) x0_2) tQ x1_0 x1_1 x1_2 x1_3 tA (reE (fl tA) x1_4) tA (reE (fl tA) x1_5) tA (reE (fl tA) x1_6) tA (reE (fl tA) x1_7) tA (reE (fl tA) x1_8) x1_9 tA (reE (fl tA) x1_10) tA (reE (fl tA) w) tG (reE (fl tG) w)).boxes [9] 0 (dY tQ tA (reE (fl tA) x0_0) tA (reE (fl tA) x0_1) tA (reE (fl tA) x0_2) tQ x1_0 x1_1 x1_2 x1_3 tA (reE (fl tA) x1_4) tA (reE (fl tA) x1_5) tA (reE (fl tA) x1_6) tA (reE (fl tA) x1_7) tA (reE (fl tA) x1_8) x1_9 tA (reE (fl tA) x1_10) tA (reE (fl tA) w) tG (reE (fl tG) w)).tmps = true := by
  simp [nA, tW, aHQ, dY, aGB, aC7, aSC, aBK (p := p4) (c := tA) rfl, show p4 tA = true from rfl]
theorem aUR (h : aPs x0_0 x0_1 x0_2 x1_0 x1_1 x1_2 x1_3 x1_4 x1_5 x1_6 x1_7 x1_8 x1_9 x1_10 w) {W w' : World} {act : Act} {A B : Nat} {w0 : World} {F2 F3 : Fr} {hB0 : B ≤ w0.heap.size} {Fx : Fr} {Ow : Own} {bm : Nat → Nat} (hA : W.heap.size ≤ A) (hAB : A ≤ B) (hB : B ≤ w'.heap.size)
    (hE : xL ev0 ∧ xL ev1) (hK : KOk W (KOf ev0 ev1)) (on : lS Tryz.prog (sK Tryz.prog F.aV5) W (N3 w0 A B F2 F3 hB0 (KOf ev0 ev1)) (dY tQ tA (reE (fl tA) x0_0) tA (reE (fl tA) x0_1) tA (reE (fl tA) x0_2) tQ x1_0 x1_1 x1_2 x1_3 tA (reE (fl tA) x1_4) tA (reE (fl tA) x1_5) tA (reE (fl tA) x1_6) tA (reE (fl tA) x1_7) tA (reE (fl tA) x1_8) x1_9 tA (reE (fl tA) x1_10) tA (reE (fl tA) w) tG (reE (fl tG) w)) act w' Fx Ow bm) :
    (sub body (way 17)).wp Tryz.prog (bodyPost Tryz.prog (sK Tryz.prog F.aV5) (aJS W)) act w' := by
  by_cases hw : w = []
  · have eqw0 := h.eqw
    have im0 := h.imp
    have mkn : ∀ (c : Fl true) (k : Int), Dd F.aWo [.leaf (.sl c []), .leaf (.int .i64 k)] [] = some (.leaf (.int .i64 k), []) := fun c k => uK rfl (aCS k) (by simp [reS, reF, reE]) rfl rfl
    have hdn : ∀ (c : Fl true) (k : Int), Dd F.aWl [.leaf (.sl c []), .leaf (.int .i64 k)] [] = some (.leaf (.int .i64 k), []) := fun c k => uK rfl (aCJ k) (by simp [reS, reF, reE]) rfl rfl
    rw [hw] at on
    simp only [hw, reE] at eqw0 im0
    refine aIm (H := Hs) hP (zM rfl hE) hfn hc0 spD nlD on fun J => ?_
    simp only [reE]
    rw [aAE]
    simp -implicitDefEqProofs only [mkn, hdn, Option.bind_some, bH, rC, pN, hR, cU, dA, cP, cE, cV, eR, List.length_cons, List.length_nil, beq_self_eq_true, aG, h.to0, h.to1, im0, eqw0, show decide ((1 : Int) < 0) = false from rfl, aC, bne_self_eq_false, Bool.not_true, aN4]
  · have hpos : 0 < w.length := List.length_pos_iff.2 hw
    have hez : ∀ e ∈ reE (fl tG) w, e.length = 3 := lI fun e he => (h.wq e he).len
    obtain ⟨k, F', Ow', bm', R, hk, on'⟩ := aVn on hA hB hAB [9] (t := 9) (of_decide_eq_true (by kernel_rfl)) (of_decide_eq_true (by kernel_rfl)) (es := reE (fl tG) w) (z := 3) rfl (by rw [cN]; exact hpos) hez aUI hK.lt
    rw [aUO] at on'
    simp only [aEW (φ := φ4) (σ := fun _ => false) (c := tA) rfl, show φ4 tA = tA from rfl, cN] at on'
    rw [cN] at hk
    refine aIm (H := Hs) hP (zM rfl hE) hfn hc0 spD nlD on' fun J => ?_
    have hm := aKl (k := k) h.wl hk
    have hd := aKQ (n := w.length) (k := k) h.wl
    have hf1 : ([List.replicate k (SV.any (m := true))].all fun (x : List (SV true)) => x.all SV.flat) = true := by
      simp only [List.all_cons, List.all_nil, Bool.and_true]
      rw [List.all_eq_true]; intro x hx; rw [List.eq_of_mem_replicate hx]; rfl
    have hf2 : ([(aMs w.length k).map (reS li)].all fun (x : List (SV true)) => x.all SV.flat) = true := by
      simp only [List.all_cons, List.all_nil, Bool.and_true]
      exact aS8 (aK3 _ _)
    have he : ¬ fU w.length 1 < 0 := by
      have := aG1 w.length 1 (by omega) (by have := h.wc; simp only [cap] at *; omega)
      omega
    rw [aAb]
    simp -implicitDefEqProofs only [hf1, hm, hd, Option.bind_some, bH, rC, pN, hR, cU, dA, cP, cE, cV, eR, List.length_cons, List.length_nil, beq_self_eq_true, aG, aQp, aN4, hf2, h.to0, h.to1, h.imp, h.eqw, he, decide_false, aC, bne_self_eq_false, Bool.not_true]
theorem aU2 (h : aPs x0_0 x0_1 x0_2 x1_0 x1_1 x1_2 x1_3 x1_4 x1_5 x1_6 x1_7 x1_8 x1_9 x1_10 w) {W w' : World} {act : Act} {A B : Nat} {F2 : Fr} {Fx : Fr} {Ow : Own} {bm : Nat → Nat} (hA : W.heap.size ≤ A) (hAB : A ≤ B) (hB : B ≤ w'.heap.size)
    (hE : xL ev0 ∧ xL ev1) (hK : KOk W (KOf ev0 ev1)) (on : lS Tryz.prog (sK Tryz.prog F.aV5) W (N2 A B F2 (KOf ev0 ev1)) ({ tmps := (cH tQ tA (reE (fl tA) x0_0) tA (reE (fl tA) x0_1) tA (reE (fl tA) x0_2) tQ x1_0 x1_1 x1_2 x1_3 tA (reE (fl tA) x1_4) tA (reE (fl tA) x1_5) tA (reE (fl tA) x1_6) tA (reE (fl tA) x1_7) tA (reE (fl tA) x1_8) x1_9 tA (reE (fl tA) x1_10) tA (reE (fl tA) w) tQ tX (reE (fl tX) x0_0) tX (reE (fl tX) x0_1) tX (reE (fl tX) x0_2) tQ x1_0 x1_1 x1_2 x1_3 tX (reE (fl tX) x1_4) tX (reE (fl tX) x1_5) tX (reE (fl tX) x1_6) tX (reE (fl tX) x1_7) tX (reE (fl tX) x1_8) x1_9 tX (reE (fl tX) x1_10) aM (reE (fl aM) w)).tmps.set 9 (.own (some T.aXJ) (reE (fl aM) w)), boxes := (cH tQ tA (reE (fl tA) x0_0) tA (reE (fl tA) x0_1) tA (reE (fl tA) x0_2) tQ x1_0 x1_1 x1_2 x1_3 tA (reE (fl tA) x1_4) tA (reE (fl tA) x1_5) tA (reE (fl tA) x1_6) tA (reE (fl tA) x1_7) tA (reE (fl tA) x1_8) x1_9 tA (reE (fl tA) x1_10) tA (reE (fl tA) w) tQ tX (reE (fl tX) x0_0) tX (reE (fl tX) x0_1) tX (reE (fl tX) x0_2) tQ x1_0 x1_1 x1_2 x1_3 tX (reE (fl tX) x1_4) tX (reE (fl tX) x1_5) tX (reE (fl tX) x1_6) tX (reE (fl tX) x1_7) tX (reE (fl tX) x1_8) x1_9 tX (reE (fl tX) x1_10) aM (reE (fl aM) w)).boxes } : St true) act w' Fx Ow bm) :
    (sub body (way 13)).wp Tryz.prog (bodyPost Tryz.prog (sK Tryz.prog F.aV5) (aJS W)) act w' := by
  have on' := aVf on hA hB hAB [] aU1 hK.lt
  rw [aTr] at on'
  simp only [show σ3 tA = false from rfl, show σ3 tX = true from rfl, show σ3 aM = false from rfl, aEW (φ := φ3) (σ := σ3) (c := tA) rfl, aEW (φ := φ3) (σ := σ3) (c := aM) rfl, aOP (φ := φ3) (σ := σ3) (c := tX) rfl, Bool.false_eq_true, if_false, if_true, show φ3 tA = tA from rfl, show φ3 aM = tG from rfl] at on'
  refine aL4 (H := Hs) (s1 := dY tQ tA (reE (fl tA) x0_0) tA (reE (fl tA) x0_1) tA (reE (fl tA) x0_2) tQ x1_0 x1_1 x1_2 x1_3 tA (reE (fl tA) x1_4) tA (reE (fl tA) x1_5) tA (reE (fl tA) x1_6) tA (reE (fl tA) x1_7) tA (reE (fl tA) x1_8) x1_9 tA (reE (fl tA) x1_10) tA (reE (fl tA) w) tG (reE (fl tG) w)) hP (zM rfl hE) hfn hc0 spD on' (fun J => ?_) fun a' w2 F' Ow' bm' on2 far => ?_
  · rw [aAw]
    simp -implicitDefEqProofs only [h.mk0, h.mk1, Option.bind_some, bH, rC, pN, hR, cU, dA, cP, cE, cV, eR, List.length_cons, List.length_nil, beq_self_eq_true, aG, decide_eq_false h.mn, aD, h.eqw, Bool.not_true, aC]
    rfl
  · exact aUR h hA hAB (Nat.le_trans hB far.size) hE hK on2
theorem aUF (h : aPs x0_0 x0_1 x0_2 x1_0 x1_1 x1_2 x1_3 x1_4 x1_5 x1_6 x1_7 x1_8 x1_9 x1_10 w) {W w' : World} {act : Act} {A : Nat} {Fx : Fr} {Ow : Own} {bm : Nat → Nat} (hA : W.heap.size ≤ A) (hB : A ≤ w'.heap.size)
    (hE : xL ev0 ∧ xL ev1) (hK : KOk W (KOf ev0 ev1)) (on : lS Tryz.prog (sK Tryz.prog F.aV5) W (N1 A (KOf ev0 ev1)) ({ tmps := (((cG tQ tA (reE (fl tA) x0_0) tA (reE (fl tA) x0_1) tA (reE (fl tA) x0_2) tQ x1_0 x1_1 x1_2 x1_3 tA (reE (fl tA) x1_4) tA (reE (fl tA) x1_5) tA (reE (fl tA) x1_6) tA (reE (fl tA) x1_7) tA (reE (fl tA) x1_8) x1_9 tA (reE (fl tA) x1_10) tA (reE (fl tA) w) tQ aM (reE (fl aM) x0_0) aM (reE (fl aM) x0_1) aM (reE (fl aM) x0_2) tQ x1_0 x1_1 x1_2 x1_3 aM (reE (fl aM) x1_4) aM (reE (fl aM) x1_5) aM (reE (fl aM) x1_6) aM (reE (fl aM) x1_7) aM (reE (fl aM) x1_8) x1_9 aM (reE (fl aM) x1_10)).tmps.set 7 (.ptr 7 0)).set 8 (.ptr 8 0)), boxes := (((cG tQ tA (reE (fl tA) x0_0) tA (reE (fl tA) x0_1) tA (reE (fl tA) x0_2) tQ x1_0 x1_1 x1_2 x1_3 tA (reE (fl tA) x1_4) tA (reE (fl tA) x1_5) tA (reE (fl tA) x1_6) tA (reE (fl tA) x1_7) tA (reE (fl tA) x1_8) x1_9 tA (reE (fl tA) x1_10) tA (reE (fl tA) w) tQ aM (reE (fl aM) x0_0) aM (reE (fl aM) x0_1) aM (reE (fl aM) x0_2) tQ x1_0 x1_1 x1_2 x1_3 aM (reE (fl aM) x1_4) aM (reE (fl aM) x1_5) aM (reE (fl aM) x1_6) aM (reE (fl aM) x1_7) aM (reE (fl aM) x1_8) x1_9 aM (reE (fl aM) x1_10)).boxes.set 7 (some [.leaf (.sl aM (reE (fl aM) x0_0)), .leaf (.sl aM (reE (fl aM) x0_1)), .leaf (.sl aM (reE (fl aM) x0_2))])).set 8 (some [.leaf (.int .i64 x1_0), .leaf (.bool x1_1), .leaf (.str x1_2), .leaf (.str x1_3), .leaf (.sl aM (reE (fl aM) x1_4)), .leaf (.sl aM (reE (fl aM) x1_5)), .leaf (.sl aM (reE (fl aM) x1_6)), .leaf (.sl aM (reE (fl aM) x1_7)), .leaf (.sl aM (reE (fl aM) x1_8)), .leaf (.bool x1_9), .leaf (.sl aM (reE (fl aM) x1_10))])) } : St true) act w' Fx Ow bm) :
    (sub body (way 9)).wp Tryz.prog (bodyPost Tryz.prog (sK Tryz.prog F.aV5) (aJS W)) act w' := by
  have on' := aVw on [] aUB
  rw [aTt] at on'
  simp only [aEW (φ := φ2) (σ := fun _ => false) (c := tA) rfl, aEW (φ := φ2) (σ := fun _ => false) (c := aM) rfl, show φ2 tA = tA from rfl, show φ2 aM = tX from rfl] at on'
  refine aL4 (H := Hs) (s1 := { tmps := (cH tQ tA (reE (fl tA) x0_0) tA (reE (fl tA) x0_1) tA (reE (fl tA) x0_2) tQ x1_0 x1_1 x1_2 x1_3 tA (reE (fl tA) x1_4) tA (reE (fl tA) x1_5) tA (reE (fl tA) x1_6) tA (reE (fl tA) x1_7) tA (reE (fl tA) x1_8) x1_9 tA (reE (fl tA) x1_10) tA (reE (fl tA) w) tQ tX (reE (fl tX) x0_0) tX (reE (fl tX) x0_1) tX (reE (fl tX) x0_2) tQ x1_0 x1_1 x1_2 x1_3 tX (reE (fl tX) x1_4) tX (reE (fl tX) x1_5) tX (reE (fl tX) x1_6) tX (reE (fl tX) x1_7) tX (reE (fl tX) x1_8) x1_9 tX (reE (fl tX) x1_10) aM (reE (fl aM) w)).tmps.set 9 (.own (some T.aXJ) (reE (fl aM) w)), boxes := (cH tQ tA (reE (fl tA) x0_0) tA (reE (fl tA) x0_1) tA (reE (fl tA) x0_2) tQ x1_0 x1_1 x1_2 x1_3 tA (reE (fl tA) x1_4) tA (reE (fl tA) x1_5) tA (reE (fl tA) x1_6) tA (reE (fl tA) x1_7) tA (reE (fl tA) x1_8) x1_9 tA (reE (fl tA) x1_10) tA (reE (fl tA) w) tQ tX (reE (fl tX) x0_0) tX (reE (fl tX) x0_1) tX (reE (fl tX) x0_2) tQ x1_0 x1_1 x1_2 x1_3 tX (reE (fl tX) x1_4) tX (reE (fl tX) x1_5) tX (reE (fl tX) x1_6) tX (reE (fl tX) x1_7) tX (reE (fl tX) x1_8) x1_9 tX (reE (fl tX) x1_10) aM (reE (fl aM) w)).boxes }) hP (zM rfl hE) hfn hc0 spC on' (fun J => ?_) fun a' w2 F' Ow' bm' on2 far => ?_
  · rw [aAC]
    simp -implicitDefEqProofs only [h.to0, h.to1, h.imp, h.eq0, h.eq1, Option.bind_some, bH, rC, pN, hR, cU, dA, cP, cE, cV, eR, List.length_cons, List.length_nil, beq_self_eq_true, aG, h.eqw, Bool.not_true, aC]
    rfl
  · exact aU2 h hA hB far.size hE hK on2
theorem aUT (h : aPs x0_0 x0_1 x0_2 x1_0 x1_1 x1_2 x1_3 x1_4 x1_5 x1_6 x1_7 x1_8 x1_9 x1_10 w) {W w' : World} {act : Act} {A : Nat} {Fx : Fr} {Ow : Own} {bm : Nat → Nat} (hA : W.heap.size ≤ A) (hB : A ≤ w'.heap.size)
    (hE : xL ev0 ∧ xL ev1) (hK : KOk W (KOf ev0 ev1)) (on : lS Tryz.prog (sK Tryz.prog F.aV5) W (N1 A (KOf ev0 ev1)) (eA tQ tA (reE (fl tA) x0_0) tA (reE (fl tA) x0_1) tA (reE (fl tA) x0_2) tQ x1_0 x1_1 x1_2 x1_3 tA (reE (fl tA) x1_4) tA (reE (fl tA) x1_5) tA (reE (fl tA) x1_6) tA (reE (fl tA) x1_7) tA (reE (fl tA) x1_8) x1_9 tA (reE (fl tA) x1_10) tA (reE (fl tA) w)) act w' Fx Ow bm) :
    (sub body (way 7)).wp Tryz.prog (bodyPost Tryz.prog (sK Tryz.prog F.aV5) (aJS W)) act w' := by
  refine aL4 (H := Hs) (s1 := { tmps := (((cG tQ tA (reE (fl tA) x0_0) tA (reE (fl tA) x0_1) tA (reE (fl tA) x0_2) tQ x1_0 x1_1 x1_2 x1_3 tA (reE (fl tA) x1_4) tA (reE (fl tA) x1_5) tA (reE (fl tA) x1_6) tA (reE (fl tA) x1_7) tA (reE (fl tA) x1_8) x1_9 tA (reE (fl tA) x1_10) tA (reE (fl tA) w) tQ aM (reE (fl aM) x0_0) aM (reE (fl aM) x0_1) aM (reE (fl aM) x0_2) tQ x1_0 x1_1 x1_2 x1_3 aM (reE (fl aM) x1_4) aM (reE (fl aM) x1_5) aM (reE (fl aM) x1_6) aM (reE (fl aM) x1_7) aM (reE (fl aM) x1_8) x1_9 aM (reE (fl aM) x1_10)).tmps.set 7 (.ptr 7 0)).set 8 (.ptr 8 0)), boxes := (((cG tQ tA (reE (fl tA) x0_0) tA (reE (fl tA) x0_1) tA (reE (fl tA) x0_2) tQ x1_0 x1_1 x1_2 x1_3 tA (reE (fl tA) x1_4) tA (reE (fl tA) x1_5) tA (reE (fl tA) x1_6) tA (reE (fl tA) x1_7) tA (reE (fl tA) x1_8) x1_9 tA (reE (fl tA) x1_10) tA (reE (fl tA) w) tQ aM (reE (fl aM) x0_0) aM (reE (fl aM) x0_1) aM (reE (fl aM) x0_2) tQ x1_0 x1_1 x1_2 x1_3 aM (reE (fl aM) x1_4) aM (reE (fl aM) x1_5) aM (reE (fl aM) x1_6) aM (reE (fl aM) x1_7) aM (reE (fl aM) x1_8) x1_9 aM (reE (fl aM) x1_10)).boxes.set 7 (some [.leaf (.sl aM (reE (fl aM) x0_0)), .leaf (.sl aM (reE (fl aM) x0_1)), .leaf (.sl aM (reE (fl aM) x0_2))])).set 8 (some [.leaf (.int .i64 x1_0), .leaf (.bool x1_1), .leaf (.str x1_2), .leaf (.str x1_3), .leaf (.sl aM (reE (fl aM) x1_4)), .leaf (.sl aM (reE (fl aM) x1_5)), .leaf (.sl aM (reE (fl aM) x1_6)), .leaf (.sl aM (reE (fl aM) x1_7)), .leaf (.sl aM (reE (fl aM) x1_8)), .leaf (.bool x1_9), .leaf (.sl aM (reE (fl aM) x1_10))])) }) hP (zM rfl hE) hfn hc0 spB on (fun J => ?_) fun a' w2 F' Ow' bm' on2 far => ?_
  · rw [aAx]
    simp -implicitDefEqProofs only [h.to0, h.to1, Option.bind_some, bH, rC, pN, hR, cU, dA, cP, cE, cV, eR, List.length_cons, List.length_nil, beq_self_eq_true, aG]
    rfl
  · exact aUF h hA (Nat.le_trans hB far.size) hE hK on2
theorem aUS (sz0 : ∀ (c : Fl true) (n : Int), 0 ≤ n → Dd F.aXc [.agg [.sl c (reE (fl c) x0_0), .sl c (reE (fl c) x0_1), .sl c (reE (fl c) x0_2)], .leaf (.int .i64 n)] [] = some (.leaf (.int .i64 (szL [.sl fP x0_0, .sl fP x0_1, .sl fP x0_2] n)), [])) (sz1 : ∀ (c : Fl true) (n : Int), 0 ≤ n → Dd F.aYk [.agg [.int .i64 x1_0, .bool x1_1, .str x1_2, .str x1_3, .sl c (reE (fl c) x1_4), .sl c (reE (fl c) x1_5), .sl c (reE (fl c) x1_6), .sl c (reE (fl c) x1_7), .sl c (reE (fl c) x1_8), .bool x1_9, .sl c (reE (fl c) x1_10)], .leaf (.int .i64 n)] [] = some (.leaf (.int .i64 (szL [.int .i64 x1_0, .bool x1_1, .str x1_2, .str x1_3, .sl fP x1_4, .sl fP x1_5, .sl fP x1_6, .sl fP x1_7, .sl fP x1_8, .bool x1_9, .sl fP x1_10] n)), [])) (fits : 0 ≤ szL [.sl fP x0_0, .sl fP x0_1, .sl fP x0_2] 1048576 → 0 ≤ szL [.int .i64 x1_0, .bool x1_1, .str x1_2, .str x1_3, .sl fP x1_4, .sl fP x1_5, .sl fP x1_6, .sl fP x1_7, .sl fP x1_8, .bool x1_9, .sl fP x1_10] (szL [.sl fP x0_0, .sl fP x0_1, .sl fP x0_2] 1048576) → aPs x0_0 x0_1 x0_2 x1_0 x1_1 x1_2 x1_3 x1_4 x1_5 x1_6 x1_7 x1_8 x1_9 x1_10 w) {W : World} {act : Act} {Fx : Fr} {Ow : Own} {bm : Nat → Nat}
    (hE : xL ev0 ∧ xL ev1) (hK : KOk W (KOf ev0 ev1)) (on : lS Tryz.prog (sK Tryz.prog F.aV5) W (N0 W (KOf ev0 ev1)) (lJ bL (reE (fl bL) x0_0) bL (reE (fl bL) x0_1) bL (reE (fl bL) x0_2) x1_0 x1_1 x1_2 x1_3 bL (reE (fl bL) x1_4) bL (reE (fl bL) x1_5) bL (reE (fl bL) x1_6) bL (reE (fl bL) x1_7) bL (reE (fl bL) x1_8) x1_9 bL (reE (fl bL) x1_10)) act W Fx Ow bm) :
    (sub body (way 0)).wp Tryz.prog (bodyPost Tryz.prog (sK Tryz.prog F.aV5) (aJS W)) act W := by
  by_cases hn0 : szL [.sl fP x0_0, .sl fP x0_1, .sl fP x0_2] 1048576 < 0
  · refine aIT (H := Hs) hP (zM rfl hE) hfn hc0 spA on fun J => ?_
    rw [lL]
    simp -implicitDefEqProofs only [sz0 bL 1048576 (by omega), Option.bind_some, bH, rC, pN, hR, cU, dA, cP, cE, cV, eR, List.length_cons, List.length_nil, beq_self_eq_true, aG, decide_eq_true hn0, aD, aC]
  · by_cases hn1 : szL [.int .i64 x1_0, .bool x1_1, .str x1_2, .str x1_3, .sl fP x1_4, .sl fP x1_5, .sl fP x1_6, .sl fP x1_7, .sl fP x1_8, .bool x1_9, .sl fP x1_10] (szL [.sl fP x0_0, .sl fP x0_1, .sl fP x0_2] 1048576) < 0
    · refine aIT (H := Hs) hP (zM rfl hE) hfn hc0 spA on fun J => ?_
      rw [lL]
      simp -implicitDefEqProofs only [sz0 bL 1048576 (by omega), sz1 bL (szL [.sl fP x0_0, .sl fP x0_1, .sl fP x0_2] 1048576) (by omega), Option.bind_some, bH, rC, pN, hR, cU, dA, cP, cE, cV, eR, List.length_cons, List.length_nil, beq_self_eq_true, aG, decide_eq_false hn0, decide_eq_true hn1, aD, aC]
    · have h := fits (by omega) (by omega)
      refine aL4 (H := Hs) (s1 := { tmps := ((((eA tQ bL (reE (fl bL) x0_0) bL (reE (fl bL) x0_1) bL (reE (fl bL) x0_2) tQ x1_0 x1_1 x1_2 x1_3 bL (reE (fl bL) x1_4) bL (reE (fl bL) x1_5) bL (reE (fl bL) x1_6) bL (reE (fl bL) x1_7) bL (reE (fl bL) x1_8) x1_9 bL (reE (fl bL) x1_10) bL (reE (fl bL) w)).tmps.set 2 (.ptr 2 0)).set 3 (.ptr 3 0)).set 6 (.own (some T.aXJ) (reE (fl bL) w))), boxes := (((eA tQ bL (reE (fl bL) x0_0) bL (reE (fl bL) x0_1) bL (reE (fl bL) x0_2) tQ x1_0 x1_1 x1_2 x1_3 bL (reE (fl bL) x1_4) bL (reE (fl bL) x1_5) bL (reE (fl bL) x1_6) bL (reE (fl bL) x1_7) bL (reE (fl bL) x1_8) x1_9 bL (reE (fl bL) x1_10) bL (reE (fl bL) w)).boxes.set 2 (some [.leaf (.sl bL (reE (fl bL) x0_0)), .leaf (.sl bL (reE (fl bL) x0_1)), .leaf (.sl bL (reE (fl bL) x0_2))])).set 3 (some [.leaf (.int .i64 x1_0), .leaf (.bool x1_1), .leaf (.str x1_2), .leaf (.str x1_3), .leaf (.sl bL (reE (fl bL) x1_4)), .leaf (.sl bL (reE (fl bL) x1_5)), .leaf (.sl bL (reE (fl bL) x1_6)), .leaf (.sl bL (reE (fl bL) x1_7)), .leaf (.sl bL (reE (fl bL) x1_8)), .leaf (.bool x1_9), .leaf (.sl bL (reE (fl bL) x1_10))])) }) hP (zM rfl hE) hfn hc0 spA on (fun J => ?_) fun a' w2 F' Ow' bm' on2 far => ?_
      · rw [lL]
        simp -implicitDefEqProofs only [sz0 bL 1048576 (by omega), sz1 bL (szL [.sl fP x0_0, .sl fP x0_1, .sl fP x0_2] 1048576) (by omega), Option.bind_some, bH, rC, pN, hR, cU, dA, cP, cE, cV, eR, List.length_cons, List.length_nil, beq_self_eq_true, aG, decide_eq_false hn0, decide_eq_false hn1, aD, aC, h.to0, h.to1, h.spc]
        rfl
      · have on3 := aVy (K := (KOf ev0 ev1)) on2 (fun _ => rfl) []
        rw [aTc] at on3
        simp only [aEW (φ := φ1) (σ := fun _ => false) (c := bL) rfl, show φ1 bL = tA from rfl, show φ1 aM = tA from rfl] at on3
        exact aUT h far.size (Nat.le_refl _) hE hK on3
end
end Go.Vs
end
section
open Go Go.Vs Go.Proofs
set_option linter.unusedVariables false
set_option linter.unusedSimpArgs false
namespace Go.Vs
def gU (s : ByteArray) (c : UInt8) : Bool := decide (0 < s.size) && (s.data.toList.getD (s.size - 1) 0 == c)
def cut (s : ByteArray) : ByteArray := s.extract 0 (s.size - 1)
theorem oY (s : ByteArray) : (cut s).size = s.size - 1 := by unfold cut; rw [ByteArray.size_extract]; omega
theorem aJu {n d : Nat} (h : n ≤ maxLen) (hd : d ≤ n) : IntKind.i64.wrap ((n : Int) - (d : Int)) = ((n - d : Nat) : Int) := by
  have hm : maxLen = 9223372036854775807 := rfl
  rw [qG (by omega) (by omega)]; omega
theorem aGd {n : Nat} (h : n ≤ maxLen) (hd : 0 < n) : IntKind.i64.wrap ((n : Int) - 1) = ((n - 1 : Nat) : Int) := aJu h (show 1 ≤ n by omega)
theorem tl (s : ByteArray) : s.toList = s.data.toList := by first | exact ByteArray.toList_eq s | exact Go.ByteArray.toList_eq s
theorem aOo (s : ByteArray) : s.data.toList.length = s.size := by rw [Array.length_toList]; rfl
theorem aQk (s : ByteArray) (c : UInt8) (h : 0 < s.size) : ((s.extract (s.size - 1) s.size).toList == (ByteArray.mk #[c]).toList) = gU s c := by
  have hl := aOo s
  have e1 : (s.extract (s.size - 1) s.size).toList = [s.data.toList.getD (s.size - 1) 0] := by
    rw [tl, ByteArray.data_extract, Array.toList_extract, List.extract_eq_take_drop]
    have : s.data.toList.drop (s.size - 1) = [s.data.toList.getD (s.size - 1) 0] := by
      rw [List.drop_eq_getElem_cons (by omega), List.drop_of_length_le (by omega)]
      rw [List.getD_eq_getElem?_getD, List.getElem?_eq_getElem (show s.size - 1 < s.data.toList.length by omega)]; rfl
    rw [this]
    have : s.size - (s.size - 1) = 1 := by omega
    rw [this]; rfl
  have e2 : (ByteArray.mk #[c]).toList = [c] := by rw [tl]
  rw [e1, e2]
  unfold gU
  simp -implicitDefEqProofs only [h, decide_true, Bool.true_and]
  cases hx : (s.data.toList.getD (s.size - 1) 0 == c) <;> simp_all
theorem tB {w : ByteArray} {c : UInt8} (he : gU w c = true) : 0 < w.size := by unfold gU at he; simp at he; omega
theorem aTR (x : UInt8) (c : Nat) (hc : c < 256) : (((x.toNat : Nat) : Int) == (c : Int)) = (x == UInt8.ofNat c) := by
  rw [Bool.eq_iff_iff, beq_iff_eq, beq_iff_eq, ← UInt8.toNat_inj]
  simp -implicitDefEqProofs only [UInt8.toNat_ofNat']
  omega
theorem aL1 {w : ByteArray} (c : Nat) (hc : c < 256) (hp : 0 < w.size) (hw : w.size ≤ maxLen) : (((w.data.toList.getD (IntKind.i64.wrap ((w.size : Int) - 1)).toNat 0).toNat : Int) == (c : Int)) = gU w (UInt8.ofNat c) := by
  rw [aGd hw hp, Int.toNat_natCast, aTR _ c hc]; unfold gU; simp -implicitDefEqProofs only [hp, decide_true, Bool.true_and]
theorem aHq {w : ByteArray} (hp : 0 < w.size) (hw : w.size ≤ maxLen) : (decide (0 ≤ IntKind.i64.wrap ((w.size : Int) - 1)) && decide ((IntKind.i64.wrap ((w.size : Int) - 1)).toNat ≤ w.size)) = true := by
  rw [aGd hw hp, Int.toNat_natCast]; simp
theorem aCX {w : ByteArray} (hp : 0 < w.size) (hw : w.size ≤ maxLen) : (decide (0 ≤ IntKind.i64.wrap ((w.size : Int) - 1)) && decide (IntKind.i64.wrap ((w.size : Int) - 1) < (w.size : Int))) = true := by
  rw [aGd hw hp]; simp; omega
theorem aHD {w : ByteArray} (hp : 0 < w.size) (hw : w.size ≤ maxLen) : w.extract 0 (IntKind.i64.wrap ((w.size : Int) - 1)).toNat = cut w := by
  rw [aGd hw hp, Int.toNat_natCast]; rfl
theorem aS5 (w : ByteArray) : (w.toList == (ByteArray.mk #[]).toList) = ((w.size : Int) == 0) := by
  have hl := aOo w
  rw [tl, tl]
  show (w.data.toList == []) = _
  cases hx : w.data.toList with
  | nil => rw [hx] at hl; simp at hl; rw [← hl]; rfl
  | cons a r => rw [hx] at hl; simp at hl; rw [← hl]; simp; omega
theorem aFL {s : ByteArray} {c : UInt8} (hs : s.size ≤ maxLen) : Dn F.aV3 [.leaf (.str s), .leaf (.str ⟨#[c]⟩)] [] = some (aI (gU s c), []) := by
  refine aQ ?_
  rw [uN]
  have h1 : (ByteArray.mk #[c]).size = 1 := rfl
  rw [h1]
  by_cases h : 0 < s.size
  · have hw := aJu hs (show 1 ≤ s.size by omega)
    simp -implicitDefEqProofs only [hw, show ((s.size : Nat) : Int) ≥ ((1 : Nat) : Int) by omega, decide_true, beq_self_eq_true, aD, Int.natCast_nonneg, Bool.true_and, Bool.and_true, Int.toNat_natCast, Nat.sub_le, Nat.le_refl, aG]
    rw [aQk s c h]
  · have h0 : ¬ ((s.size : Nat) : Int) ≥ ((1 : Nat) : Int) := by omega
    simp -implicitDefEqProofs only [h0, decide_false, show ((false : Bool) == true) = false from rfl, aC]
    have : gU s c = false := by unfold gU; simp [h]
    rw [this]
theorem aK5 {s : ByteArray} {c : UInt8} (hs : s.size ≤ maxLen) : Dn F.aWh [.leaf (.str s), .leaf (.str ⟨#[c]⟩)] [] = some (.tup [.leaf (.str (if gU s c then cut s else s)), aI (gU s c)], []) := by
  have h1 : (ByteArray.mk #[c]).size = 1 := rfl
  have key : Dn F.aV2 [.leaf (.str s), .leaf (.str ⟨#[c]⟩)] [] = some (.tup [.leaf (.str (if gU s c then cut s else s)), aI (gU s c)], []) := by
    refine aQ ?_
    rw [uL, aFL hs, h1, cB]
    cases he : gU s c with
    | false => simp
    | true =>
      have h := tB he
      have hw := aJu hs (show 1 ≤ s.size by omega)
      simp -implicitDefEqProofs only [hw, Bool.not_true, aC, Int.natCast_nonneg, decide_true, Bool.true_and, Int.toNat_natCast, Nat.sub_le, aG, if_true]
      rfl
  refine aQ ?_
  rw [aEl, key]
  simp -implicitDefEqProofs only [rdR, pU, beq_self_eq_true, Bool.not_true, Bool.not_false, Bool.and_true, Bool.true_and, bT, bF]
theorem aK6 {x : dN} {c : UInt8} (hs : x.a1.size ≤ maxLen) : Dn F.aWK [.agg x.l, .leaf (.str ⟨#[c]⟩)] [] = some (.tup [.agg (dN.l ⟨x.a0, if gU x.a1 c then cut x.a1 else x.a1⟩), aI (gU x.a1 c)], []) := by
  refine aQ ?_
  rw [aHN, aK5 hs]
  simp -implicitDefEqProofs only [rdR, pU, beq_self_eq_true, Bool.not_true, Bool.not_false, Bool.and_true, Bool.true_and, bT, bF]
theorem aAm {s : ByteArray} {c : UInt8} (hs : s.size ≤ maxLen) : Dn F.aWm [.leaf (.str s), .leaf (.str ⟨#[c]⟩)] [] = some (aI (gU s c), []) := by
  refine aQ ?_
  rw [aEn, aFL hs, cB]
theorem aGQ {x : dN} (hs : x.a1.size ≤ maxLen) : Dn F.aXO [.agg x.l] [] = some (aI (gU x.a1 33), []) := by
  refine aQ ?_
  rw [aLQ, aAm hs, cB]
theorem aCb {x : dN} (hs : x.a1.size ≤ maxLen) : Dn F.aX6 [.agg x.l] [] = some (aI (gU x.a1 33), []) := by
  refine aQ ?_
  rw [aLr]
  by_cases h : 0 < x.a1.size
  · have hl := aL1 33 (by omega) h hs
    rw [show ((33 : Nat) : Int) = 33 from rfl] at hl
    simp -implicitDefEqProofs only [aCX h hs, hl, show ((x.a1.size : Nat) : Int) > 0 by omega, decide_true, beq_self_eq_true, aD, aG]
    rfl
  · have h0 : ¬ ((x.a1.size : Nat) : Int) > 0 := by omega
    simp -implicitDefEqProofs only [h0, decide_false, show ((false : Bool) == true) = false from rfl, aC]
    have : gU x.a1 33 = false := by unfold gU; simp [h]
    rw [this]
end Go.Vs
end
section
open Go Go.Vs Go.Proofs
set_option linter.unusedVariables false
set_option linter.unusedSimpArgs false
namespace Go.Vs
theorem aBt {es : List El} {s : ByteArray} (hl : es.length ≤ maxLen) (hq : ∀ e ∈ es, dH e) : Dn F.aYz [vsl es, .leaf (.str s)] [] = some (aJ (iQ (at0 s) 0 es), []) := by
  refine aQ ?_
  rw [aNC]
  refine oZ (es := es) (A := fun i => pH Dn (aBp es s i)) (by rw [aFd]; simp) fun i hi => ?_
  obtain ⟨x, hx, _⟩ := (hq _ (List.getElem_mem hi)).st
  rw [aFd]
  simp -implicitDefEqProofs only [inI, hi, bA (Nat.lt_of_lt_of_le hi hl), aR (fun e he => (hq e he).len), bV hi, hx, atP]
  rfl
theorem aD5 {es : List El} {s : ByteArray} (hl : es.length ≤ maxLen) (hq : ∀ e ∈ es, cF e) : Dn F.aW7 [vsl es, .leaf (.str s)] [] = some (aJ (iQ (at0 s) 0 es), []) := by
  refine aQ ?_
  rw [aIp]
  refine oZ (es := es) (A := fun i => jQ Dn (uJ es s i)) (by rw [aBb]; simp) fun i hi => ?_
  obtain ⟨x, hx, _⟩ := (hq _ (List.getElem_mem hi)).st
  rw [aBb]
  simp -implicitDefEqProofs only [inI, hi, bA (Nat.lt_of_lt_of_le hi hl), aR (fun e he => (hq e he).len), bV hi, hx, atP]
  rfl
theorem jZ {es : List El} {s : ByteArray} (hl : es.length ≤ maxLen) (hq : ∀ e ∈ es, kZ e) : Dn F.aX8 [vsl es, .leaf (.str s)] [] = some (aI (es.any (at0 s)), []) := by
  refine aQ ?_
  rw [aLD]
  refine aSL (es := es) (A := fun i => lR Dn (yR es s i)) (by rw [aCL]; simp) fun i hi => ?_
  obtain ⟨u, hu, _⟩ := hq _ (List.getElem_mem hi)
  rw [aCL]
  simp -implicitDefEqProofs only [inI, hi, bA (Nat.lt_of_lt_of_le hi hl), aR (fun e he => (hq e he).len), bV hi, hu, aRG, aTm, sO, aUx]
  rfl
theorem iB {es : List El} {s : ByteArray} (hl : es.length ≤ maxLen) (hq : ∀ e ∈ es, kZ e) : Dn F.aVZ [vsl es, .leaf (.str s)] [] = some (aI (es.any (at0 s)), []) := by
  have key : Dn F.aV4 [vsl es, .leaf (.str s)] [] = some (aJ (iQ (at0 s) 0 es), []) := by
    refine aQ ?_
    rw [wA]
    refine oZ (es := es) (A := fun i => dC Dn (gV es s es.length i)) (by rw [mQ]; simp) fun i hi => ?_
    obtain ⟨u, hu, _⟩ := hq _ (List.getElem_mem hi)
    rw [mQ]
    simp -implicitDefEqProofs only [inI, hi, bA (Nat.lt_of_lt_of_le hi hl), aR (fun e he => (hq e he).len), bV hi, hu, aRG, aTm, sO, aUx, aUe s.toList]
    rfl
  refine aQ ?_
  rw [sU, key, fW, pZ _ _ _ (by omega)]
theorem aBu {es : List El} {s : ByteArray} (hl : es.length ≤ maxLen) (hq : ∀ e ∈ es, dH e) : Dn F.aYA [vsl es, .leaf (.str s)] [] = some (aJ (iQ (at0 s) 0 es), []) := by
  have key : Dn F.aVT [vsl es, .fn F.aYd [.ptr 0 0]] [[.leaf (.str s)]] = some (aJ (iQ (at0 s) 0 es), [[.leaf (.str s)]]) := by
    refine aQ ?_
    rw [mL]
    refine oZ (es := es) (A := fun i => bW Dn (dR es F.aYd es.length i s)) (by rw [gF]; simp) fun i hi => ?_
    obtain ⟨x, hx, _⟩ := (hq _ (List.getElem_mem hi)).st
    have hc : Dn F.aYd [.agg x.l, .ptr 0 0] [[.leaf (.str s)]] = some (aI (x.a0.toList == s.toList), [[.leaf (.str s)]]) := aQ (aLp ..)
    rw [gF]
    simp -implicitDefEqProofs only [inI, hi, bA (Nat.lt_of_lt_of_le hi hl), aR (fun e he => (hq e he).len), bV hi, hx, aY.rd_l, hc, aKE]
    rfl
  refine aQ ?_
  rw [aND, key, aMA]
def aRj : bK := ⟨nul, nul, [], nul, nul, []⟩
theorem aR6 : cF aRj.l := show cF [.str nul, .str nul, .sl fP [], .str nul, .str nul, .sl fP []] from .mk nul nul [] nul nul [] (by decide) (by decide) (by decide) (fun _ h => by cases h) (by decide) (by decide) (by decide) (fun _ h => by cases h)
def pG (es : List El) (s : ByteArray) : bK := if iQ (at0 s) 0 es < 0 then aRj else .of (es.getD (iQ (at0 s) 0 es).toNat [])
theorem aTU {es : List El} {s : ByteArray} (hq : ∀ e ∈ es, cF e) : cF (pG es s).l := by
  unfold pG
  split
  · exact aR6
  · rename_i h
    obtain ⟨j, hj, hi, _⟩ := xE h
    obtain ⟨y, hy, iy⟩ := (hq _ (List.getElem_mem hj)).st
    rw [hi, Int.toNat_natCast, bV hj, hy]
    exact iy
theorem aM3 {x : aF} {s : ByteArray} (hx : dM x.l) : Dn F.aXn [.agg x.l, .leaf (.str s)] [] = some (.tup [.agg (pG x.a5 s).l, aI (!decide (iQ (at0 s) 0 x.a5 < 0))], []) := by
  obtain ⟨_, _, _, _, hl, hq, _⟩ := hx.p
  have key : Dn F.aVQ [vsl x.a5, .fn F.aWN [.ptr 0 0]] [[.leaf (.str s)]] = some (aJ (iQ (at0 s) 0 x.a5), [[.leaf (.str s)]]) := by
    refine aQ ?_
    rw [kM]
    refine oZ (es := x.a5) (A := fun i => bI Dn (dB x.a5 F.aWN x.a5.length i s)) (by rw [eZ]; simp) fun i hi => ?_
    obtain ⟨x, hx, _⟩ := (hq _ (List.getElem_mem hi)).st
    have hc : Dn F.aWN [.agg x.l, .ptr 0 0] [[.leaf (.str s)]] = some (aI (x.a0.toList == s.toList), [[.leaf (.str s)]]) := aQ (aH8 ..)
    rw [eZ]
    simp -implicitDefEqProofs only [inI, hi, bA (Nat.lt_of_lt_of_le hi hl), aR (fun e he => (hq e he).len), bV hi, hx, bK.rd_l, hc, aKE]
    rfl
  refine aQ ?_
  rw [aJ9, key, aMA]
  unfold pG
  by_cases h : iQ (at0 s) 0 x.a5 < 0
  · simp -implicitDefEqProofs only [h, decide_true, aD, if_true]
    rfl
  · obtain ⟨j, hj, hi, _⟩ := xE h
    obtain ⟨y, hy, iy⟩ := (hq _ (List.getElem_mem hj)).st
    have hn : ¬ ((j : Int) < 0) := by omega
    simp -implicitDefEqProofs only [decide_false, aC, hi, hn, if_false, inI, hj, aR (fun e he => (hq e he).len), bV hj, hy, bK.rd_l, bK.of_l]
    rfl
def aMt (e : El) : Bool := gU (bY e 3) 33 && !aO8 e 4
def xC (es : List El) : List El := es.flatMap fun e => ifP (aMt e) [.str (bY e 0)]
theorem aMC (es : List El) : xC es = gS (fun _ e => ifP (aMt e) [.str (bY e 0)]) 0 es := (aK9 _ _ _).symm
theorem aCF (es : List El) : (xC es).length ≤ es.length := by
  rw [aMC]
  have := mU (g := fun _ e => ifP (aMt e) [.str (bY e 0)]) (c := 1) es 0 fun j hj => cM _ _
  omega
theorem xU {es : List El} (hq : ∀ e ∈ es, dH e) : ∀ e ∈ xC es, kZ e := by
  intro e he
  unfold xC at he
  obtain ⟨x, hx, hm⟩ := List.mem_flatMap.1 he
  obtain ⟨_, rfl⟩ := aRA hm
  obtain ⟨y, rfl, iy⟩ := (hq x hx).st
  exact ⟨y.a0, rfl, iy.p.1⟩
theorem aBS {es : List El} (hl : es.length ≤ 1048576) (hq : ∀ e ∈ es, dH e) : Dn F.aWG [vsl es] [] = some (.own (some T.aYB) (xC es), []) := by
  have hml : (1048576 : Nat) ≤ maxLen := by decide
  refine aQ ?_
  rw [aGm, aMC]
  refine aAJ (es := es) (g := fun _ e => ifP (aMt e) [.str (bY e 0)]) (c := 1) (N := 4000000) (A := fun out i => cR Dn (qY es out i)) (fin := fun out => some (.own (some T.aYB) out, [])) (fun j hj => cM _ _) (fun out _ => by rw [zA]; simp) (fun i hi out ho => ?_) (by omega)
  obtain ⟨x, hx, ix⟩ := (hq _ (List.getElem_mem hi)).st
  have hn := aCb (x := ⟨x.a2, x.a3⟩) ix.p.2.2.2.1
  have hw := bA (Nat.lt_of_lt_of_le hi (Nat.le_trans hl hml))
  rw [zA, hx]
  simp -implicitDefEqProofs only [inI, hi, aR (fun e he => (hq e he).len), bV hi, hx, eE, atP, hn, cB, bT]
  rw [show aMt x.l = (gU x.a3 33 && !x.a4) from rfl, show bY x.l 0 = x.a0 from rfl]
  cases gU x.a3 33 <;> cases x.a4 <;> simp -implicitDefEqProofs only [aD, aC, Bool.not_true, Bool.not_false, Bool.and_true, Bool.and_false, Bool.true_and, Bool.false_and, eP, eH, List.append_nil, aFp, aFg, inI, hi, aR (fun e he => (hq e he).len), bV hi, hx, atP, aRa (z := 16) (show out.length + 1 ≤ 1000000000000 by omega) (by decide), hw]
theorem aBQ {es : List El} (hl : es.length ≤ 1048576) (hq : ∀ e ∈ es, dH e) : Dn F.aWv [vsl es] [] = some (.own (some T.aYB) (xC es), []) := by
  have hml : (1048576 : Nat) ≤ maxLen := by decide
  refine aQ ?_
  rw [aGE, aMC]
  refine aAJ (es := es) (g := fun _ e => ifP (aMt e) [.str (bY e 0)]) (c := 1) (N := 4000000) (A := fun out i => cQ Dn (qT out es es.length i)) (fin := fun out => some (.own (some T.aYB) out, [])) (fun j hj => cM _ _) (fun out _ => by rw [yY]; simp) (fun i hi out ho => ?_) (by omega)
  obtain ⟨x, hx, ix⟩ := (hq _ (List.getElem_mem hi)).st
  have hn := aGQ (x := ⟨x.a2, x.a3⟩) ix.p.2.2.2.1
  have hw := bA (Nat.lt_of_lt_of_le hi (Nat.le_trans hl hml))
  rw [yY, hx]
  simp -implicitDefEqProofs only [inI, hi, aR (fun e he => (hq e he).len), bV hi, hx, aY.rd_l, hn, cB, bT]
  rw [show aMt x.l = (gU x.a3 33 && !x.a4) from rfl, show bY x.l 0 = x.a0 from rfl]
  cases gU x.a3 33 <;> cases x.a4 <;> simp -implicitDefEqProofs only [aD, aC, Bool.not_true, Bool.not_false, Bool.and_true, Bool.and_false, Bool.true_and, Bool.false_and, eP, eH, List.append_nil, aFF, aE0, aRa (z := 16) (show out.length + 1 ≤ 1000000000000 by omega) (by decide), aG, hw]
end Go.Vs
end
section
open Go Go.Vs Go.Proofs
set_option linter.unusedVariables false
set_option linter.unusedSimpArgs false
namespace Go.Vs
def mI (s : bR) (n : ByteArray) : Int := if s.a0.length > 60 then -1 else iQ (at3 n) 0 s.a0
theorem rY {s : bR} {n : ByteArray} (hs : bQ s.l) (h : ¬ mI s n < 0) : ∃ (j : Nat) (hj : j < s.a0.length) (y : aF), mI s n = (j : Int) ∧ s.a0[j] = y.l ∧ dM y.l := by
  unfold mI at h ⊢
  split at h
  · omega
  · rename_i h60
    obtain ⟨j, hj, hi, _⟩ := xE h
    obtain ⟨y, hy, iy⟩ := (hs.p.2.1 _ (List.getElem_mem hj)).st
    exact ⟨j, hj, y, by rw [if_neg h60, hi], hy, iy⟩
theorem aVh {s : bR} {n : ByteArray} : mI s n = -1 ∨ 0 ≤ mI s n := by
  unfold mI
  split
  · exact .inl rfl
  · rcases aL0 (at3 n) s.a0 0 (by omega) with h | h
    · exact .inl h
    · exact .inr h.1
def aDX : aF := ⟨0, false, nul, nul, [], [], [], [], [], false, []⟩
theorem aT5 : dM aDX.l := show dM [.int .i64 0, .bool false, .str nul, .str nul, .sl fP [], .sl fP [], .sl fP [], .sl fP [], .sl fP [], .bool false, .sl fP []] from
  .mk 0 false nul nul [] [] [] [] [] false [] (by decide) (by decide) (by decide) (fun _ h => by cases h) (by decide) (fun _ h => by cases h) (by decide) (fun _ h => by cases h) (by decide) (fun _ h => by cases h) (by decide) (fun _ h => by cases h) (by decide) (fun _ h => by cases h)
def fZ (s : bR) (n : ByteArray) : aF := if mI s n < 0 then aDX else .of (s.a0.getD (mI s n).toNat [])
theorem aBo {s : bR} {n : ByteArray} (hs : bQ s.l) : dM (fZ s n).l := by
  unfold fZ
  split
  · exact aT5
  · rename_i h
    obtain ⟨j, hj, y, hi, hy, iy⟩ := rY hs h
    rw [hi, Int.toNat_natCast, bV hj, hy]
    exact iy
theorem zF {s : bR} {n : ByteArray} {j : Nat} {hj : j < s.a0.length} {y : aF} (hi : mI s n = (j : Int)) (hy : s.a0[j] = y.l) : fZ s n = y := by
  unfold fZ
  rw [hi, if_neg (by omega), Int.toNat_natCast, bV hj, hy]
  rfl
def uO (n : ByteArray) : Bool := n.toList == (ByteArray.mk #[73, 110, 116]).toList || (n.toList == (ByteArray.mk #[70, 108, 111, 97, 116]).toList || (n.toList == (ByteArray.mk #[83, 116, 114, 105, 110, 103]).toList || (n.toList == (ByteArray.mk #[66, 111, 111, 108, 101, 97, 110]).toList || n.toList == (ByteArray.mk #[73, 68]).toList)))
def mA (s : bR) (n : ByteArray) : Int := if mI s n < 0 then (if uO n = true then 1 else 0) else (fZ s n).a0
section
variable {s : bR} {n a b : ByteArray}
theorem qC (hs : bQ s.l) : Dn F.aX3 [.agg s.l, .leaf (.str n)] [] = some (aJ (mI s n), []) := by
  obtain ⟨hl, hq, _⟩ := hs.p
  refine aQ ?_
  rw [aLo]
  unfold mI
  by_cases h60 : s.a0.length > 60
  · rw [if_pos h60, xP]
    simp -implicitDefEqProofs only [xV, bT, show ((s.a0.length : Int) ≤ 60) = False by simp; omega, decide_false, aC, aKZ]
  · rw [if_neg h60]
    have h6 : ((s.a0.length : Nat) : Int) ≤ 60 := by omega
    refine oZ (es := s.a0) (A := fun i => fN Dn (yM n i s)) (by rw [xP]; simp [xV]) fun i hi => ?_
    obtain ⟨x, hx, _⟩ := (hq _ (List.getElem_mem hi)).st
    rw [xP]
    simp -implicitDefEqProofs only [inI, hi, h6, bT, xV, bA (Nat.lt_of_lt_of_le hi hl), aR (fun e he => (hq e he).len), bV hi, hx, atP]
    rfl
theorem aNu (hs : bQ s.l) : Dn F.aX9 [.agg s.l, .leaf (.str n)] [] = some (aJ (mI s n), []) := by
  obtain ⟨hl, hq, _⟩ := hs.p
  have key : Dn F.aVV [vsl s.a0, .fn F.aXH [.ptr 0 0]] [[.leaf (.str n)]] = some (aJ (iQ (at3 n) 0 s.a0), [[.leaf (.str n)]]) := by
    refine aQ ?_
    rw [nY]
    refine oZ (es := s.a0) (A := fun i => cD Dn (dX s.a0 F.aXH s.a0.length i n)) (by rw [iL]; simp) fun i hi => ?_
    obtain ⟨x, hx, _⟩ := (hq _ (List.getElem_mem hi)).st
    have hc : Dn F.aXH [.agg x.l, .ptr 0 0] [[.leaf (.str n)]] = some (aI (x.a3.toList == n.toList), [[.leaf (.str n)]]) := aQ (aKI ..)
    rw [iL]
    simp -implicitDefEqProofs only [inI, hi, bA (Nat.lt_of_lt_of_le hi hl), aR (fun e he => (hq e he).len), bV hi, hx, aF.rd_l, hc, aKE]
    rfl
  have k2 : Dn F.aYo [vsl s.a0, .leaf (.str n)] [] = some (aJ (mI s n), []) := by
    refine aQ ?_
    rw [aMD, key, aMA, kR]
    unfold mI
    by_cases h60 : s.a0.length > 60
    · rw [if_pos h60, if_pos (by simp; omega)]
    · rw [if_neg h60, if_neg (by simp; omega)]
  refine aQ ?_
  rw [aLK, k2, fW]
theorem mJ (hs : bQ s.l) : Dn F.aXm [.agg s.l, .leaf (.str n)] [] = some (.tup [.agg (fZ s n).l, aI (!decide (mI s n < 0))], []) := by
  refine aQ ?_
  rw [aKx, aNu hs, fW]
  by_cases h : mI s n < 0
  · have : fZ s n = aDX := by unfold fZ; rw [if_pos h]
    rw [this]
    simp -implicitDefEqProofs only [h, decide_true, aD]
    rfl
  · obtain ⟨j, hj, y, hi, hy, iy⟩ := rY hs h
    have hn : ¬ ((j : Int) < 0) := by omega
    rw [zF hi hy, hi]
    simp -implicitDefEqProofs only [hn, decide_false, aC, inI, hj, aR (fun e he => (hs.p.2.1 e he).len), bV hj, hy, aF.rd_l]
    rfl
theorem aBg : Dn F.aXK [.leaf (.str n)] [] = some (aI (uO n), []) := by
  refine aQ ?_
  rw [aKq]
  unfold uO
  simp -implicitDefEqProofs only [bF]
  cases n.toList == (ByteArray.mk #[73, 110, 116]).toList <;> cases n.toList == (ByteArray.mk #[70, 108, 111, 97, 116]).toList <;> cases n.toList == (ByteArray.mk #[83, 116, 114, 105, 110, 103]).toList <;> cases n.toList == (ByteArray.mk #[66, 111, 111, 108, 101, 97, 110]).toList <;> rfl
theorem nU (hs : bQ s.l) : Dn F.aX1 [.agg s.l, .leaf (.str n)] [] = some (aJ (mA s n), []) := by
  refine aQ ?_
  rw [aLM, qC hs, fW, aBg, cB]
  unfold mA
  by_cases h : mI s n < 0
  · have h' : ¬ mI s n ≥ 0 := by omega
    rw [if_pos h]
    simp -implicitDefEqProofs only [h', decide_false, aC]
    cases uO n <;> rfl
  · obtain ⟨j, hj, y, hi, hy, iy⟩ := rY hs h
    rw [if_neg h, zF hi hy, hi]
    simp -implicitDefEqProofs only [show ((j : Nat) : Int) ≥ 0 by omega, inI, hj, aR (fun e he => (hs.p.2.1 e he).len), bV hj, hy, atP]
def aS9 (s : bR) (a b : ByteArray) : Bool :=
  if (a.toList == b.toList) = true then true
  else if (fZ s b).a0 = 3 then ((fZ s a).a0 == 2 || (fZ s a).a0 == 3) && (fZ s a).a4.any (at0 b)
  else if (fZ s b).a0 = 4 then (fZ s a).a0 == 2 && (fZ s b).a4.any (at0 a)
  else false
theorem aMz (hs : bQ s.l) : Dn F.aXv [.agg s.l, .leaf (.str a), .leaf (.str b)] [] = some (aI (aS9 s a b), []) := by
  have ia := (aBo (n := a) hs).p
  have ib := (aBo (n := b) hs).p
  have ca := iB (s := b) ia.2.2.1 ia.2.2.2.1
  have cb := iB (s := a) ib.2.2.1 ib.2.2.2.1
  refine aQ ?_
  rw [aJP, mJ hs, mJ hs]
  simp -implicitDefEqProofs only [rdR, pU, beq_self_eq_true, Bool.not_true, Bool.not_false, Bool.and_true, Bool.true_and, bT, bF, aF.va_l, ca, cb, kR]
  unfold aS9
  by_cases h1 : (a.toList == b.toList) = true
  · simp -implicitDefEqProofs only [h1, if_true]
  · rw [if_neg h1, if_neg h1]
    by_cases h3 : (fZ s b).a0 = 3
    · rw [if_pos (by simpa using h3), if_pos h3]
      cases h2 : ((fZ s a).a0 == 2) <;> cases h4 : ((fZ s a).a0 == 3) <;> simp
    · rw [if_neg (by simpa using h3), if_neg h3]
      by_cases h4 : (fZ s b).a0 = 4
      · rw [if_pos (by simpa using h4), if_pos h4]
        cases h2 : ((fZ s a).a0 == 2) <;> simp
      · rw [if_neg (by simpa using h4), if_neg h4]
theorem aLq (hs : bQ s.l) : Dn F.aW8 [.agg s.l, .leaf (.str a), .leaf (.str b)] [] = some (aI (aS9 s a b), []) := by
  have ia := (aBo (n := a) hs).p
  have ib := (aBo (n := b) hs).p
  have ca := jZ (s := b) ia.2.2.1 ia.2.2.2.1
  have cb := jZ (s := a) ib.2.2.1 ib.2.2.2.1
  refine aQ ?_
  rw [aIg, qC hs, qC hs]
  simp -implicitDefEqProofs only [fW, bF, rP]
  unfold aS9
  by_cases h1 : (a.toList == b.toList) = true
  · simp -implicitDefEqProofs only [h1, if_true, aD]
  rw [if_neg h1]
  simp -implicitDefEqProofs only [Bool.not_eq_true] at h1
  simp -implicitDefEqProofs only [h1, aC, aHg]
  by_cases ha : mI s a < 0
  · have : fZ s a = aDX := by unfold fZ; rw [if_pos ha]
    simp [ha, this, aDX]
  by_cases hb : mI s b < 0
  · have : fZ s b = aDX := by unfold fZ; rw [if_pos hb]
    simp [ha, hb, this, aDX]
  obtain ⟨j, hj, y, hi, hy, iy⟩ := rY hs ha
  obtain ⟨k, hk, z, hi', hz, iz⟩ := rY hs hb
  rw [zF hi hy] at ca ⊢
  rw [zF hi' hz] at cb ⊢
  have nj : ¬ ((j : Nat) : Int) < 0 := by omega
  have nk : ¬ ((k : Nat) : Int) < 0 := by omega
  clear ia ib
  simp -implicitDefEqProofs only [nj, nk, if_false, ha, hb, decide_false, aC, hi, hi', inI, hj, hk, aR (fun e he => (hs.p.2.1 e he).len), bV hj, bV hk, hy, hz, aF.rd_l, aHx, ca, cb, cB, bT, bF, rP, kR]
  by_cases h3 : z.a0 = 3
  · have h4 : ¬ z.a0 = 4 := by omega
    rw [if_pos h3]
    cases h2 : (y.a0 == 2) <;> cases h5 : (y.a0 == 3) <;> simp [h3]
  · rw [if_neg h3]
    by_cases h4 : z.a0 = 4
    · rw [if_pos h4]
      cases h2 : (y.a0 == 2) <;> simp [h4]
    · rw [if_neg h4]
      simp [h3, h4]
end
theorem aQm (s : bR) (hs : bQ s.l) (k : Nat) : ∀ (x y : dN), x.a1.size + y.a1.size = k → x.a1.size ≤ maxLen → y.a1.size ≤ maxLen →
    ∃ b, bD Dn (kJ s x y) = some (aI b, []) ∧ Dn F.aXG [.agg s.l, .agg x.l, .agg y.l] [] = some (aI b, []) := by
  induction k using Nat.strongRecOn with
  | ind k ih =>
    intro x y hk h1 h2
    obtain ⟨n1, w1⟩ := x
    obtain ⟨n2, w2⟩ := y
    simp only at hk h1 h2
    have ih' : ∀ (v1 v2 : ByteArray), v1.size + v2.size < k → v1.size ≤ maxLen → v2.size ≤ maxLen → ∃ b, bD Dn (kJ s ⟨n1, v1⟩ ⟨n2, v2⟩) = some (aI b, []) ∧ Dn F.aXG [.agg s.l, .agg (dN.l ⟨n1, v1⟩), .agg (dN.l ⟨n2, v2⟩)] [] = some (aI b, []) :=
      fun v1 v2 hv g1 g2 => ih _ hv ⟨n1, v1⟩ ⟨n2, v2⟩ rfl g1 g2
    have sp := aI6 Dn s ⟨n1, w1⟩ ⟨n2, w2⟩
    have im : aV Tryz.prog Dn Hs bP F.aXG [.agg s.l, .agg (dN.l ⟨n1, w1⟩), .agg (dN.l ⟨n2, w2⟩)] [] = _ := aKR Dn s ⟨n1, w1⟩ ⟨n2, w2⟩
    have s33 : ∀ {w : ByteArray}, 0 < w.size → w.size ≤ maxLen → (((w.data.toList.getD (IntKind.i64.wrap ((w.size : Int) - 1)).toNat 0).toNat : Int) == 33) = gU w 33 := fun hp hw => aL1 33 (by omega) hp hw
    have s93 : ∀ {w : ByteArray}, 0 < w.size → w.size ≤ maxLen → (((w.data.toList.getD (IntKind.i64.wrap ((w.size : Int) - 1)).toNat 0).toNat : Int) == 93) = gU w 93 := fun hp hw => aL1 93 (by omega) hp hw
    have n33 : ∀ {w : ByteArray}, 0 < w.size → w.size ≤ maxLen → (((w.data.toList.getD (IntKind.i64.wrap ((w.size : Int) - 1)).toNat 0).toNat : Int) != 33) = !gU w 33 := fun hp hw => by rw [← s33 hp hw]; rfl
    have z0 : ∀ {w : ByteArray}, ¬ 0 < w.size → ∀ c, gU w c = false := fun h c => by unfold gU; simp [h]
    simp -implicitDefEqProofs only [aK6 (x := ⟨n1, w1⟩) h1, aK6 (x := ⟨n2, w2⟩) h2, rdR, pU, beq_self_eq_true, Bool.not_true, Bool.not_false, Bool.and_true, Bool.true_and, bT, bF, dN.va_l] at im
    cases e2 : gU w2 33 with
    | true =>
      have p2 := tB e2
      have q2 : ((w2.size : Nat) : Int) > 0 := by omega
      simp -implicitDefEqProofs only [q2, decide_true, bT, aD, aCX p2 h2, aG, s33 p2 h2, e2, aBL] at sp
      cases e1 : gU w1 33 with
      | false =>
        refine ⟨false, ?_, aQ ?_⟩
        · rw [sp]
          by_cases p1 : 0 < w1.size
          · have b1 : (((w1.size : Nat) : Int) == 0) = false := by rw [beq_eq_false_iff_ne]; omega
            simp -implicitDefEqProofs only [b1, bF, Bool.not_false, aD, aCX p1 h1, aG, n33 p1 h1, e1, wW]
          · have b1 : (((w1.size : Nat) : Int) == 0) = true := by rw [beq_iff_eq]; omega
            simp -implicitDefEqProofs only [b1, bF, Bool.not_true, aC, wW, aD]
        · rw [im]; simp -implicitDefEqProofs only [e1, e2, aD, aC]
      | true =>
        have p1 := tB e1
        have b1 : (((w1.size : Nat) : Int) == 0) = false := by rw [beq_eq_false_iff_ne]; omega
        obtain ⟨b, k1, k2⟩ := ih' (cut w1) (cut w2) (by rw [oY, oY]; omega) (by rw [oY]; omega) (by rw [oY]; omega)
        refine ⟨b, ?_, aQ ?_⟩
        · rw [sp]
          simp -implicitDefEqProofs only [b1, bF, Bool.not_false, Bool.not_true, aD, aC, aCX p1 h1, aG, n33 p1 h1, e1, wW, aHq p1 h1, aHq p2 h2, aHD p1 h1, aHD p2 h2, k1]
        · rw [im]; simp -implicitDefEqProofs only [e1, e2, aD, if_true, k2, cB]
    | false =>
      have sp1 : bD Dn (kJ s ⟨n1, w1⟩ ⟨n2, w2⟩) = bD Dn (rT w1.size w2.size false s ⟨n1, w1⟩ ⟨n2, w2⟩) := by
        rw [sp]
        by_cases p2 : 0 < w2.size
        · have q2 : ((w2.size : Nat) : Int) > 0 := by omega
          simp -implicitDefEqProofs only [q2, decide_true, bT, aD, aCX p2 h2, aG, s33 p2 h2, e2]
        · have q2 : ¬ ((w2.size : Nat) : Int) > 0 := by omega
          simp -implicitDefEqProofs only [q2, decide_false, bT, aC]
      have sp2 : bD Dn (rT w1.size w2.size false s ⟨n1, w1⟩ ⟨n2, w2⟩) = bD Dn (rQ w1.size w2.size (gU w1 33) s ⟨n1, w1⟩ ⟨n2, w2⟩) := by
        rw [aBL]
        by_cases p1 : 0 < w1.size
        · have q1 : ((w1.size : Nat) : Int) > 0 := by omega
          simp -implicitDefEqProofs only [q1, decide_true, bT, aD, aC, aCX p1 h1, aG, s33 p1 h1]
        · have q1 : ¬ ((w1.size : Nat) : Int) > 0 := by omega
          simp -implicitDefEqProofs only [q1, decide_false, bT, aC, z0 p1]
      rw [sp1, sp2]
      cases e1 : gU w1 33 with
      | true =>
        have p1 := tB e1
        obtain ⟨b, k1, k2⟩ := ih' (cut w1) w2 (by rw [oY]; omega) (by rw [oY]; omega) h2
        refine ⟨b, ?_, aQ ?_⟩
        · rw [aBT]
          simp -implicitDefEqProofs only [aD, aHq p1 h1, aG, aHD p1 h1, k1]
        · rw [im]; simp -implicitDefEqProofs only [e1, e2, aD, aC, if_true, k2, cB]
      | false =>
        have sp3 : bD Dn (rQ w1.size w2.size false s ⟨n1, w1⟩ ⟨n2, w2⟩) = bD Dn (oV w1.size w2.size (gU w1 93 && gU w2 93) s ⟨n1, w1⟩ ⟨n2, w2⟩) := by
          rw [aBT]
          by_cases p1 : 0 < w1.size
          · have q1 : ((w1.size : Nat) : Int) > 0 := by omega
            by_cases p2 : 0 < w2.size
            · have q2 : ((w2.size : Nat) : Int) > 0 := by omega
              simp -implicitDefEqProofs only [q1, q2, decide_true, bT, aD, aC, aCX p1 h1, aCX p2 h2, aG, s93 p1 h1, s93 p2 h2]
              cases gU w1 93 <;> simp -implicitDefEqProofs only [aD, aC, Bool.true_and, Bool.false_and, if_true, Bool.false_eq_true, if_false]
            · have q2 : ¬ ((w2.size : Nat) : Int) > 0 := by omega
              simp -implicitDefEqProofs only [q1, q2, decide_true, decide_false, bT, aD, aC, z0 p2, Bool.and_false]
          · have q1 : ¬ ((w1.size : Nat) : Int) > 0 := by omega
            simp -implicitDefEqProofs only [q1, decide_false, bT, aC, z0 p1, Bool.false_and]
        have im2 : aV Tryz.prog Dn Hs bP F.aXG [.agg s.l, .agg (dN.l ⟨n1, w1⟩), .agg (dN.l ⟨n2, w2⟩)] [] = kH Dn (wT (gU w1 93 && gU w2 93) s ⟨n1, w1⟩ ⟨n2, w2⟩ ⟨n1, if gU w1 93 = true then cut w1 else w1⟩ ⟨n2, if gU w2 93 = true then cut w2 else w2⟩) := by
          rw [im]
          simp -implicitDefEqProofs only [e1, e2, aC, bT]
          cases gU w1 93 <;> simp -implicitDefEqProofs only [aD, aC, Bool.true_and, Bool.false_and, if_true, Bool.false_eq_true, if_false]
        rw [sp3]
        cases hb : (gU w1 93 && gU w2 93) with
        | true =>
          obtain ⟨l1, l2⟩ : gU w1 93 = true ∧ gU w2 93 = true := by simpa using hb
          have p1 := tB l1
          have p2 := tB l2
          obtain ⟨b, k1, k2⟩ := ih' (cut w1) (cut w2) (by rw [oY, oY]; omega) (by rw [oY]; omega) (by rw [oY]; omega)
          refine ⟨b, ?_, aQ ?_⟩
          · rw [aBW]
            simp -implicitDefEqProofs only [aD, aHq p1 h1, aHq p2 h2, aG, aHD p1 h1, aHD p2 h2, k1]
          · rw [im2, hb, aBG]
            simp -implicitDefEqProofs only [aD, l1, l2, if_true, k2, cB]
        | false =>
          have c1 := aLq (a := n1) (b := n2) hs
          have c2 := aMz (a := n1) (b := n2) hs
          refine ⟨((w1.size : Int) == 0) && (((w2.size : Int) == 0) && aS9 s n1 n2), ?_, aQ ?_⟩
          · rw [aBW]
            simp -implicitDefEqProofs only [aC, bT, c1, cB]
            cases ((w1.size : Int) == 0) <;> cases ((w2.size : Int) == 0) <;> simp -implicitDefEqProofs only [aD, aC, Bool.true_and, Bool.false_and]
          · rw [im2, hb, aBG]
            simp -implicitDefEqProofs only [aC, bT, c2, cB, aS5]
            cases ((w1.size : Int) == 0) <;> cases ((w2.size : Int) == 0) <;> simp -implicitDefEqProofs only [aD, aC, Bool.true_and, Bool.false_and]
open Classical in
noncomputable def aR1 (s : bR) (x y : dN) : Bool := if h : bQ s.l ∧ x.a1.size ≤ maxLen ∧ y.a1.size ≤ maxLen then Classical.choose (aQm s h.1 _ x y rfl h.2.1 h.2.2) else false
theorem aMm {s : bR} {x y : dN} (hs : bQ s.l) (h1 : x.a1.size ≤ maxLen) (h2 : y.a1.size ≤ maxLen) : Dn F.aXE [.agg s.l, .agg x.l, .agg y.l] [] = some (aI (aR1 s x y), []) := by
  have h : bQ s.l ∧ x.a1.size ≤ maxLen ∧ y.a1.size ≤ maxLen := ⟨hs, h1, h2⟩
  refine aQ ?_
  rw [aJ0]
  unfold aR1
  rw [dif_pos h]
  exact (Classical.choose_spec (aQm s h.1 _ x y rfl h.2.1 h.2.2)).1
theorem aL5 {s : bR} {x y : dN} (hs : bQ s.l) (h1 : x.a1.size ≤ maxLen) (h2 : y.a1.size ≤ maxLen) : Dn F.aXG [.agg s.l, .agg x.l, .agg y.l] [] = some (aI (aR1 s x y), []) := by
  have h : bQ s.l ∧ x.a1.size ≤ maxLen ∧ y.a1.size ≤ maxLen := ⟨hs, h1, h2⟩
  unfold aR1
  rw [dif_pos h]
  exact (Classical.choose_spec (aQm s h.1 _ x y rfl h.2.1 h.2.2)).2
end Go.Vs
end
section
open Go Go.Vs Go.Proofs
set_option linter.unusedVariables false
set_option linter.unusedSimpArgs false
namespace Go.Vs
def pb (code : Int) (o p : ByteArray) : El := [.int .i64 code, .str o, .str p]
theorem aQ2 {c : Int} {o p : ByteArray} : dP (pb c o p) := .mk _ _ _
theorem zJ {q : Bool} {c : Int} {o p : ByteArray} : ∀ e ∈ ifP q (pb c o p), dP e := fun e he => by obtain ⟨_, rfl⟩ := aRA he; exact aQ2
theorem iV {a b : List El} (ha : ∀ e ∈ a, dP e) (hb : ∀ e ∈ b, dP e) : ∀ e ∈ a ++ b, dP e := fun e he => (List.mem_append.1 he).elim (ha e) (hb e)
theorem rD {g : Nat → El → List El} {l : List El} {i : Nat} (h : ∀ (j : Nat) (x : El), ∀ e ∈ g j x, dP e) : ∀ e ∈ gS g i l, dP e := fun e he => by
  obtain ⟨j, hj, hx⟩ := aNY l i he
  exact h _ _ e hx
theorem pE {out : List El} {z : Nat} (ho : out.length + 1 ≤ 1000000000) (hz : z ≤ 100) : decide ((out.length + 1) * z ≤ aO) = true := aRa (by omega) hz
theorem aA9 {q : Bool} {c : Int} {o p : ByteArray} {out : List El} (ho : out.length + 1 ≤ 1000000000) : Dn F.aWd [.ptr 0 0, .leaf (.bool q), aJ c, .leaf (.str o), .leaf (.str p)] [[.own (some T.aXJ) out]] =
    some (.tup [], [[.own (some T.aXJ) (out ++ ifP q (pb c o p))]]) := by
  refine aQ ?_
  rw [aEf]
  cases q
  · simp -implicitDefEqProofs only [aC, eH, List.append_nil]
  · simp -implicitDefEqProofs only [aD, eP, pE (z := 40) ho (by decide), Bool.and_true, aG]; rfl
theorem aPG {l out : List El} (hl : ∀ e ∈ l, dP e) (ho : out.length + l.length ≤ 1000000000) : Dn F.aWg [.ptr 0 0, .leaf (.sl fP l)] [[.own (some T.aXJ) out]] =
    some (.tup [], [[.own (some T.aXJ) (out ++ l)]]) := by
  refine aQ ?_
  rw [aEe]
  simp -implicitDefEqProofs only [aRa (z := 40) (show out.length + l.length ≤ 1000000000000 by omega) (by decide), aR (fun e he => (hl e he).len), Bool.and_self, aG]
def rI (x : aF) : Bool := decide ((x.a4.length : Int) > 100) || (decide ((x.a5.length : Int) > 100) || (decide ((x.a6.length : Int) > 100) || (decide ((x.a7.length : Int) > 100) || x.a5.any fun f => decide (((uM f 2).length : Int) > 100))))
theorem gM {x : aF} (h : rI x = false) : x.a4.length ≤ 100 ∧ x.a5.length ≤ 100 ∧ x.a6.length ≤ 100 ∧ x.a7.length ≤ 100 ∧ ∀ f ∈ x.a5, (uM f 2).length ≤ 100 := by
  unfold rI at h
  simp -implicitDefEqProofs only [Bool.or_eq_false_iff, decide_eq_false_iff_not, List.any_eq_false, decide_eq_true_eq] at h
  obtain ⟨h1, h2, h3, h4, h5⟩ := h
  exact ⟨by omega, by omega, by omega, by omega, fun f hf => by have := h5 f hf; omega⟩
theorem aCc {x : aF} (hx : dM x.l) : Dn F.aXV [.agg x.l] [] = some (aI (rI x), []) := by
  obtain ⟨_, _, _, _, hl, hq, _⟩ := hx.p
  refine aQ ?_
  rw [aLP]
  have := aIn (es := x.a5) (p := fun f => decide (((uM f 2).length : Int) > 100)) (A := fun i => lU Dn (yJ i x)) (yes := some (aI true, []))
    (no := some (aI (decide ((x.a4.length : Int) > 100) || (decide ((x.a5.length : Int) > 100) || (decide ((x.a6.length : Int) > 100) || decide ((x.a7.length : Int) > 100)))), [])) (by
      rw [aCC]
      simp -implicitDefEqProofs only [Int.lt_irrefl, decide_false, aC, bF, rP]
      cases decide ((x.a4.length : Int) > 100) <;> cases decide ((x.a5.length : Int) > 100) <;> cases decide ((x.a6.length : Int) > 100) <;> rfl) fun i hi => by
    obtain ⟨y, hy, _⟩ := (hq _ (List.getElem_mem hi)).st
    rw [aCC]
    simp -implicitDefEqProofs only [inI, hi, bA (Nat.lt_of_lt_of_le hi hl), aR (fun e he => (hq e he).len), bV hi, hy, atP]
    rfl
  rw [this]
  unfold rI
  cases hb : x.a5.any fun f => decide (((uM f 2).length : Int) > 100)
  · simp -implicitDefEqProofs only [Bool.false_eq_true, if_false, Bool.or_false]
  · simp -implicitDefEqProofs only [if_true, Bool.or_true]
theorem aBi {x : aF} (hx : dM x.l) : Dn F.aXo [.agg x.l] [] = some (aI (rI x), []) := by
  obtain ⟨_, _, _, _, hl, hq, _⟩ := hx.p
  have key : Dn F.aVQ [vsl x.a5, .fn F.aWU []] [] = some (aJ (iQ (fun f => decide (((uM f 2).length : Int) > 100)) 0 x.a5), []) := by
    refine aQ ?_
    rw [kV]
    refine oZ (es := x.a5) (A := fun i => bN Dn (dG x.a5 F.aWU x.a5.length i)) (by rw [fK]; simp) fun i hi => ?_
    obtain ⟨y, hy, _⟩ := (hq _ (List.getElem_mem hi)).st
    have hc : Dn F.aWU [.agg y.l] [] = some (aI (decide ((y.a2.length : Int) > 100)), []) := aQ (aHS ..)
    rw [fK]
    simp -implicitDefEqProofs only [inI, hi, bA (Nat.lt_of_lt_of_le hi hl), aR (fun e he => (hq e he).len), bV hi, hy, bK.rd_l, hc, aF9]
    rfl
  have k2 : Dn F.aVO [vsl x.a5, .fn F.aWU []] [] = some (aI (x.a5.any fun f => decide (((uM f 2).length : Int) > 100)), []) := by
    refine aQ ?_
    rw [kC, key, aMy, pZ _ _ _ (by omega)]
  refine aQ ?_
  rw [aKm]
  unfold rI
  simp -implicitDefEqProofs only [aIx, k2, aF9, bF, rP]
  cases decide ((x.a4.length : Int) > 100) <;> cases decide ((x.a5.length : Int) > 100) <;> cases decide ((x.a6.length : Int) > 100) <;> cases decide ((x.a7.length : Int) > 100) <;> rfl
def aQr (m : List El) (a : El) : Bool := if iQ (at0 (bY a 0)) 0 m < 0 then true else !(bY (m.getD (iQ (at0 (bY a 0)) 0 m).toNat []) 2 == bY a 2 && (bY (m.getD (iQ (at0 (bY a 0)) 0 m).toNat []) 3 == bY a 3 && true))
def aR3 (nm : ByteArray) (mine own : bK) (a : El) : List El := ifP (aQr mine.a2 a) (pb 11 nm own.a0)
def aQu (nm : ByteArray) (own : bK) (e : El) : List El := ifP (decide (iQ (at0 (bY e 0)) 0 own.a2 < 0)) (pb 11 nm own.a0)
def aQe (nm : ByteArray) (mine own : bK) : List El := gS (fun _ => aR3 nm mine own) 0 own.a2 ++ gS (fun _ => aQu nm own) 0 (xC mine.a2)
theorem aTg (nm : ByteArray) (mine own : bK) : (aQe nm mine own).length ≤ own.a2.length + mine.a2.length := by
  unfold aQe
  have h1 := mU (g := fun _ => aR3 nm mine own) (c := 1) own.a2 0 fun j hj => cM _ _
  have h2 := mU (g := fun _ => aQu nm own) (c := 1) (xC mine.a2) 0 fun j hj => cM _ _
  have h3 := aCF mine.a2
  rw [List.length_append]; omega
theorem aTH {nm : ByteArray} {mine own : bK} : ∀ e ∈ aQe nm mine own, dP e := iV (rD fun j x => zJ) (rD fun j x => zJ)
theorem aNe {nm : ByteArray} {m o : bK} {out : List El} (hm : cF m.l) (ho : cF o.l) (lm : m.a2.length ≤ 1048576) (lo : o.a2.length ≤ 1048576) (hN : out.length ≤ 900000000) :
    Dn F.aXD [.leaf (.str nm), .agg m.l, .agg o.l, .own (some T.aXJ) out] [] = some (.own (some T.aXJ) (out ++ aQe nm m o), []) := by
  have hml : (1048576 : Nat) ≤ maxLen := by decide
  obtain ⟨_, _, _, qm, _⟩ := hm.p
  obtain ⟨_, _, _, qo, _⟩ := ho.p
  have lreq := aCF m.a2
  refine aQ ?_
  rw [aGG]
  unfold aQe
  rw [← List.append_assoc]
  refine jU (es := o.a2) (g := fun _ => aR3 nm m o) (c := 1) (N := 910000000) (A := fun out i => bE Dn (nC nm out i m o))
    (fin := fun out => some (.own (some T.aXJ) (out ++ gS (fun _ => aQu nm o) 0 (xC m.a2)), [])) (fun j hj => cM _ _) (fun out1 ho1 => ?_) (fun i hi out1 ho1 => ?_) (by omega)
  · rw [zO]
    simp -implicitDefEqProofs only [Int.lt_irrefl, decide_false, aC, aBS lm qm, nG]
    refine jU (es := xC m.a2) (g := fun _ => aQu nm o) (c := 1) (N := 920000000) (A := fun out i => bE Dn (qN nm out (xC m.a2) i o))
      (fin := fun out => some (.own (some T.aXJ) out, [])) (fun j hj => cM _ _) (fun out2 ho2 => by rw [zB]; simp) (fun i hi out2 ho2 => ?_) (by omega)
    obtain ⟨u, hu, _⟩ := xU qm _ (List.getElem_mem hi)
    have hw := bA (Nat.lt_of_lt_of_le hi (Nat.le_trans lreq (Nat.le_trans lm hml)))
    rw [zB, hu]
    simp -implicitDefEqProofs only [inI, hi, aR (fun e he => (xU qm e he).len), bV hi, hu, sO, aBt (s := u) (Nat.le_trans lo hml) qo, fW]
    unfold aQu
    rw [show bY [aE.str u] 0 = u from rfl]
    cases decide (iQ (at0 u) 0 o.a2 < 0) <;> simp -implicitDefEqProofs only [aD, aC, eP, eH, List.append_nil, pE (z := 40) (show out2.length + 1 ≤ 1000000000 by omega) (by decide), Bool.and_true, aG, aFr, hw] <;> rfl
  · obtain ⟨a, ha, _⟩ := (qo _ (List.getElem_mem hi)).st
    have hw := bA (Nat.lt_of_lt_of_le hi (Nat.le_trans lo hml))
    have step : ∀ b : Bool, bE Dn (rA nm out1 i b m o) = bE Dn (nC nm (out1 ++ ifP b (pb 11 nm o.a0)) ((i + 1 : Nat) : Int) m o) := fun b => by
      rw [aEK]
      cases b <;> simp -implicitDefEqProofs only [aD, aC, eP, eH, List.append_nil, pE (z := 40) (show out1.length + 1 ≤ 1000000000 by omega) (by decide), Bool.and_true, aG, aEQ, hw] <;> rfl
    rw [zO, ha]
    simp -implicitDefEqProofs only [inI, hi, aR (fun e he => (qo e he).len), bV hi, ha, eE, atP, aBt (s := a.a0) (Nat.le_trans lm hml) qm, fW, step]
    unfold aR3 aQr
    rw [show bY a.l 0 = a.a0 from rfl, show bY a.l 2 = a.a2 from rfl, show bY a.l 3 = a.a3 from rfl]
    by_cases h : iQ (at0 a.a0) 0 m.a2 < 0
    · simp -implicitDefEqProofs only [h, decide_true, show (true == false) = false from rfl, aC, if_true]
    · obtain ⟨j, hj, hi2, _⟩ := xE h
      obtain ⟨y, hy, _⟩ := (qm _ (List.getElem_mem hj)).st
      have hn : ¬ ((j : Int) < 0) := by omega
      rw [hi2]
      simp -implicitDefEqProofs only [hn, decide_false, beq_self_eq_true, aD, if_false, inI, hj, aR (fun e he => (qm e he).len), bV hj, hy, atP]
      rfl
noncomputable def aEg (s : bR) (d : aF) (own : bK) : List El :=
  if (decide (iQ (at0 own.a0) 0 d.a5 < 0) || !aR1 s ⟨(pG d.a5 own.a0).a3, (pG d.a5 own.a0).a4⟩ ⟨own.a3, own.a4⟩) = true then [pb 10 d.a3 own.a0] else aQe d.a3 (pG d.a5 own.a0) own
theorem aPq {s : bR} {d : aF} {own : bK} : ∀ e ∈ aEg s d own, dP e := by
  unfold aEg
  split
  · intro e he; rw [List.mem_singleton.1 he]; exact aQ2
  · exact aTH
theorem aMq {es : List El} {s : ByteArray} {k : Nat} (hq : ∀ e ∈ es, cF e) (h : ∀ f ∈ es, (uM f 2).length ≤ k) : (pG es s).a2.length ≤ k := by
  unfold pG
  split
  · exact Nat.zero_le _
  · rename_i h'
    obtain ⟨j, hj, hi, _⟩ := xE h'
    obtain ⟨y, hy, _⟩ := (hq _ (List.getElem_mem hj)).st
    have := h _ (List.getElem_mem hj)
    rw [hy] at this
    rw [hi, Int.toNat_natCast, bV hj, hy]
    exact this
theorem aMb {s : bR} {d : aF} {own : bK} (hd : dM d.l) (bd : rI d = false) (bo : own.a2.length ≤ 100) : (aEg s d own).length ≤ 200 := by
  unfold aEg
  split
  · simp
  · have h1 := aTg d.a3 (pG d.a5 own.a0) own
    have h2 := aMq (s := own.a0) hd.p.2.2.2.2.2.1 (gM bd).2.2.2.2
    omega
section
variable {s : bR} {d x : aF}
theorem aPp (hs : bQ s.l) (hd : dM d.l) (hx : dM x.l) (bd : rI d = false) (bx : rI x = false) :
    Dn F.aV6 [.agg s.l, .agg d.l, .agg x.l] [] = some (.own (some T.aXJ) (gS (fun _ e => aEg s d (.of e)) 0 x.a5), []) := by
  have hml : (1048576 : Nat) ≤ maxLen := by decide
  obtain ⟨_, _, _, _, hl, hq, _⟩ := hx.p
  obtain ⟨_, _, _, _, hld, hqd, _⟩ := hd.p
  have big := (gM bx).2.2.2.2
  have hl100 := (gM bx).2.1
  refine aQ ?_
  rw [aBa]
  refine aAJ (es := x.a5) (g := fun _ e => aEg s d (.of e)) (c := 200) (N := 900000000) (A := fun out i => aN Dn (eB x.a5 x.a5.length i s d out))
    (fin := fun out => some (.own (some T.aXJ) out, [])) (fun j hj => ?_) (fun out _ => by rw [qP]; simp) (fun i hi out ho => ?_) (by omega)
  · obtain ⟨y, hy, _⟩ := (hq _ (List.getElem_mem hj)).st
    have := big _ (List.getElem_mem hj)
    rw [hy] at this ⊢
    exact aMb hd bd this
  obtain ⟨y, hy, iy⟩ := (hq _ (List.getElem_mem hi)).st
  have by100 := big _ (List.getElem_mem hi)
  rw [hy] at by100
  have by2 : y.a2.length ≤ 100 := by100
  have hw := bA (Nat.lt_of_lt_of_le hi hl)
  obtain ⟨_, _, ly, qy, ny3, ny4, _⟩ := iy.p
  have im := aTU (s := y.a0) hqd
  have lm : (pG d.a5 y.a0).a2.length ≤ 100 := aMq hqd (gM bd).2.2.2.2
  obtain ⟨_, _, _, qm, nm3, nm4, _⟩ := im.p
  have hsub := aL5 (x := ⟨(pG d.a5 y.a0).a3, (pG d.a5 y.a0).a4⟩) (y := ⟨y.a3, y.a4⟩) hs nm4 ny4
  have two : ∀ out' : List El, aN Dn (jW x.a5 x.a5.length i s d out') = aN Dn (eB x.a5 x.a5.length ((i + 1 : Nat) : Int) s d out') := fun out' => by rw [aAB, hw]
  have one : ∀ b : Bool, aN Dn (kA x.a5 x.a5.length i b s d y (pG d.a5 y.a0) out) =
      aN Dn (eB x.a5 x.a5.length ((i + 1 : Nat) : Int) s d (out ++ if b = true then [pb 10 d.a3 y.a0] else aQe d.a3 (pG d.a5 y.a0) y)) := fun b => by
    rw [aAF]
    cases b with
    | true => simp -implicitDefEqProofs only [aD, aA9 (out := out) (show out.length + 1 ≤ 1000000000 by omega), iP, two, if_true, eP]
    | false =>
      simp -implicitDefEqProofs only [aC, Bool.false_eq_true, if_false]
      have lreq := aCF (pG d.a5 y.a0).a2
      unfold aQe
      rw [← List.append_assoc]
      refine jU (es := y.a2) (g := fun _ => aR3 d.a3 (pG d.a5 y.a0) y) (c := 1) (N := 910000000) (A := fun out k => aN Dn (jX x.a5 x.a5.length i y.a2 y.a2.length k s d y (pG d.a5 y.a0) out))
        (fin := fun out => aN Dn (eB x.a5 x.a5.length ((i + 1 : Nat) : Int) s d (out ++ gS (fun _ => aQu d.a3 y) 0 (xC (pG d.a5 y.a0).a2)))) (fun j hj => cM _ _) (fun out1 ho1 => ?_) (fun k hk out1 ho1 => ?_) (by omega)
      · rw [qQ]
        simp -implicitDefEqProofs only [Int.lt_irrefl, decide_false, aC, aBQ (es := (pG d.a5 y.a0).a2) (by omega) qm, nG]
        refine jU (es := xC (pG d.a5 y.a0).a2) (g := fun _ => aQu d.a3 y) (c := 1) (N := 920000000) (A := fun out k => aN Dn (jY x.a5 x.a5.length i (xC (pG d.a5 y.a0).a2) (xC (pG d.a5 y.a0).a2).length k s d y out))
          (fin := fun out => aN Dn (eB x.a5 x.a5.length ((i + 1 : Nat) : Int) s d out)) (fun j hj => cM _ _) (fun out2 ho2 => by rw [qO]; simp -implicitDefEqProofs only [Int.lt_irrefl, decide_false, aC, two]) (fun k hk out2 ho2 => ?_) (by omega)
        obtain ⟨u, hu, _⟩ := xU qm _ (List.getElem_mem hk)
        have hwk := bA (i := k) (by omega)
        rw [qO, hu]
        simp -implicitDefEqProofs only [inI, hk, aR (fun e he => (xU qm e he).len), bV hk, hu, sO, aBu (s := u) ly qy, fW, aA9 (out := out2) (show out2.length + 1 ≤ 1000000000 by omega), iP, hwk]
        rfl
      · obtain ⟨a, ha, _⟩ := (qy _ (List.getElem_mem hk)).st
        have hwk := bA (i := k) (by omega)
        rw [qQ, ha]
        simp -implicitDefEqProofs only [inI, hk, aR (fun e he => (qy e he).len), bV hk, ha, aY.rd_l, aBu (s := a.a0) (es := (pG d.a5 y.a0).a2) (by omega) qm, fW, aA9 (out := out1) (show out1.length + 1 ≤ 1000000000 by omega), iP, qK, hwk]
        unfold aR3 aQr
        rw [show bY a.l 0 = a.a0 from rfl, show bY a.l 2 = a.a2 from rfl, show bY a.l 3 = a.a3 from rfl]
        by_cases h : iQ (at0 a.a0) 0 (pG d.a5 y.a0).a2 < 0
        · simp -implicitDefEqProofs only [h, decide_true, show (true == false) = false from rfl, aC, if_true]
        · obtain ⟨j, hj, hi2, _⟩ := xE h
          obtain ⟨z, hz, _⟩ := (qm _ (List.getElem_mem hj)).st
          have hn : ¬ ((j : Int) < 0) := by omega
          have hmx : (if 0 < (j : Int) then (j : Int) else 0) = (j : Int) := by split <;> omega
          rw [hi2]
          simp -implicitDefEqProofs only [hn, decide_false, beq_self_eq_true, aD, if_false, if_true, hmx, inI, hj, aR (fun e he => (qm e he).len), bV hj, hz, eE, atP, aA9 (out := out1) (show out1.length + 1 ≤ 1000000000 by omega), iP, qK, hwk]
          rfl
  rw [qP, hy]
  simp -implicitDefEqProofs only [inI, hi, aR (fun e he => (hq e he).len), bV hi, hy, bK.rd_l, bK.of_l, bK.va_l, aM3 hd, Option.bind_some, aML, aNp, aPW, aOf, hsub, cB, one, Bool.not_not, bF]
  unfold aEg
  cases decide (iQ (at0 y.a0) 0 d.a5 < 0) <;> simp -implicitDefEqProofs only [aD, aC, Bool.not_true, Bool.not_false, Bool.true_or, Bool.false_or]
end
end Go.Vs
end
