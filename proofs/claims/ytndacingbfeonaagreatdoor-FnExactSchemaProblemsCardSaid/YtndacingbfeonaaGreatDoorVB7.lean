/- What the program's functions compute, read off their text by the shadow runner (MTt, MTm0, MTm, MTr, VsEr, MTz, MTy, MLi, MLj, MLk, MLp, MLw); no condition. -/
import Derived.Laws.Strings
import Derived.Test.YtndacingbfeonaaGreatDoorVB6
section
open Go Go.Vs Go.Proofs
set_option linter.unusedVariables false
set_option linter.unusedSimpArgs false
namespace Go.Vs
def aDY : FuncId → Bool := fun f => [F.aYu, F.aYH, F.aYx, F.aXC, F.aXB, F.aXU, F.aYb, F.aX0, F.aXQ, F.aX1, F.aZX, F.aZr, F.aZS, F.aZC, F.aZP, F.aZv, F.aYj, F.aXV, F.aX4, F.aXS, F.aZa, F.aYB, F.aZk, F.aYY, F.aYE, F.aYl, F.aZw, F.aYZ, F.aYF].contains f
noncomputable abbrev Dd : cD true := den Go.Proofs.Tryz.prog (aNn Dn aDY) Hs
theorem oD {f : FuncId} {a : List (SV true)} {b : List (List (SV true))} {r : SV true × List (List (SV true))} (hk : aDY f = true) (h : aU Go.Proofs.Tryz.prog Dd Hs bN f a b = some r) : Dd f a b = some r :=
  aNC (by simp only [aNn, hk]) h
theorem aAo {f : FuncId} (hk : aDY f = false) {a : List (SV true)} {b : List (List (SV true))} {a' : List (SV false)} {b' : List (List (SV false))} {r' : SV false × List (List (SV false))} {r : SV true × List (List (SV true))}
    (h : Dn f a' b' = some r') (ha : a.map (reS er) = a') (hb : b.map (List.map (reS er)) = b') (hr : (reS li r'.1, r'.2.map (List.map (reS li))) = r) : Dd f a b = some r := aTf hk h ha hb hr
theorem aEk : eX Tryz.prog 3 = some 1 := by kernel_rfl
theorem aEP : eX Tryz.prog 4 = some 1 := by kernel_rfl
theorem aEL : eX Tryz.prog 9 = some 1 := by kernel_rfl
theorem aHI {c : Fl true} {es : List (List (aF false))} (hl : es.length ≤ 1048576) (hq : ∀ e ∈ es, lZ e) : ∀ i : Nat, i ≤ es.length → ∀ z : List (SV true), z.length = (es.length - i) * 1 →
    gX Dd (qV c (reE (fl c) es) es.length i (hU (reE (fl bA) es) i z)) = some (.leaf (.sl bA (reE (fl bA) es)), []) := by
  have hall : ∀ e ∈ reE (fl bA) es, e.length = 1 := mI fun e he => (hq e he).len
  have hN : (reE (fl bA) es).length = es.length := cP es
  have hC : (reE (fl c) es).length = es.length := cP es
  have hml : (1048576 : Nat) ≤ maxLen := by decide
  refine cU ?_ ?_
  · intro z hz
    have g1 := yD (z := z) hall
    have g2 := iX hall
    have g3 := hY (z := z) hall (Nat.le_refl _)
    rw [hN] at g1 g2 g3
    try rw [Nat.mul_one] at g1
    rw [zD]
    simp [g1, g2, g3, hC, SV.flatT, SV.flat, Fl.new]
  · intro i hi ih z hz
    have g3 := hY (z := z) hall (i := i) (by omega)
    have hp := rH (z := z) hall (i := i) (by omega)
    rw [zD]
    obtain ⟨s, he, hs⟩ := hq _ (List.getElem_mem hi)
    rw [aAh, he] at hp
    simp only [reL, reF, List.map_cons, List.map_nil] at hp
    simp only [Int.ofNat_lt, hi, hC, decide_true, aD, Int.natCast_nonneg, Bool.and_true, Int.toNat_natCast, aH, aX (Nat.lt_of_lt_of_le hi (Nat.le_trans hl hml)), aP (mI (φ := fl c) fun e he => (hq e he).len), yQ hi]
    rw [he]
    simp only [reL, reF, cY, cJ]
    have hd' : (i + 1) * 1 ≤ es.length * 1 := Nat.mul_le_mul_right 1 hi
    have hg : (0 + i) * 1 + 1 ≤ (hU (reE (fl bA) es) i z).length := by rw [g3, hz, Nat.sub_mul]; omega
    simp only [hg, decide_true, aH]
    rw [Nat.zero_add, hp]
    exact ih _ (by rw [List.length_drop, hz, Nat.sub_mul, Nat.sub_mul]; omega)
theorem aDN {c : Fl true} {es : List (List (aF false))} (hl : es.length ≤ 1048576) (hq : ∀ e ∈ es, lZ e) : Dd F.aYl [.leaf (.sl c (reE (fl c) es))] [] = some (.leaf (.sl bA (reE (fl bA) es)), []) := by
  apply oD rfl
  have hb : aO = 140737488355328 := rfl
  rw [aGw]
  have hs : decide (es.length ≤ aO) = true := decide_eq_true (by omega)
  have hs2 : decide (es.length * 16 ≤ aO) = true := decide_eq_true (by omega)
  simp only [cP, Int.natCast_nonneg, Int.toNat_natCast, beq_self_eq_true, hs, hs2, decide_true, Bool.and_true, Bool.true_and, aH]
  exact aHI hl hq 0 (Nat.zero_le _) _ (by simp [List.length_flatten])
theorem aH8 {c : Fl true} {ls : List (aF false)} (h : oX ls) : tL ls ≤ 1048576 → Dd F.aZw [.agg (reL (fl c) ls)] [] = some (.agg (reL (fl bA) ls), []) := by
  cases h with
  | mk s0 s1 h0 h1 =>
    intro hb
    apply oD rfl
    simp only [reL, reF]
    rw [aJP]
    try simp []
theorem aIn {c : Fl true} {es : List (List (aF false))} (hl : es.length ≤ 1048576) (hq : ∀ e ∈ es, dB e) (hd : ∀ e ∈ es, Dd F.aYZ [.agg (reL (fl c) e)] [] = some (.agg (reL (fl bA) e), [])) : ∀ i : Nat, i ≤ es.length → ∀ z : List (SV true), z.length = (es.length - i) * 4 →
    iN Dd (rX c (reE (fl c) es) es.length i (hU (reE (fl bA) es) i z)) = some (.leaf (.sl bA (reE (fl bA) es)), []) := by
  have hall : ∀ e ∈ reE (fl bA) es, e.length = 4 := mI fun e he => (hq e he).len
  have hN : (reE (fl bA) es).length = es.length := cP es
  have hC : (reE (fl c) es).length = es.length := cP es
  have hml : (1048576 : Nat) ≤ maxLen := by decide
  refine cU ?_ ?_
  · intro z hz
    have g1 := yD (z := z) hall
    have g2 := iX hall
    have g3 := hY (z := z) hall (Nat.le_refl _)
    rw [hN] at g1 g2 g3
    try rw [Nat.mul_one] at g1
    rw [aAt]
    simp [g1, g2, g3, hC, SV.flatT, SV.flat, Fl.new]
  · intro i hi ih z hz
    have g3 := hY (z := z) hall (i := i) (by omega)
    have hp := rH (z := z) hall (i := i) (by omega)
    rw [aAt]
    have hci := hd _ (List.getElem_mem hi)
    obtain ⟨i0, s1, e2, e3, he, h1, h2, q2, h3, q3⟩ := (hq _ (List.getElem_mem hi)).ex
    rw [aAh, he] at hp
    simp only [reL, reF, List.map_cons, List.map_nil] at hp
    simp only [Int.ofNat_lt, hi, hC, decide_true, aD, Int.natCast_nonneg, Bool.and_true, Int.toNat_natCast, aH, aX (Nat.lt_of_lt_of_le hi (Nat.le_trans hl hml)), aP (mI (φ := fl c) fun e he => (hq e he).len), yQ hi]
    rw [he] at hci ⊢
    simp only [reL, reF] at hci
    simp only [reL, reF, eJ, cY, dD, cQ, cJ, dA, fE, hci, Option.bind_some, jG, List.length_cons, List.length_nil, beq_self_eq_true, Nat.reduceAdd, Nat.reduceBEq, aH]
    have hd' : (i + 1) * 4 ≤ es.length * 4 := Nat.mul_le_mul_right 4 hi
    have hg : (0 + i) * 4 + 4 ≤ (hU (reE (fl bA) es) i z).length := by rw [g3, hz, Nat.sub_mul]; omega
    simp only [hg, decide_true, aH]
    rw [Nat.zero_add, hp]
    exact ih _ (by rw [List.length_drop, hz, Nat.sub_mul, Nat.sub_mul]; omega)
theorem aBU {c : Fl true} {es : List (List (aF false))} (hl : es.length ≤ 1048576) (hq : ∀ e ∈ es, dB e) (hd : ∀ e ∈ es, Dd F.aYZ [.agg (reL (fl c) e)] [] = some (.agg (reL (fl bA) e), [])) : Dd F.aYF [.leaf (.sl c (reE (fl c) es))] [] = some (.leaf (.sl bA (reE (fl bA) es)), []) := by
  apply oD rfl
  have hb : aO = 140737488355328 := rfl
  rw [aHy]
  have hs : decide (es.length ≤ aO) = true := decide_eq_true (by omega)
  have hs2 : decide (es.length * 72 ≤ aO) = true := decide_eq_true (by omega)
  simp only [cP, Int.natCast_nonneg, Int.toNat_natCast, beq_self_eq_true, hs, hs2, decide_true, Bool.and_true, Bool.true_and, aH]
  exact aIn hl hq hd 0 (Nat.zero_le _) _ (by simp [List.length_flatten])
theorem aBF {c : Fl true} {ls : List (aF false)} (h : dB ls) : tL ls ≤ 1048576 → Dd F.aYZ [.agg (reL (fl c) ls)] [] = some (.agg (reL (fl bA) ls), []) := by
  induction h with
  | mk i0 s1 e2 e3 h1 h2 q2 h3 q3 ih2 =>
    intro hb
    apply oD rfl
    simp only [reL, reF]
    rw [aJe]
    have c2 := aBU (c := c) (show e2.length ≤ 1048576 by simp only [tL, tF] at hb; omega) q2 fun e he => ih2 e he (by have := aDa he; simp only [tL, tF] at hb; omega)
    have c3 := aDN (c := c) (show e3.length ≤ 1048576 by simp only [tL, tF] at hb; omega) q3
    try simp [c2, c3]
theorem aT3 {c : Fl true} {es : List (List (aF false))} (hb : es.length + tE es ≤ 1048576) (hq : ∀ e ∈ es, dB e) : Dd F.aYF [.leaf (.sl c (reE (fl c) es))] [] = some (.leaf (.sl bA (reE (fl bA) es)), []) := aBU (by omega) hq fun e he => aBF (hq e he) (by have := aDa he; omega)
theorem aKW {c : Fl true} {es : List (List (aF false))} (hl : es.length ≤ 1048576) (hq : ∀ e ∈ es, lM e) (hd : ∀ e ∈ es, Dd F.aZX [.agg (reL (fl c) e)] [] = some (.agg (reL (fl bA) e), [])) : ∀ i : Nat, i ≤ es.length → ∀ z : List (SV true), z.length = (es.length - i) * 5 →
    kC Dd (vD c (reE (fl c) es) es.length i (hU (reE (fl bA) es) i z)) = some (.leaf (.sl bA (reE (fl bA) es)), []) := by
  have hall : ∀ e ∈ reE (fl bA) es, e.length = 5 := mI fun e he => (hq e he).len
  have hN : (reE (fl bA) es).length = es.length := cP es
  have hC : (reE (fl c) es).length = es.length := cP es
  have hml : (1048576 : Nat) ≤ maxLen := by decide
  refine cU ?_ ?_
  · intro z hz
    have g1 := yD (z := z) hall
    have g2 := iX hall
    have g3 := hY (z := z) hall (Nat.le_refl _)
    rw [hN] at g1 g2 g3
    try rw [Nat.mul_one] at g1
    rw [aBI]
    simp [g1, g2, g3, hC, SV.flatT, SV.flat, Fl.new]
  · intro i hi ih z hz
    have g3 := hY (z := z) hall (i := i) (by omega)
    have hp := rH (z := z) hall (i := i) (by omega)
    rw [aBI]
    have hci := hd _ (List.getElem_mem hi)
    obtain ⟨s0, i1, s2, e3, e4, he, h0, h2, h3, q3, h4, q4⟩ := (hq _ (List.getElem_mem hi)).ex
    rw [aAh, he] at hp
    simp only [reL, reF, List.map_cons, List.map_nil] at hp
    simp only [Int.ofNat_lt, hi, hC, decide_true, aD, Int.natCast_nonneg, Bool.and_true, Int.toNat_natCast, aH, aX (Nat.lt_of_lt_of_le hi (Nat.le_trans hl hml)), aP (mI (φ := fl c) fun e he => (hq e he).len), yQ hi]
    rw [he] at hci ⊢
    simp only [reL, reF] at hci
    simp only [reL, reF, eJ, cY, dD, cQ, cJ, dA, fE, hci, Option.bind_some, jG, List.length_cons, List.length_nil, beq_self_eq_true, Nat.reduceAdd, Nat.reduceBEq, aH]
    have hd' : (i + 1) * 5 ≤ es.length * 5 := Nat.mul_le_mul_right 5 hi
    have hg : (0 + i) * 5 + 5 ≤ (hU (reE (fl bA) es) i z).length := by rw [g3, hz, Nat.sub_mul]; omega
    simp only [hg, decide_true, aH]
    rw [Nat.zero_add, hp]
    exact ih _ (by rw [List.length_drop, hz, Nat.sub_mul, Nat.sub_mul]; omega)
theorem aLQ {c : Fl true} {es : List (List (aF false))} (hl : es.length ≤ 1048576) (hq : ∀ e ∈ es, lM e) (hd : ∀ e ∈ es, Dd F.aZX [.agg (reL (fl c) e)] [] = some (.agg (reL (fl bA) e), [])) : Dd F.aZr [.leaf (.sl c (reE (fl c) es))] [] = some (.leaf (.sl bA (reE (fl bA) es)), []) := by
  apply oD rfl
  have hb : aO = 140737488355328 := rfl
  rw [aKh]
  have hs : decide (es.length ≤ aO) = true := decide_eq_true (by omega)
  have hs2 : decide (es.length * 88 ≤ aO) = true := decide_eq_true (by omega)
  simp only [cP, Int.natCast_nonneg, Int.toNat_natCast, beq_self_eq_true, hs, hs2, decide_true, Bool.and_true, Bool.true_and, aH]
  exact aKW hl hq hd 0 (Nat.zero_le _) _ (by simp [List.length_flatten])
theorem aPP {c : Fl true} {ls : List (aF false)} (h : lM ls) : tL ls ≤ 1048576 → Dd F.aZX [.agg (reL (fl c) ls)] [] = some (.agg (reL (fl bA) ls), []) := by
  cases h with
  | mk s0 i1 s2 e3 e4 h0 h2 h3 q3 h4 q4 =>
    intro hb
    apply oD rfl
    simp only [reL, reF]
    rw [aLf]
    have c1 := aBF (c := c) (.mk i1 s2 e3 e4 h2 h3 q3 h4 q4) (by simp only [tL, tF] at hb ⊢; omega)
    simp only [reL, reF] at c1
    try simp [c1]
theorem aOQ {c : Fl true} {es : List (List (aF false))} (hb : es.length + tE es ≤ 1048576) (hq : ∀ e ∈ es, lM e) : Dd F.aZr [.leaf (.sl c (reE (fl c) es))] [] = some (.leaf (.sl bA (reE (fl bA) es)), []) := aLQ (by omega) hq fun e he => aPP (hq e he) (by have := aDa he; omega)
theorem aLe {c : Fl true} {es : List (List (aF false))} (hl : es.length ≤ 1048576) (hq : ∀ e ∈ es, hQ e) (hd : ∀ e ∈ es, Dd F.aZP [.agg (reL (fl c) e)] [] = some (.agg (reL (fl bA) e), [])) : ∀ i : Nat, i ≤ es.length → ∀ z : List (SV true), z.length = (es.length - i) * 2 →
    kB Dd (vQ c (reE (fl c) es) es.length i (hU (reE (fl bA) es) i z)) = some (.leaf (.sl bA (reE (fl bA) es)), []) := by
  have hall : ∀ e ∈ reE (fl bA) es, e.length = 2 := mI fun e he => (hq e he).len
  have hN : (reE (fl bA) es).length = es.length := cP es
  have hC : (reE (fl c) es).length = es.length := cP es
  have hml : (1048576 : Nat) ≤ maxLen := by decide
  refine cU ?_ ?_
  · intro z hz
    have g1 := yD (z := z) hall
    have g2 := iX hall
    have g3 := hY (z := z) hall (Nat.le_refl _)
    rw [hN] at g1 g2 g3
    try rw [Nat.mul_one] at g1
    rw [aB8]
    simp [g1, g2, g3, hC, SV.flatT, SV.flat, Fl.new]
  · intro i hi ih z hz
    have g3 := hY (z := z) hall (i := i) (by omega)
    have hp := rH (z := z) hall (i := i) (by omega)
    rw [aB8]
    have hci := hd _ (List.getElem_mem hi)
    obtain ⟨s0, e1, he, h0, h1, q1⟩ := (hq _ (List.getElem_mem hi)).ex
    rw [aAh, he] at hp
    simp only [reL, reF, List.map_cons, List.map_nil] at hp
    simp only [Int.ofNat_lt, hi, hC, decide_true, aD, Int.natCast_nonneg, Bool.and_true, Int.toNat_natCast, aH, aX (Nat.lt_of_lt_of_le hi (Nat.le_trans hl hml)), aP (mI (φ := fl c) fun e he => (hq e he).len), yQ hi]
    rw [he] at hci ⊢
    simp only [reL, reF] at hci
    simp only [reL, reF, eJ, cY, dD, cQ, cJ, dA, fE, hci, Option.bind_some, jG, List.length_cons, List.length_nil, beq_self_eq_true, Nat.reduceAdd, Nat.reduceBEq, aH]
    have hd' : (i + 1) * 2 ≤ es.length * 2 := Nat.mul_le_mul_right 2 hi
    have hg : (0 + i) * 2 + 2 ≤ (hU (reE (fl bA) es) i z).length := by rw [g3, hz, Nat.sub_mul]; omega
    simp only [hg, decide_true, aH]
    rw [Nat.zero_add, hp]
    exact ih _ (by rw [List.length_drop, hz, Nat.sub_mul, Nat.sub_mul]; omega)
theorem aLD {c : Fl true} {es : List (List (aF false))} (hl : es.length ≤ 1048576) (hq : ∀ e ∈ es, hQ e) (hd : ∀ e ∈ es, Dd F.aZP [.agg (reL (fl c) e)] [] = some (.agg (reL (fl bA) e), [])) : Dd F.aZv [.leaf (.sl c (reE (fl c) es))] [] = some (.leaf (.sl bA (reE (fl bA) es)), []) := by
  apply oD rfl
  have hb : aO = 140737488355328 := rfl
  rw [aKb]
  have hs : decide (es.length ≤ aO) = true := decide_eq_true (by omega)
  have hs2 : decide (es.length * 40 ≤ aO) = true := decide_eq_true (by omega)
  simp only [cP, Int.natCast_nonneg, Int.toNat_natCast, beq_self_eq_true, hs, hs2, decide_true, Bool.and_true, Bool.true_and, aH]
  exact aLe hl hq hd 0 (Nat.zero_le _) _ (by simp [List.length_flatten])
theorem aP6 {c : Fl true} {ls : List (aF false)} (h : hQ ls) : tL ls ≤ 1048576 → Dd F.aZP [.agg (reL (fl c) ls)] [] = some (.agg (reL (fl bA) ls), []) := by
  cases h with
  | mk s0 e1 h0 h1 q1 =>
    intro hb
    apply oD rfl
    simp only [reL, reF]
    rw [aLE]
    have c1 := aOQ (c := c) (show e1.length + tE e1 ≤ 1048576 by simp only [tL, tF] at hb; omega) q1
    try simp [c1]
theorem zZ {c : Fl true} {es : List (List (aF false))} (hb : es.length + tE es ≤ 1048576) (hq : ∀ e ∈ es, hQ e) : Dd F.aZv [.leaf (.sl c (reE (fl c) es))] [] = some (.leaf (.sl bA (reE (fl bA) es)), []) := aLD (by omega) hq fun e he => aP6 (hq e he) (by have := aDa he; omega)
theorem aIT {c : Fl true} {es : List (List (aF false))} (hl : es.length ≤ 1048576) (hq : ∀ e ∈ es, dF e) (hd : ∀ e ∈ es, Dd F.aZa [.agg (reL (fl c) e)] [] = some (.agg (reL (fl bA) e), [])) : ∀ i : Nat, i ≤ es.length → ∀ z : List (SV true), z.length = (es.length - i) * 10 →
    iL Dd (rS c (reE (fl c) es) es.length i (hU (reE (fl bA) es) i z)) = some (.leaf (.sl bA (reE (fl bA) es)), []) := by
  have hall : ∀ e ∈ reE (fl bA) es, e.length = 10 := mI fun e he => (hq e he).len
  have hN : (reE (fl bA) es).length = es.length := cP es
  have hC : (reE (fl c) es).length = es.length := cP es
  have hml : (1048576 : Nat) ≤ maxLen := by decide
  refine cU ?_ ?_
  · intro z hz
    have g1 := yD (z := z) hall
    have g2 := iX hall
    have g3 := hY (z := z) hall (Nat.le_refl _)
    rw [hN] at g1 g2 g3
    try rw [Nat.mul_one] at g1
    rw [aAC]
    simp [g1, g2, g3, hC, SV.flatT, SV.flat, Fl.new]
  · intro i hi ih z hz
    have g3 := hY (z := z) hall (i := i) (by omega)
    have hp := rH (z := z) hall (i := i) (by omega)
    rw [aAC]
    have hci := hd _ (List.getElem_mem hi)
    obtain ⟨s0, s1, s2, s3, b4, i5, s6, e7, e8, e9, he, h0, h1, h2, h3, h6, h7, q7, h8, q8, h9, q9⟩ := (hq _ (List.getElem_mem hi)).ex
    rw [aAh, he] at hp
    simp only [reL, reF, List.map_cons, List.map_nil] at hp
    simp only [Int.ofNat_lt, hi, hC, decide_true, aD, Int.natCast_nonneg, Bool.and_true, Int.toNat_natCast, aH, aX (Nat.lt_of_lt_of_le hi (Nat.le_trans hl hml)), aP (mI (φ := fl c) fun e he => (hq e he).len), yQ hi]
    rw [he] at hci ⊢
    simp only [reL, reF] at hci
    simp only [reL, reF, eJ, cY, dD, cQ, cJ, dA, fE, hci, Option.bind_some, jG, List.length_cons, List.length_nil, beq_self_eq_true, Nat.reduceAdd, Nat.reduceBEq, aH]
    have hd' : (i + 1) * 10 ≤ es.length * 10 := Nat.mul_le_mul_right 10 hi
    have hg : (0 + i) * 10 + 10 ≤ (hU (reE (fl bA) es) i z).length := by rw [g3, hz, Nat.sub_mul]; omega
    simp only [hg, decide_true, aH]
    rw [Nat.zero_add, hp]
    exact ih _ (by rw [List.length_drop, hz, Nat.sub_mul, Nat.sub_mul]; omega)
theorem aIl {c : Fl true} {es : List (List (aF false))} (hl : es.length ≤ 1048576) (hq : ∀ e ∈ es, dF e) (hd : ∀ e ∈ es, Dd F.aZa [.agg (reL (fl c) e)] [] = some (.agg (reL (fl bA) e), [])) : Dd F.aYB [.leaf (.sl c (reE (fl c) es))] [] = some (.leaf (.sl bA (reE (fl bA) es)), []) := by
  apply oD rfl
  have hb : aO = 140737488355328 := rfl
  rw [aHp]
  have hs : decide (es.length ≤ aO) = true := decide_eq_true (by omega)
  have hs2 : decide (es.length * 168 ≤ aO) = true := decide_eq_true (by omega)
  simp only [cP, Int.natCast_nonneg, Int.toNat_natCast, beq_self_eq_true, hs, hs2, decide_true, Bool.and_true, Bool.true_and, aH]
  exact aIT hl hq hd 0 (Nat.zero_le _) _ (by simp [List.length_flatten])
theorem aOb {c : Fl true} {ls : List (aF false)} (h : dF ls) : tL ls ≤ 1048576 → Dd F.aZa [.agg (reL (fl c) ls)] [] = some (.agg (reL (fl bA) ls), []) := by
  cases h with
  | mk s0 s1 s2 s3 b4 i5 s6 e7 e8 e9 h0 h1 h2 h3 h6 h7 q7 h8 q8 h9 q9 =>
    intro hb
    apply oD rfl
    simp only [reL, reF]
    rw [aJd]
    have c2 := aH8 (c := c) (.mk s2 s3 h2 h3) (by simp only [tL, tF] at hb ⊢; omega)
    simp only [reL, reF] at c2
    have c5 := aBF (c := c) (.mk i5 s6 e7 e8 h6 h7 q7 h8 q8) (by simp only [tL, tF] at hb ⊢; omega)
    simp only [reL, reF] at c5
    have c9 := zZ (c := c) (show e9.length + tE e9 ≤ 1048576 by simp only [tL, tF] at hb; omega) q9
    try simp [c2, c5, c9]
theorem aFe {c : Fl true} {es : List (List (aF false))} (hb : es.length + tE es ≤ 1048576) (hq : ∀ e ∈ es, dF e) : Dd F.aYB [.leaf (.sl c (reE (fl c) es))] [] = some (.leaf (.sl bA (reE (fl bA) es)), []) := aIl (by omega) hq fun e he => aOb (hq e he) (by have := aDa he; omega)
theorem aFi {c : Fl true} {es : List (List (aF false))} (hl : es.length ≤ 1048576) (hq : ∀ e ∈ es, cK e) (hd : ∀ e ∈ es, Dd F.aX4 [.agg (reL (fl c) e)] [] = some (.agg (reL (fl bA) e), [])) : ∀ i : Nat, i ≤ es.length → ∀ z : List (SV true), z.length = (es.length - i) * 6 →
    fJ Dd (oN c (reE (fl c) es) es.length i (hU (reE (fl bA) es) i z)) = some (.leaf (.sl bA (reE (fl bA) es)), []) := by
  have hall : ∀ e ∈ reE (fl bA) es, e.length = 6 := mI fun e he => (hq e he).len
  have hN : (reE (fl bA) es).length = es.length := cP es
  have hC : (reE (fl c) es).length = es.length := cP es
  have hml : (1048576 : Nat) ≤ maxLen := by decide
  refine cU ?_ ?_
  · intro z hz
    have g1 := yD (z := z) hall
    have g2 := iX hall
    have g3 := hY (z := z) hall (Nat.le_refl _)
    rw [hN] at g1 g2 g3
    try rw [Nat.mul_one] at g1
    rw [wN]
    simp [g1, g2, g3, hC, SV.flatT, SV.flat, Fl.new]
  · intro i hi ih z hz
    have g3 := hY (z := z) hall (i := i) (by omega)
    have hp := rH (z := z) hall (i := i) (by omega)
    rw [wN]
    have hci := hd _ (List.getElem_mem hi)
    obtain ⟨s0, s1, e2, s3, s4, e5, he, h0, h1, h2, q2, h3, h4, h5, q5⟩ := (hq _ (List.getElem_mem hi)).ex
    rw [aAh, he] at hp
    simp only [reL, reF, List.map_cons, List.map_nil] at hp
    simp only [Int.ofNat_lt, hi, hC, decide_true, aD, Int.natCast_nonneg, Bool.and_true, Int.toNat_natCast, aH, aX (Nat.lt_of_lt_of_le hi (Nat.le_trans hl hml)), aP (mI (φ := fl c) fun e he => (hq e he).len), yQ hi]
    rw [he] at hci ⊢
    simp only [reL, reF] at hci
    simp only [reL, reF, eJ, cY, dD, cQ, cJ, dA, fE, hci, Option.bind_some, jG, List.length_cons, List.length_nil, beq_self_eq_true, Nat.reduceAdd, Nat.reduceBEq, aH]
    have hd' : (i + 1) * 6 ≤ es.length * 6 := Nat.mul_le_mul_right 6 hi
    have hg : (0 + i) * 6 + 6 ≤ (hU (reE (fl bA) es) i z).length := by rw [g3, hz, Nat.sub_mul]; omega
    simp only [hg, decide_true, aH]
    rw [Nat.zero_add, hp]
    exact ih _ (by rw [List.length_drop, hz, Nat.sub_mul, Nat.sub_mul]; omega)
theorem aFr {c : Fl true} {es : List (List (aF false))} (hl : es.length ≤ 1048576) (hq : ∀ e ∈ es, cK e) (hd : ∀ e ∈ es, Dd F.aX4 [.agg (reL (fl c) e)] [] = some (.agg (reL (fl bA) e), [])) : Dd F.aXS [.leaf (.sl c (reE (fl c) es))] [] = some (.leaf (.sl bA (reE (fl bA) es)), []) := by
  apply oD rfl
  have hb : aO = 140737488355328 := rfl
  rw [aEm]
  have hs : decide (es.length ≤ aO) = true := decide_eq_true (by omega)
  have hs2 : decide (es.length * 112 ≤ aO) = true := decide_eq_true (by omega)
  simp only [cP, Int.natCast_nonneg, Int.toNat_natCast, beq_self_eq_true, hs, hs2, decide_true, Bool.and_true, Bool.true_and, aH]
  exact aFi hl hq hd 0 (Nat.zero_le _) _ (by simp [List.length_flatten])
theorem aJK {c : Fl true} {ls : List (aF false)} (h : cK ls) : tL ls ≤ 1048576 → Dd F.aX4 [.agg (reL (fl c) ls)] [] = some (.agg (reL (fl bA) ls), []) := by
  cases h with
  | mk s0 s1 e2 s3 s4 e5 h0 h1 h2 q2 h3 h4 h5 q5 =>
    intro hb
    apply oD rfl
    simp only [reL, reF]
    rw [aFj]
    have c2 := aFe (c := c) (show e2.length + tE e2 ≤ 1048576 by simp only [tL, tF] at hb; omega) q2
    have c3 := aH8 (c := c) (.mk s3 s4 h3 h4) (by simp only [tL, tF] at hb ⊢; omega)
    simp only [reL, reF] at c3
    have c5 := zZ (c := c) (show e5.length + tE e5 ≤ 1048576 by simp only [tL, tF] at hb; omega) q5
    try simp [c2, c3, c5]
theorem aIU {c : Fl true} {es : List (List (aF false))} (hb : es.length + tE es ≤ 1048576) (hq : ∀ e ∈ es, cK e) : Dd F.aXS [.leaf (.sl c (reE (fl c) es))] [] = some (.leaf (.sl bA (reE (fl bA) es)), []) := aFr (by omega) hq fun e he => aJK (hq e he) (by have := aDa he; omega)
theorem aGt {c : Fl true} {es : List (List (aF false))} (hl : es.length ≤ 1048576) (hq : ∀ e ∈ es, cZ e) (hd : ∀ e ∈ es, Dd F.aYj [.agg (reL (fl c) e)] [] = some (.agg (reL (fl bA) e), [])) : ∀ i : Nat, i ≤ es.length → ∀ z : List (SV true), z.length = (es.length - i) * 3 →
    gA Dd (pJ c (reE (fl c) es) es.length i (hU (reE (fl bA) es) i z)) = some (.leaf (.sl bA (reE (fl bA) es)), []) := by
  have hall : ∀ e ∈ reE (fl bA) es, e.length = 3 := mI fun e he => (hq e he).len
  have hN : (reE (fl bA) es).length = es.length := cP es
  have hC : (reE (fl c) es).length = es.length := cP es
  have hml : (1048576 : Nat) ≤ maxLen := by decide
  refine cU ?_ ?_
  · intro z hz
    have g1 := yD (z := z) hall
    have g2 := iX hall
    have g3 := hY (z := z) hall (Nat.le_refl _)
    rw [hN] at g1 g2 g3
    try rw [Nat.mul_one] at g1
    rw [xD]
    simp [g1, g2, g3, hC, SV.flatT, SV.flat, Fl.new]
  · intro i hi ih z hz
    have g3 := hY (z := z) hall (i := i) (by omega)
    have hp := rH (z := z) hall (i := i) (by omega)
    rw [xD]
    have hci := hd _ (List.getElem_mem hi)
    obtain ⟨s0, s1, e2, he, h0, h1, h2, q2⟩ := (hq _ (List.getElem_mem hi)).ex
    rw [aAh, he] at hp
    simp only [reL, reF, List.map_cons, List.map_nil] at hp
    simp only [Int.ofNat_lt, hi, hC, decide_true, aD, Int.natCast_nonneg, Bool.and_true, Int.toNat_natCast, aH, aX (Nat.lt_of_lt_of_le hi (Nat.le_trans hl hml)), aP (mI (φ := fl c) fun e he => (hq e he).len), yQ hi]
    rw [he] at hci ⊢
    simp only [reL, reF] at hci
    simp only [reL, reF, eJ, cY, dD, cQ, cJ, dA, fE, hci, Option.bind_some, jG, List.length_cons, List.length_nil, beq_self_eq_true, Nat.reduceAdd, Nat.reduceBEq, aH]
    have hd' : (i + 1) * 3 ≤ es.length * 3 := Nat.mul_le_mul_right 3 hi
    have hg : (0 + i) * 3 + 3 ≤ (hU (reE (fl bA) es) i z).length := by rw [g3, hz, Nat.sub_mul]; omega
    simp only [hg, decide_true, aH]
    rw [Nat.zero_add, hp]
    exact ih _ (by rw [List.length_drop, hz, Nat.sub_mul, Nat.sub_mul]; omega)
theorem aGM {c : Fl true} {es : List (List (aF false))} (hl : es.length ≤ 1048576) (hq : ∀ e ∈ es, cZ e) (hd : ∀ e ∈ es, Dd F.aYj [.agg (reL (fl c) e)] [] = some (.agg (reL (fl bA) e), [])) : Dd F.aXV [.leaf (.sl c (reE (fl c) es))] [] = some (.leaf (.sl bA (reE (fl bA) es)), []) := by
  apply oD rfl
  have hb : aO = 140737488355328 := rfl
  rw [aFt]
  have hs : decide (es.length ≤ aO) = true := decide_eq_true (by omega)
  have hs2 : decide (es.length * 56 ≤ aO) = true := decide_eq_true (by omega)
  simp only [cP, Int.natCast_nonneg, Int.toNat_natCast, beq_self_eq_true, hs, hs2, decide_true, Bool.and_true, Bool.true_and, aH]
  exact aGt hl hq hd 0 (Nat.zero_le _) _ (by simp [List.length_flatten])
theorem aLI {c : Fl true} {ls : List (aF false)} (h : cZ ls) : tL ls ≤ 1048576 → Dd F.aYj [.agg (reL (fl c) ls)] [] = some (.agg (reL (fl bA) ls), []) := by
  cases h with
  | mk s0 s1 e2 h0 h1 h2 q2 =>
    intro hb
    apply oD rfl
    simp only [reL, reF]
    rw [aGh]
    have c2 := zZ (c := c) (show e2.length + tE e2 ≤ 1048576 by simp only [tL, tF] at hb; omega) q2
    try simp [c2]
theorem aKw {c : Fl true} {es : List (List (aF false))} (hb : es.length + tE es ≤ 1048576) (hq : ∀ e ∈ es, cZ e) : Dd F.aXV [.leaf (.sl c (reE (fl c) es))] [] = some (.leaf (.sl bA (reE (fl bA) es)), []) := aGM (by omega) hq fun e he => aLI (hq e he) (by have := aDa he; omega)
theorem aJ0 {c : Fl true} {es : List (List (aF false))} (hl : es.length ≤ 1048576) (hq : ∀ e ∈ es, eV e) (hd : ∀ e ∈ es, Dd F.aZk [.agg (reL (fl c) e)] [] = some (.agg (reL (fl bA) e), [])) : ∀ i : Nat, i ≤ es.length → ∀ z : List (SV true), z.length = (es.length - i) * 2 →
    jH Dd (tO c (reE (fl c) es) es.length i (hU (reE (fl bA) es) i z)) = some (.leaf (.sl bA (reE (fl bA) es)), []) := by
  have hall : ∀ e ∈ reE (fl bA) es, e.length = 2 := mI fun e he => (hq e he).len
  have hN : (reE (fl bA) es).length = es.length := cP es
  have hC : (reE (fl c) es).length = es.length := cP es
  have hml : (1048576 : Nat) ≤ maxLen := by decide
  refine cU ?_ ?_
  · intro z hz
    have g1 := yD (z := z) hall
    have g2 := iX hall
    have g3 := hY (z := z) hall (Nat.le_refl _)
    rw [hN] at g1 g2 g3
    try rw [Nat.mul_one] at g1
    rw [aBb]
    simp [g1, g2, g3, hC, SV.flatT, SV.flat, Fl.new]
  · intro i hi ih z hz
    have g3 := hY (z := z) hall (i := i) (by omega)
    have hp := rH (z := z) hall (i := i) (by omega)
    rw [aBb]
    have hci := hd _ (List.getElem_mem hi)
    obtain ⟨i0, s1, he, h1⟩ := (hq _ (List.getElem_mem hi)).ex
    rw [aAh, he] at hp
    simp only [reL, reF, List.map_cons, List.map_nil] at hp
    simp only [Int.ofNat_lt, hi, hC, decide_true, aD, Int.natCast_nonneg, Bool.and_true, Int.toNat_natCast, aH, aX (Nat.lt_of_lt_of_le hi (Nat.le_trans hl hml)), aP (mI (φ := fl c) fun e he => (hq e he).len), yQ hi]
    rw [he] at hci ⊢
    simp only [reL, reF] at hci
    simp only [reL, reF, eJ, cY, dD, cQ, cJ, dA, fE, hci, Option.bind_some, jG, List.length_cons, List.length_nil, beq_self_eq_true, Nat.reduceAdd, Nat.reduceBEq, aH]
    have hd' : (i + 1) * 2 ≤ es.length * 2 := Nat.mul_le_mul_right 2 hi
    have hg : (0 + i) * 2 + 2 ≤ (hU (reE (fl bA) es) i z).length := by rw [g3, hz, Nat.sub_mul]; omega
    simp only [hg, decide_true, aH]
    rw [Nat.zero_add, hp]
    exact ih _ (by rw [List.length_drop, hz, Nat.sub_mul, Nat.sub_mul]; omega)
theorem aJx {c : Fl true} {es : List (List (aF false))} (hl : es.length ≤ 1048576) (hq : ∀ e ∈ es, eV e) (hd : ∀ e ∈ es, Dd F.aZk [.agg (reL (fl c) e)] [] = some (.agg (reL (fl bA) e), [])) : Dd F.aYY [.leaf (.sl c (reE (fl c) es))] [] = some (.leaf (.sl bA (reE (fl bA) es)), []) := by
  apply oD rfl
  have hb : aO = 140737488355328 := rfl
  rw [aIS]
  have hs : decide (es.length ≤ aO) = true := decide_eq_true (by omega)
  have hs2 : decide (es.length * 24 ≤ aO) = true := decide_eq_true (by omega)
  simp only [cP, Int.natCast_nonneg, Int.toNat_natCast, beq_self_eq_true, hs, hs2, decide_true, Bool.and_true, Bool.true_and, aH]
  exact aJ0 hl hq hd 0 (Nat.zero_le _) _ (by simp [List.length_flatten])
theorem aOS {c : Fl true} {ls : List (aF false)} (h : eV ls) : tL ls ≤ 1048576 → Dd F.aZk [.agg (reL (fl c) ls)] [] = some (.agg (reL (fl bA) ls), []) := by
  cases h with
  | mk i0 s1 h1 =>
    intro hb
    apply oD rfl
    simp only [reL, reF]
    rw [aKl]
    try simp []
theorem aGa {c : Fl true} {es : List (List (aF false))} (hb : es.length + tE es ≤ 1048576) (hq : ∀ e ∈ es, eV e) : Dd F.aYY [.leaf (.sl c (reE (fl c) es))] [] = some (.leaf (.sl bA (reE (fl bA) es)), []) := aJx (by omega) hq fun e he => aOS (hq e he) (by have := aDa he; omega)
theorem aKO {c : Fl true} {es : List (List (aF false))} (hl : es.length ≤ 1048576) (hq : ∀ e ∈ es, eA e) (hd : ∀ e ∈ es, Dd F.aZS [.agg (reL (fl c) e)] [] = some (.agg (reL (fl bA) e), [])) : ∀ i : Nat, i ≤ es.length → ∀ z : List (SV true), z.length = (es.length - i) * 11 →
    kA Dd (vN c (reE (fl c) es) es.length i (hU (reE (fl bA) es) i z)) = some (.leaf (.sl bA (reE (fl bA) es)), []) := by
  have hall : ∀ e ∈ reE (fl bA) es, e.length = 11 := mI fun e he => (hq e he).len
  have hN : (reE (fl bA) es).length = es.length := cP es
  have hC : (reE (fl c) es).length = es.length := cP es
  have hml : (1048576 : Nat) ≤ maxLen := by decide
  refine cU ?_ ?_
  · intro z hz
    have g1 := yD (z := z) hall
    have g2 := iX hall
    have g3 := hY (z := z) hall (Nat.le_refl _)
    rw [hN] at g1 g2 g3
    try rw [Nat.mul_one] at g1
    rw [aBB]
    simp [g1, g2, g3, hC, SV.flatT, SV.flat, Fl.new]
  · intro i hi ih z hz
    have g3 := hY (z := z) hall (i := i) (by omega)
    have hp := rH (z := z) hall (i := i) (by omega)
    rw [aBB]
    have hci := hd _ (List.getElem_mem hi)
    obtain ⟨i0, b1, s2, s3, e4, e5, e6, e7, e8, b9, e10, he, h2, h3, h4, q4, h5, q5, h6, q6, h7, q7, h8, q8, h10, q10⟩ := (hq _ (List.getElem_mem hi)).ex
    rw [aAh, he] at hp
    simp only [reL, reF, List.map_cons, List.map_nil] at hp
    simp only [Int.ofNat_lt, hi, hC, decide_true, aD, Int.natCast_nonneg, Bool.and_true, Int.toNat_natCast, aH, aX (Nat.lt_of_lt_of_le hi (Nat.le_trans hl hml)), aP (mI (φ := fl c) fun e he => (hq e he).len), yQ hi]
    rw [he] at hci ⊢
    simp only [reL, reF] at hci
    simp only [reL, reF, eJ, cY, dD, cQ, cJ, dA, fE, hci, Option.bind_some, jG, List.length_cons, List.length_nil, beq_self_eq_true, Nat.reduceAdd, Nat.reduceBEq, aH]
    have hd' : (i + 1) * 11 ≤ es.length * 11 := Nat.mul_le_mul_right 11 hi
    have hg : (0 + i) * 11 + 11 ≤ (hU (reE (fl bA) es) i z).length := by rw [g3, hz, Nat.sub_mul]; omega
    simp only [hg, decide_true, aH]
    rw [Nat.zero_add, hp]
    exact ih _ (by rw [List.length_drop, hz, Nat.sub_mul, Nat.sub_mul]; omega)
theorem aKG {c : Fl true} {es : List (List (aF false))} (hl : es.length ≤ 1048576) (hq : ∀ e ∈ es, eA e) (hd : ∀ e ∈ es, Dd F.aZS [.agg (reL (fl c) e)] [] = some (.agg (reL (fl bA) e), [])) : Dd F.aZC [.leaf (.sl c (reE (fl c) es))] [] = some (.leaf (.sl bA (reE (fl bA) es)), []) := by
  apply oD rfl
  have hb : aO = 140737488355328 := rfl
  rw [aKj]
  have hs : decide (es.length ≤ aO) = true := decide_eq_true (by omega)
  have hs2 : decide (es.length * 200 ≤ aO) = true := decide_eq_true (by omega)
  simp only [cP, Int.natCast_nonneg, Int.toNat_natCast, beq_self_eq_true, hs, hs2, decide_true, Bool.and_true, Bool.true_and, aH]
  exact aKO hl hq hd 0 (Nat.zero_le _) _ (by simp [List.length_flatten])
theorem aPF {c : Fl true} {ls : List (aF false)} (h : eA ls) : tL ls ≤ 1048576 → Dd F.aZS [.agg (reL (fl c) ls)] [] = some (.agg (reL (fl bA) ls), []) := by
  cases h with
  | mk i0 b1 s2 s3 e4 e5 e6 e7 e8 b9 e10 h2 h3 h4 q4 h5 q5 h6 q6 h7 q7 h8 q8 h10 q10 =>
    intro hb
    apply oD rfl
    simp only [reL, reF]
    rw [aKK]
    have c4 := aDN (c := c) (show e4.length ≤ 1048576 by simp only [tL, tF] at hb; omega) q4
    have c5 := aIU (c := c) (show e5.length + tE e5 ≤ 1048576 by simp only [tL, tF] at hb; omega) q5
    have c6 := aFe (c := c) (show e6.length + tE e6 ≤ 1048576 by simp only [tL, tF] at hb; omega) q6
    have c7 := aKw (c := c) (show e7.length + tE e7 ≤ 1048576 by simp only [tL, tF] at hb; omega) q7
    have c8 := aGa (c := c) (show e8.length + tE e8 ≤ 1048576 by simp only [tL, tF] at hb; omega) q8
    have c10 := zZ (c := c) (show e10.length + tE e10 ≤ 1048576 by simp only [tL, tF] at hb; omega) q10
    try simp [c4, c5, c6, c7, c8, c10]
theorem aHZ {c : Fl true} {es : List (List (aF false))} (hb : es.length + tE es ≤ 1048576) (hq : ∀ e ∈ es, eA e) : Dd F.aZC [.leaf (.sl c (reE (fl c) es))] [] = some (.leaf (.sl bA (reE (fl bA) es)), []) := aKG (by omega) hq fun e he => aPF (hq e he) (by have := aDa he; omega)
theorem aMF {c : Fl true} {ls : List (aF false)} (h : bL ls) : tL ls ≤ 1048576 → Dd F.aYE [.agg (reL (fl c) ls)] [] = some (.agg (reL (fl bA) ls), []) := by
  cases h with
  | mk e0 e1 e2 h0 q0 h1 q1 h2 q2 =>
    intro hb
    apply oD rfl
    simp only [reL, reF]
    rw [aHG]
    have c0 := aHZ (c := c) (show e0.length + tE e0 ≤ 1048576 by simp only [tL, tF] at hb; omega) q0
    have c1 := aHZ (c := c) (show e1.length + tE e1 ≤ 1048576 by simp only [tL, tF] at hb; omega) q1
    have c2 := aGa (c := c) (show e2.length + tE e2 ≤ 1048576 by simp only [tL, tF] at hb; omega) q2
    try simp [c0, c1, c2]
end Go.Vs
end
section
open Go Go.Vs Go.Proofs
set_option linter.unusedVariables false
set_option linter.unusedSimpArgs false
namespace Go.Vs
theorem aVL {x : Int} (h : 0 ≤ x) : IntKind.i64.wrap x ≤ x := by
  have e : IntKind.i64.wrap x = if x % 18446744073709551616 ≥ 9223372036854775808 then x % 18446744073709551616 - 18446744073709551616 else x % 18446744073709551616 := by
    simp [IntKind.wrap, IntKind.signed, IntKind.bits]
  rw [e]
  split <;> omega
theorem aIc : ∀ (n : Nat) (i0 : Int) (s3 : ByteArray), i0 < 10 ^ n → s3.size + n + 1 ≤ 140737488355328 → ∃ s : ByteArray, kD Dn (vU i0 s3) = some (.leaf (.str s), [])
  | 0, i0, s3, h, hs => by
    have h0 : ¬ i0 > 0 := by simp at h; omega
    rw [vZ]
    have h1 : (ByteArray.mk #[109]).size + s3.size ≤ 140737488355328 := by have : (ByteArray.mk #[109]).size = 1 := rfl; omega
    simp only [h0, decide_false, aC, h1, decide_true, aH]
    exact ⟨_, rfl⟩
  | n + 1, i0, s3, h, hs => by
    rw [vZ]
    by_cases h0 : i0 > 0
    · have hz : ∀ x : UInt8, (ByteArray.mk #[x]).size = 1 := fun _ => rfl
      have h2 : IntKind.i64.wrap (i0.tdiv 10) < 10 ^ n := by
        have h3 : 0 ≤ i0.tdiv 10 := Int.tdiv_nonneg (by omega) (by omega)
        have h4 := aVL h3
        have h5 : i0.tdiv 10 < 10 ^ n := by
          rw [Int.tdiv_eq_ediv_of_nonneg (by omega)]
          rw [Int.pow_succ] at h
          omega
        omega
      simp only [h0, decide_true, aD, List.map_cons, List.map_nil, hz, show 1 + s3.size ≤ 140737488355328 by omega, aH]
      exact aIc n _ _ h2 (by rw [ByteArray.size_append, hz]; omega)
    · have h1 : (ByteArray.mk #[109]).size + s3.size ≤ 140737488355328 := by have : (ByteArray.mk #[109]).size = 1 := rfl; omega
      simp only [h0, decide_false, aC, h1, decide_true, aH]
      exact ⟨_, rfl⟩
theorem aL5 (k : Int) : ∃ s : ByteArray, Dn F.aYs [aK k] [] = some (.leaf (.str s), []) := by
  have key : ∃ s : ByteArray, aU Go.Proofs.Tryz.prog Dn Hs bN F.aYs [aK k] [] = some (.leaf (.str s), []) := by
    rw [aJm]
    by_cases h : k ≤ 0
    · simp only [h, decide_true, aD]; exact ⟨_, rfl⟩
    · obtain ⟨n, hn⟩ : ∃ n : Nat, k < 10 ^ n ∧ n ≤ k.toNat := ⟨k.toNat, by
        have : (k.toNat : Int) < 10 ^ k.toNat := by exact_mod_cast (Nat.lt_pow_self (by omega) : k.toNat < 10 ^ k.toNat)
        omega, Nat.le_refl _⟩
      simp only [h, decide_false, aC]
      rw [vZ]
      have hz : ∀ x : UInt8, (ByteArray.mk #[x]).size = 1 := fun _ => rfl
      have h0 : k > 0 := by omega
      have he : (ByteArray.mk #[]).size = 0 := rfl
      simp only [h0, decide_true, aD, List.map_cons, List.map_nil, hz, he, show 1 + 0 ≤ 140737488355328 by omega, aH]
      refine aIc 19 _ _ ?_ (by rw [ByteArray.size_append, hz, he]; omega)
      have e : ∀ x : Int, IntKind.i64.wrap x < 10 ^ 19 := fun x => by
        have e : IntKind.i64.wrap x = if x % 18446744073709551616 ≥ 9223372036854775808 then x % 18446744073709551616 - 18446744073709551616 else x % 18446744073709551616 := by
          simp [IntKind.wrap, IntKind.signed, IntKind.bits]
        rw [e]
        split <;> omega
      exact e _
  obtain ⟨s, hs⟩ := key
  exact ⟨s, aQ hs⟩
noncomputable def mtx (k : Int) : ByteArray := Classical.choose (aL5 k)
theorem aIA (k : Int) : Dn F.aYs [aK k] [] = some (.leaf (.str (mtx k)), []) := Classical.choose_spec (aL5 k)
end Go.Vs
end
section
open Go Go.Vs Go.Proofs
set_option linter.unusedVariables false
set_option linter.unusedSimpArgs false
namespace Go.Vs
theorem gD (k : Int) : Dd F.aYs [.leaf (.int .i64 k)] [] = some (.leaf (.str (mtx k)), []) :=
  aAo rfl (aIA k) rfl rfl rfl
theorem aFz {es : List (List (aF false))} (hl : es.length ≤ maxLen) (hq : ∀ e ∈ es, lZ e) : ∀ i : Nat, i ≤ es.length → ∀ k : Int,
    fG Dd (oR jL (soE es) k i) = some (.leaf (.int .i64 (mkE (es.drop i) k)), []) := by
  have hC : (soE es).length = es.length := qX es
  refine cU ?_ ?_
  · intro k; rw [wG]; simp [hC, mkE]
  · intro i hi ih k
    obtain ⟨s, he, hs⟩ := (hq _ (List.getElem_mem hi))
    rw [wG, lN hi]
    simp only [Int.ofNat_lt, hi, hC, decide_true, aD, Int.natCast_nonneg, Bool.and_true, Int.toNat_natCast, aH, aX (Nat.lt_of_lt_of_le hi hl), aP (aBj fun e he => (hq e he).len), xR hi, gD, Option.bind_some, bV, cJ]
    rw [he]
    simp only [soL, soF, cY, dD, fE, fL, List.getElem?_cons_zero, List.getElem?_cons_succ, oK, St.eval, List.getD_cons_zero, List.getD_cons_succ, SV.plain, aEk, aEP, aEL, and_self, ite_true, if_true, aBn, true_and, and_true, gD, Option.bind_some, bV, cJ, cQ, ih]
    simp only [mkE, mkL, mkF]
theorem qY {es : List (List (aF false))} (hl : es.length ≤ maxLen) (hq : ∀ e ∈ es, lZ e) (k : Int) : Dd F.aXQ [.leaf (.sl jL (soE es)), .leaf (.int .i64 k)] [] = some (.leaf (.int .i64 (mkE es k)), []) := by
  apply oD rfl
  rw [aD0]
  have := aFz hl hq 0 (Nat.zero_le _) k
  simpa using this
def aPX (ls : List (aF false)) : Prop := ∀ (i0 : Int) (s1 : ByteArray) (e2 : List (List (aF false))) (e3 : List (List (aF false))), ls = [.int .i64 i0, .str s1, .sl fP e2, .sl fP e3] → (∀ k : Int, Dd F.aX1 [.leaf (.sl jL (soE e2)), .leaf (.int .i64 k)] [] = some (.leaf (.int .i64 (mkE e2 k)), []))
theorem aFY {es : List (List (aF false))} (hl : es.length ≤ maxLen) (hq : ∀ e ∈ es, dB e) (hd : ∀ e ∈ es, aPX e) : ∀ i : Nat, i ≤ es.length → ∀ k : Int,
    gB Dd (pK jL (soE es) k i) = some (.leaf (.int .i64 (mkE (es.drop i) k)), []) := by
  have hC : (soE es).length = es.length := qX es
  refine cU ?_ ?_
  · intro k; rw [yL]; simp [hC, mkE]
  · intro i hi ih k
    have hci := hd _ (List.getElem_mem hi)
    obtain ⟨i0, s1, e2, e3, he, h1, h2, q2, h3, q3⟩ := (hq _ (List.getElem_mem hi)).ex
    rw [yL, lN hi]
    simp only [Int.ofNat_lt, hi, hC, decide_true, aD, Int.natCast_nonneg, Bool.and_true, Int.toNat_natCast, aH, aX (Nat.lt_of_lt_of_le hi hl), aP (aBj fun e he => (hq e he).len), xR hi, gD, Option.bind_some, bV, cJ]
    rw [he]
    have c2 := hci i0 s1 e2 e3 he
    have c3 := qY h3 q3
    simp only [soL, soF, cY, dD, fE, fL, List.getElem?_cons_zero, List.getElem?_cons_succ, oK, St.eval, List.getD_cons_zero, List.getD_cons_succ, SV.plain, aEk, aEP, aEL, and_self, ite_true, if_true, aBn, true_and, and_true, c2, c3, gD, Option.bind_some, bV, cJ, cQ, ih]
    simp only [mkE, mkL, mkF]
theorem aAE {es : List (List (aF false))} (hl : es.length ≤ maxLen) (hq : ∀ e ∈ es, dB e) (hd : ∀ e ∈ es, aPX e) (k : Int) : Dd F.aX1 [.leaf (.sl jL (soE es)), .leaf (.int .i64 k)] [] = some (.leaf (.int .i64 (mkE es k)), []) := by
  apply oD rfl
  rw [aFA]
  have := aFY hl hq hd 0 (Nat.zero_le _) k
  simpa using this
theorem aVd {ls : List (aF false)} (h : dB ls) : aPX ls := by
  induction h with
  | mk i0 s1 e2 e3 h1 h2 q2 h3 q3 ih2 =>
    intro y0 y1 y2 y3 heq
    simp only [List.cons.injEq, aF.int.injEq, aF.str.injEq, aF.sl.injEq, and_true, true_and] at heq
    obtain ⟨rfl, rfl, rfl, rfl⟩ := heq
    exact aAE h2 q2 ih2
theorem aCK {es : List (List (aF false))} (hl : es.length ≤ maxLen) (hq : ∀ e ∈ es, dB e) (k : Int) : Dd F.aX1 [.leaf (.sl jL (soE es)), .leaf (.int .i64 k)] [] = some (.leaf (.int .i64 (mkE es k)), []) := aAE hl hq (fun e he => aVd (hq e he)) k
theorem aIF {es : List (List (aF false))} (hl : es.length ≤ maxLen) (hq : ∀ e ∈ es, lM e) : ∀ i : Nat, i ≤ es.length → ∀ k : Int,
    iU Dd (rW jL (soE es) k i) = some (.leaf (.int .i64 (mkE (es.drop i) k)), []) := by
  have hC : (soE es).length = es.length := qX es
  refine cU ?_ ?_
  · intro k; rw [aAS]; simp [hC, mkE]
  · intro i hi ih k
    obtain ⟨s0, i1, s2, e3, e4, he, h0, h2, h3, q3, h4, q4⟩ := (hq _ (List.getElem_mem hi)).ex
    rw [aAS, lN hi]
    simp only [Int.ofNat_lt, hi, hC, decide_true, aD, Int.natCast_nonneg, Bool.and_true, Int.toNat_natCast, aH, aX (Nat.lt_of_lt_of_le hi hl), aP (aBj fun e he => (hq e he).len), xR hi, gD, Option.bind_some, bV, cJ]
    rw [he]
    have c3 := aCK h3 q3
    have c4 := qY h4 q4
    simp only [soL, soF, cY, dD, fE, fL, List.getElem?_cons_zero, List.getElem?_cons_succ, oK, St.eval, List.getD_cons_zero, List.getD_cons_succ, SV.plain, aEk, aEP, aEL, and_self, ite_true, if_true, aBn, true_and, and_true, c3, c4, gD, Option.bind_some, bV, cJ, cQ, ih]
    simp only [mkE, mkL, mkF]
theorem aMT {es : List (List (aF false))} (hl : es.length ≤ maxLen) (hq : ∀ e ∈ es, lM e) (k : Int) : Dd F.aYu [.leaf (.sl jL (soE es)), .leaf (.int .i64 k)] [] = some (.leaf (.int .i64 (mkE es k)), []) := by
  apply oD rfl
  rw [aHC]
  have := aIF hl hq 0 (Nat.zero_le _) k
  simpa using this
theorem aIH {es : List (List (aF false))} (hl : es.length ≤ maxLen) (hq : ∀ e ∈ es, hQ e) : ∀ i : Nat, i ≤ es.length → ∀ k : Int,
    iO Dd (rY jL (soE es) k i) = some (.leaf (.int .i64 (mkE (es.drop i) k)), []) := by
  have hC : (soE es).length = es.length := qX es
  refine cU ?_ ?_
  · intro k; rw [aAH]; simp [hC, mkE]
  · intro i hi ih k
    obtain ⟨s0, e1, he, h0, h1, q1⟩ := (hq _ (List.getElem_mem hi)).ex
    rw [aAH, lN hi]
    simp only [Int.ofNat_lt, hi, hC, decide_true, aD, Int.natCast_nonneg, Bool.and_true, Int.toNat_natCast, aH, aX (Nat.lt_of_lt_of_le hi hl), aP (aBj fun e he => (hq e he).len), xR hi, gD, Option.bind_some, bV, cJ]
    rw [he]
    have c1 := aMT h1 q1
    simp only [soL, soF, cY, dD, fE, fL, List.getElem?_cons_zero, List.getElem?_cons_succ, oK, St.eval, List.getD_cons_zero, List.getD_cons_succ, SV.plain, aEk, aEP, aEL, and_self, ite_true, if_true, aBn, true_and, and_true, c1, gD, Option.bind_some, bV, cJ, cQ, ih]
    simp only [mkE, mkL, mkF]
theorem vW {es : List (List (aF false))} (hl : es.length ≤ maxLen) (hq : ∀ e ∈ es, hQ e) (k : Int) : Dd F.aYx [.leaf (.sl jL (soE es)), .leaf (.int .i64 k)] [] = some (.leaf (.int .i64 (mkE es k)), []) := by
  apply oD rfl
  rw [aHD]
  have := aIH hl hq 0 (Nat.zero_le _) k
  simpa using this
theorem aGn {es : List (List (aF false))} (hl : es.length ≤ maxLen) (hq : ∀ e ∈ es, dF e) : ∀ i : Nat, i ≤ es.length → ∀ k : Int,
    fZ Dd (pS jL (soE es) k i) = some (.leaf (.int .i64 (mkE (es.drop i) k)), []) := by
  have hC : (soE es).length = es.length := qX es
  refine cU ?_ ?_
  · intro k; rw [xY]; simp [hC, mkE]
  · intro i hi ih k
    obtain ⟨s0, s1, s2, s3, b4, i5, s6, e7, e8, e9, he, h0, h1, h2, h3, h6, h7, q7, h8, q8, h9, q9⟩ := (hq _ (List.getElem_mem hi)).ex
    rw [xY, lN hi]
    simp only [Int.ofNat_lt, hi, hC, decide_true, aD, Int.natCast_nonneg, Bool.and_true, Int.toNat_natCast, aH, aX (Nat.lt_of_lt_of_le hi hl), aP (aBj fun e he => (hq e he).len), xR hi, gD, Option.bind_some, bV, cJ]
    rw [he]
    have c7 := aCK h7 q7
    have c8 := qY h8 q8
    have c9 := vW h9 q9
    simp only [soL, soF, cY, dD, fE, fL, List.getElem?_cons_zero, List.getElem?_cons_succ, oK, St.eval, List.getD_cons_zero, List.getD_cons_succ, SV.plain, aEk, aEP, aEL, and_self, ite_true, if_true, aBn, true_and, and_true, c7, c8, c9, gD, Option.bind_some, bV, cJ, cQ, ih]
    simp only [mkE, mkL, mkF]
theorem aCk {es : List (List (aF false))} (hl : es.length ≤ maxLen) (hq : ∀ e ∈ es, dF e) (k : Int) : Dd F.aXU [.leaf (.sl jL (soE es)), .leaf (.int .i64 k)] [] = some (.leaf (.int .i64 (mkE es k)), []) := by
  apply oD rfl
  rw [aFG]
  have := aGn hl hq 0 (Nat.zero_le _) k
  simpa using this
theorem aDv {es : List (List (aF false))} (hl : es.length ≤ maxLen) (hq : ∀ e ∈ es, cK e) : ∀ i : Nat, i ≤ es.length → ∀ k : Int,
    eQ Dd (mH jL (soE es) k i) = some (.leaf (.int .i64 (mkE (es.drop i) k)), []) := by
  have hC : (soE es).length = es.length := qX es
  refine cU ?_ ?_
  · intro k; rw [tU]; simp [hC, mkE]
  · intro i hi ih k
    obtain ⟨s0, s1, e2, s3, s4, e5, he, h0, h1, h2, q2, h3, h4, h5, q5⟩ := (hq _ (List.getElem_mem hi)).ex
    rw [tU, lN hi]
    simp only [Int.ofNat_lt, hi, hC, decide_true, aD, Int.natCast_nonneg, Bool.and_true, Int.toNat_natCast, aH, aX (Nat.lt_of_lt_of_le hi hl), aP (aBj fun e he => (hq e he).len), xR hi, gD, Option.bind_some, bV, cJ]
    rw [he]
    have c2 := aCk h2 q2
    have c5 := vW h5 q5
    simp only [soL, soF, cY, dD, fE, fL, List.getElem?_cons_zero, List.getElem?_cons_succ, oK, St.eval, List.getD_cons_zero, List.getD_cons_succ, SV.plain, aEk, aEP, aEL, and_self, ite_true, if_true, aBn, true_and, and_true, c2, c5, gD, Option.bind_some, bV, cJ, cQ, ih]
    simp only [mkE, mkL, mkF]
theorem aFU {es : List (List (aF false))} (hl : es.length ≤ maxLen) (hq : ∀ e ∈ es, cK e) (k : Int) : Dd F.aXB [.leaf (.sl jL (soE es)), .leaf (.int .i64 k)] [] = some (.leaf (.int .i64 (mkE es k)), []) := by
  apply oD rfl
  rw [aCN]
  have := aDv hl hq 0 (Nat.zero_le _) k
  simpa using this
theorem aEi {es : List (List (aF false))} (hl : es.length ≤ maxLen) (hq : ∀ e ∈ es, cZ e) : ∀ i : Nat, i ≤ es.length → ∀ k : Int,
    fA Dd (nO jL (soE es) k i) = some (.leaf (.int .i64 (mkE (es.drop i) k)), []) := by
  have hC : (soE es).length = es.length := qX es
  refine cU ?_ ?_
  · intro k; rw [uZ]; simp [hC, mkE]
  · intro i hi ih k
    obtain ⟨s0, s1, e2, he, h0, h1, h2, q2⟩ := (hq _ (List.getElem_mem hi)).ex
    rw [uZ, lN hi]
    simp only [Int.ofNat_lt, hi, hC, decide_true, aD, Int.natCast_nonneg, Bool.and_true, Int.toNat_natCast, aH, aX (Nat.lt_of_lt_of_le hi hl), aP (aBj fun e he => (hq e he).len), xR hi, gD, Option.bind_some, bV, cJ]
    rw [he]
    have c2 := vW h2 q2
    simp only [soL, soF, cY, dD, fE, fL, List.getElem?_cons_zero, List.getElem?_cons_succ, oK, St.eval, List.getD_cons_zero, List.getD_cons_succ, SV.plain, aEk, aEP, aEL, and_self, ite_true, if_true, aBn, true_and, and_true, c2, gD, Option.bind_some, bV, cJ, cQ, ih]
    simp only [mkE, mkL, mkF]
theorem aHs {es : List (List (aF false))} (hl : es.length ≤ maxLen) (hq : ∀ e ∈ es, cZ e) (k : Int) : Dd F.aXC [.leaf (.sl jL (soE es)), .leaf (.int .i64 k)] [] = some (.leaf (.int .i64 (mkE es k)), []) := by
  apply oD rfl
  rw [aDb]
  have := aEi hl hq 0 (Nat.zero_le _) k
  simpa using this
theorem aHr {es : List (List (aF false))} (hl : es.length ≤ maxLen) (hq : ∀ e ∈ es, eV e) : ∀ i : Nat, i ≤ es.length → ∀ k : Int,
    gM Dd (qU jL (soE es) k i) = some (.leaf (.int .i64 (mkE (es.drop i) k)), []) := by
  have hC : (soE es).length = es.length := qX es
  refine cU ?_ ?_
  · intro k; rw [zE]; simp [hC, mkE]
  · intro i hi ih k
    obtain ⟨i0, s1, he, h1⟩ := (hq _ (List.getElem_mem hi)).ex
    rw [zE, lN hi]
    simp only [Int.ofNat_lt, hi, hC, decide_true, aD, Int.natCast_nonneg, Bool.and_true, Int.toNat_natCast, aH, aX (Nat.lt_of_lt_of_le hi hl), aP (aBj fun e he => (hq e he).len), xR hi, gD, Option.bind_some, bV, cJ]
    rw [he]
    simp only [soL, soF, cY, dD, fE, fL, List.getElem?_cons_zero, List.getElem?_cons_succ, oK, St.eval, List.getD_cons_zero, List.getD_cons_succ, SV.plain, aEk, aEP, aEL, and_self, ite_true, if_true, aBn, true_and, and_true, gD, Option.bind_some, bV, cJ, cQ, ih]
    simp only [mkE, mkL, mkF]
theorem aDm {es : List (List (aF false))} (hl : es.length ≤ maxLen) (hq : ∀ e ∈ es, eV e) (k : Int) : Dd F.aYb [.leaf (.sl jL (soE es)), .leaf (.int .i64 k)] [] = some (.leaf (.int .i64 (mkE es k)), []) := by
  apply oD rfl
  rw [aFP]
  have := aHr hl hq 0 (Nat.zero_le _) k
  simpa using this
theorem aIp {es : List (List (aF false))} (hl : es.length ≤ maxLen) (hq : ∀ e ∈ es, eA e) : ∀ i : Nat, i ≤ es.length → ∀ k : Int,
    iQ Dd (sB jL (soE es) k i) = some (.leaf (.int .i64 (mkE (es.drop i) k)), []) := by
  have hC : (soE es).length = es.length := qX es
  refine cU ?_ ?_
  · intro k; rw [aAD]; simp [hC, mkE]
  · intro i hi ih k
    obtain ⟨i0, b1, s2, s3, e4, e5, e6, e7, e8, b9, e10, he, h2, h3, h4, q4, h5, q5, h6, q6, h7, q7, h8, q8, h10, q10⟩ := (hq _ (List.getElem_mem hi)).ex
    rw [aAD, lN hi]
    simp only [Int.ofNat_lt, hi, hC, decide_true, aD, Int.natCast_nonneg, Bool.and_true, Int.toNat_natCast, aH, aX (Nat.lt_of_lt_of_le hi hl), aP (aBj fun e he => (hq e he).len), xR hi, gD, Option.bind_some, bV, cJ]
    rw [he]
    have c4 := qY h4 q4
    have c5 := aFU h5 q5
    have c6 := aCk h6 q6
    have c7 := aHs h7 q7
    have c8 := aDm h8 q8
    have c10 := vW h10 q10
    simp only [soL, soF, cY, dD, fE, fL, List.getElem?_cons_zero, List.getElem?_cons_succ, oK, St.eval, List.getD_cons_zero, List.getD_cons_succ, SV.plain, aEk, aEP, aEL, and_self, ite_true, if_true, aBn, true_and, and_true, c4, c5, c6, c7, c8, c10, gD, Option.bind_some, bV, cJ, cQ, ih]
    simp only [mkE, mkL, mkF]
theorem aE0 {es : List (List (aF false))} (hl : es.length ≤ maxLen) (hq : ∀ e ∈ es, eA e) (k : Int) : Dd F.aYH [.leaf (.sl jL (soE es)), .leaf (.int .i64 k)] [] = some (.leaf (.int .i64 (mkE es k)), []) := by
  apply oD rfl
  rw [aHA]
  have := aIp hl hq 0 (Nat.zero_le _) k
  simpa using this
theorem aJU {ls : List (aF false)} (h : bL ls) (k : Int) : Dd F.aX0 [.agg (saL ls), .leaf (.int .i64 k)] [] = some (.leaf (.int .i64 (msL ls k)), []) := by
  cases h with
  | mk e0 e1 e2 h0 q0 h1 q1 h2 q2 =>
    apply oD rfl
    simp only [saL, saF]
    rw [aFC]
    simp only [aE0 h0 q0, aE0 h1 q1, aDm h2 q2, Option.bind_some, bV, cQ, msL]
end Go.Vs
end
section
open Go Go.Vs Go.Proofs
set_option linter.unusedVariables false
set_option linter.unusedSimpArgs false
namespace Go.Vs
noncomputable def zP (k : Int) : List (aF false) := [.int .i64 (k), .str (mtx (IntKind.i64.wrap (k + 1))), .str (mtx (IntKind.i64.wrap (IntKind.i64.wrap (k + 1) + 1)))]
def oU (k : Int) : Int := IntKind.i64.wrap (IntKind.i64.wrap (IntKind.i64.wrap (k + 1) + 1) + 1)
noncomputable def dS : Nat → Int → List (List (aF false))
  | 0, _ => []
  | n + 1, k => zP k :: dS n (oU k)
def gC : Nat → Int → Int
  | 0, k => k
  | n + 1, k => gC n (oU k)
theorem aAW : ∀ (n : Nat) (k : Int), gC (n + 1) k = oU (gC n k)
  | 0, _ => rfl
  | n + 1, k => aAW n (oU k)
theorem wX : ∀ (n : Nat) (k : Int), (dS n k).length = n
  | 0, _ => rfl
  | n + 1, k => by rw [dS, List.length_cons, wX n]
theorem aBZ : ∀ (n : Nat) (k : Int), ∀ e ∈ dS n k, e.length = 3
  | 0, _, e, h => by simp [dS] at h
  | n + 1, k, e, h => by
    rcases List.mem_cons.1 h with rfl | h
    · rfl
    · exact aBZ n _ e h
theorem aBW : ∀ (n : Nat) (k : Int) (i : Nat) (h : i < (dS n k).length), (dS n k)[i] = zP (gC i k)
  | 0, _, i, h => by simp [dS] at h
  | n + 1, k, 0, h => rfl
  | n + 1, k, i + 1, h => aBW n (oU k) i (by simpa [dS] using h)
theorem aD7 {n : Nat} {k : Int} (hl : n ≤ maxLen) : ∀ i : Nat, i ≤ n → ∀ z : List (SV false), z.all SV.flat = true → (n - i) * 3 ≤ z.length →
    eS Dn (mG n (gC i k) i (hU (dS n k) i z)) = some (aK (gC n k), [hU (dS n k) n (z.drop ((n - i) * 3))]) := by
  have hN := wX n k
  have hall := aBZ n k
  refine cU ?_ ?_
  · intro z hz hzl
    rw [tW]
    have hf := aIk (l := dS n k) (i := n) hz
    simp [hf]
  · intro i hi ih z hz hzl
    have hlen := hY (z := z) hall (i := i) (by omega)
    have hp := rH (z := z) hall (i := i) (by omega)
    rw [aBW] at hp
    simp only [zP, List.map_cons, List.map_nil] at hp
    have hd : (n - i) * 3 = (n - (i + 1)) * 3 + 3 := by rw [← Nat.succ_mul]; congr 1; omega
    rw [tW]
    simp only [Int.ofNat_lt, hi, decide_true, aD, Int.natCast_nonneg, Bool.and_true, aH, aX (Nat.lt_of_lt_of_le hi hl), List.getElem_toArray, List.getElem_cons_zero, List.getElem_cons_succ, Nat.zero_add, Nat.add_zero, Int.toNat_natCast, aIA, Option.bind_some, bV, cJ]
    have b0 : i * 3 + 1 ≤ (hU (dS n k) i z).length := by rw [hlen]; omega
    simp only [b0, decide_true, aH]
    have b1 : ∀ l : List (SV false), l.length = 1 → i * 3 + 1 + 1 ≤ (mC (hU (dS n k) i z) (i * 3) l).length := fun l hl0 => by rw [aKu (by rw [hl0, hlen]; omega), hlen]; omega
    have j1 : ∀ (l : List (SV false)) (x : SV false), l.length = 1 → mC (mC (hU (dS n k) i z) (i * 3) l) (i * 3 + 1) [x] = mC (hU (dS n k) i z) (i * 3) (l ++ [x]) := fun l x hl0 => aO3 (by rw [hl0]) (by rw [hl0, hlen]; simp; omega)
    have b2 : ∀ l : List (SV false), l.length = 2 → i * 3 + 2 + 1 ≤ (mC (hU (dS n k) i z) (i * 3) l).length := fun l hl0 => by rw [aKu (by rw [hl0, hlen]; omega), hlen]; omega
    have j2 : ∀ (l : List (SV false)) (x : SV false), l.length = 2 → mC (mC (hU (dS n k) i z) (i * 3) l) (i * 3 + 2) [x] = mC (hU (dS n k) i z) (i * 3) (l ++ [x]) := fun l x hl0 => aO3 (by rw [hl0]) (by rw [hl0, hlen]; simp; omega)
    rw [decide_eq_true (b1 _ rfl), aH, j1 _ _ rfl]
    simp only [List.cons_append, List.nil_append]
    rw [decide_eq_true (b2 _ rfl), aH, j2 _ _ rfl]
    simp only [List.cons_append, List.nil_append]
    rw [hp]
    have hz2 : (z.drop 3).all SV.flat = true := List.all_eq_true.2 fun x hx => List.all_eq_true.1 hz x (List.mem_of_mem_drop hx)
    have := ih (z.drop 3) hz2 (by rw [List.length_drop]; omega)
    rw [aAW] at this
    simp only [oU] at this
    rw [this, List.drop_drop, hd, Nat.add_comm 3]
theorem aFH {n : Nat} {k : Int} (hl : n ≤ maxLen) {z : List (SV false)} (hz : z.all SV.flat = true) (hzl : n * 3 ≤ z.length) :
    Dn F.aXG [.bsl 0 3 0 n, aK k] [z] = some (aK (gC n k), [hU (dS n k) n (z.drop (n * 3))]) := by
  refine aQ ?_
  rw [aC2]
  have := aD7 (n := n) (k := k) hl 0 (Nat.zero_le _) z hz (by simpa using hzl)
  simpa [hU, gC] using this
theorem aEs {n : Nat} {k : Int} (hl : n ≤ maxLen) {z : List (SV false)} (hz : z.all SV.flat = true) : ∀ i : Nat, i ≤ n →
    eO Dn (mL n (gC i k) i (hU (dS n k) n z)) = some (aK (gC n k), [hU (dS n k) n z]) := by
  have hN := wX n k
  have hall := aBZ n k
  have hf := aIk (l := dS n k) (i := n) hz
  refine cU ?_ ?_
  · rw [tV]
    simp [hf]
  · intro i hi ih
    have hi' : i < (dS n k).length := by omega
    rw [aAW] at ih
    simp only [oU] at ih
    rw [tV]
    simp only [Int.ofNat_lt, hi, decide_true, aD, Int.natCast_nonneg, Bool.and_true, aH, aX (Nat.lt_of_lt_of_le hi hl), List.getElem_toArray, List.getElem_cons_zero, List.getElem_cons_succ, Nat.zero_add, Nat.add_zero, Int.toNat_natCast, aIA, Option.bind_some, bV, cJ]
    have get : ∀ (o p : Nat) (ho : o < 3) (hp : p = i * 3 + o) (kk : SV false → Res), aI5 (hU (dS n k) n z) p kk = kk (.leaf ((zP (gC i k))[o]'ho)) := fun o p ho hp kk => by
      have := aUC (r := z) hall hi' ho hp kk
      rw [hN] at this
      rw [this]
      simp only [aBW]
      try rfl
    rw [get 0 _ (by omega) (by omega)]
    simp only [zP, List.getElem_cons_zero, List.getElem_cons_succ, SV.drop, bV, cQ, cJ, bne_self_eq_false, beq_self_eq_true, Bool.not_true, aC]
    rw [get 1 _ (by omega) (by omega)]
    simp only [zP, List.getElem_cons_zero, List.getElem_cons_succ, SV.drop, bV, cQ, cJ, bne_self_eq_false, beq_self_eq_true, Bool.not_true, aC]
    rw [get 2 _ (by omega) (by omega)]
    simp only [zP, List.getElem_cons_zero, List.getElem_cons_succ, SV.drop, bV, cQ, cJ, bne_self_eq_false, beq_self_eq_true, Bool.not_true, aC]
    exact ih
theorem aFB {n : Nat} {k : Int} (hl : n ≤ maxLen) {z : List (SV false)} (hz : z.all SV.flat = true) :
    Dn F.aXM [.bsl 0 3 0 n, aK k] [hU (dS n k) n z] = some (aK (gC n k), [hU (dS n k) n z]) := by
  refine aQ ?_
  rw [aCT]
  have := aEs (n := n) (k := k) hl hz 0 (Nat.zero_le _)
  simpa [gC] using this
theorem aDA (k : Int) : Dn F.aXG [vsl [], aK k] [] = some (aK k, []) := by
  refine aQ ?_
  rw [aFs, aEq]
  simp
theorem aDx (k : Int) : Dn F.aXM [vsl [], aK k] [] = some (aK k, []) := by
  refine aQ ?_
  rw [aFu, aEg]
  simp
end Go.Vs
end
section
namespace Go.Vs
mutual
theorem aUK (c : Fl true) : ∀ l : aF false, reF er (reF (fl c) l) = l
  | .sl _ es => by rw [reF, reF, aQk c es]; cases ‹Fl false›; rfl
  | .bool _ | .int _ _ | .str _ | .unk | .nl _ => by simp [reF]
theorem aPZ (c : Fl true) : ∀ l : List (aF false), reL er (reL (fl c) l) = l
  | [] => by rw [reL, reL]
  | l :: r => by rw [reL, reL, aUK c l, aPZ c r]
theorem aQk (c : Fl true) : ∀ l : List (List (aF false)), reE er (reE (fl c) l) = l
  | [] => by rw [reE, reE]
  | l :: r => by rw [reE, reE, aPZ c l, aQk c r]
end
theorem aVZ {m m' : Bool} {φ : Fl m → Fl m'} (a b : List (List (aF m))) : reE φ (a ++ b) = reE φ a ++ reE φ b := by rw [yP, yP, yP, List.map_append]
theorem aU3 (c : Fl true) (es : List (List (aF false))) : reS er (.leaf (.sl c (reE (fl c) es))) = vsl es := by
  simp only [reS, reF, aQk]
theorem aJr (c : Fl true) (ls : List (aF false)) : reS er (.agg (reL (fl c) ls)) = .agg ls := by
  simp only [reS, aPZ]
end Go.Vs
end
section
open Go Go.Vs Go.Proofs
set_option linter.unusedVariables false
set_option linter.unusedSimpArgs false
set_option maxRecDepth 100000
namespace Go.Vs
theorem aUV {N : Env} {ev0 ev1 : Value} (hN : N.K = KOf ev0 ev1) (hE : zB ev0 ∧ zB ev1) : nW Tryz.prog N Dn := aKL hP hG (aSd hN hE.1 hE.2) Hs
theorem aBE {N : Env} {ev0 ev1 : Value} (hN : N.K = KOf ev0 ev1) (hE : zB ev0 ∧ zB ev1) : nW Tryz.prog N Dd := aKL hP hG (aQN (aUV hN hE) aDY) Hs
section
variable {c : Fl true}
theorem aTe {x : SV false} (h : x.flat = true) : reS er (reS li x) = x := by
  have e : ∀ es : List (List (aF false)), reE er (reE li es) = es := fun es => aQk eT es
  cases x <;> simp [SV.flat] at h <;> simp only [reS]
  · rw [show reF er (reF li _) = _ from aUK eT _]
  · rw [e]
  · rw [show reL er (reL li _) = _ from aPZ eT _]
theorem aO9 : ∀ {l : List (SV false)}, l.all SV.flat = true → (l.map (reS li)).map (reS er) = l
  | [], _ => rfl
  | x :: l, h => by
    rw [List.all_cons, Bool.and_eq_true] at h
    rw [List.map_cons, List.map_cons, aTe h.1, aO9 h.2]
theorem aUv {l : List (SV false)} (h : l.all SV.flat = true) : (l.map (reS li)).all SV.flat = true := by
  rw [List.all_map]
  exact List.all_eq_true.2 fun x hx => aJE x (List.all_eq_true.1 h x hx)
noncomputable def aN1 (n k : Nat) : List (SV false) := hU (dS n 1) n ((List.replicate k SV.any).drop (n * 3))
theorem aNI (k : Nat) : (List.replicate k (SV.any (m := false))).all SV.flat = true := by
  rw [List.all_eq_true]; intro x hx; rw [List.eq_of_mem_replicate hx]; rfl
theorem aOV {l : List (SV false)} (h : l.all SV.flat = true) (n : Nat) : (l.drop n).all SV.flat = true :=
  List.all_eq_true.2 fun x hx => List.all_eq_true.1 h x (List.mem_of_mem_drop hx)
theorem aL1 (n k : Nat) : (aN1 n k).all SV.flat = true := aIk (aOV (aNI k) _)
theorem aLJ {n k : Nat} (hl : n ≤ maxLen) (hk : n * 3 ≤ k) : Dd F.aXG [.bsl 0 3 0 n, .leaf (.int .i64 1)] [List.replicate k .any] = some (.leaf (.int .i64 (gC n 1)), [(aN1 n k).map (reS li)]) :=
  aAo rfl (aFH (k := 1) hl (aNI k) (by rw [List.length_replicate]; exact hk)) rfl (by rw [List.map_cons, List.map_replicate]; rfl) rfl
theorem aKN {n k : Nat} (hl : n ≤ maxLen) : Dd F.aXM [.bsl 0 3 0 n, .leaf (.int .i64 1)] [(aN1 n k).map (reS li)] = some (.leaf (.int .i64 (gC n 1)), [(aN1 n k).map (reS li)]) :=
  aAo rfl (aFB (k := 1) hl (aOV (aNI k) _)) rfl (by rw [List.map_cons, aO9 (aL1 n k)]; rfl) rfl
theorem aH7 : ∀ (n : Nat) (k : Int), 0 ≤ k → k + 3 * n ≤ cap → 0 ≤ gC n k
  | 0, k, h, _ => h
  | n + 1, k, h, hc => by
    rw [gC]
    have e : oU k = k + 3 := by
      unfold oU
      simp only [cap] at hc
      rw [rM (z := k + 1) (by omega) (by omega), rM (z := k + 1 + 1) (by omega) (by omega), rM (z := k + 1 + 1 + 1) (by omega) (by omega)]; omega
    rw [e]
    exact aH7 n _ (by omega) (by omega)
end
end Go.Vs
end
section
open Go Go.Vs Go.Proofs
set_option linter.unusedVariables false
set_option linter.unusedSimpArgs false
set_option maxRecDepth 100000
namespace Go.Vs
noncomputable abbrev body : Code := oZ Tryz.prog F.aXq
theorem hc0 : (uF Tryz.prog F.aXq).body = some body := by kernel_rfl
theorem hfn : Tryz.prog.funcs[F.aXq]? = some (uF Tryz.prog F.aXq) := by kernel_rfl
theorem spA : lL (0 + (4 + 1)) body = true := by kernel_rfl
theorem spB : lL (5 + (0 + 1)) body = true := by kernel_rfl
theorem spC : lL (6 + (2 + 1)) body = true := by kernel_rfl
theorem spD : lL (9 + (2 + 1)) body = true := by kernel_rfl
theorem nlD : zF (sub body (way 12)) = true := by kernel_rfl
structure aQD (x0_0 : List (List (aF false))) (x0_1 : List (List (aF false))) (x0_2 : List (List (aF false))) (w : List (List (aF false))) : Prop where
  wl : w.length ≤ maxLen
  wc : (w.length : Int) * 3 + 1 ≤ cap
  wq : ∀ e ∈ w, dP e
  spc : ∀ c0 : Fl true, Dd F.aXw [.agg [.sl c0 (reE (fl c0) x0_0), .sl c0 (reE (fl c0) x0_1), .sl c0 (reE (fl c0) x0_2)]] [] = some (.own (some T.aY2) (reE (fl eT) w), [])
  imp : ∀ c0 : Fl true, Dd F.aXx [.agg [.sl c0 (reE (fl c0) x0_0), .sl c0 (reE (fl c0) x0_1), .sl c0 (reE (fl c0) x0_2)]] [] = some (.own (some T.aY2) (reE (fl bA) w), [])
  mn : ¬ msL [.sl fP x0_0, .sl fP x0_1, .sl fP x0_2] (1) < 0
  to0 : ∀ c : Fl true, Dd F.aYE [.agg [.sl c (reE (fl c) x0_0), .sl c (reE (fl c) x0_1), .sl c (reE (fl c) x0_2)]] [] = some (.agg [.sl bA (reE (fl bA) x0_0), .sl bA (reE (fl bA) x0_1), .sl bA (reE (fl bA) x0_2)], [])
  eq0 : ∀ c c' : Fl true, Dd F.aYD [.agg [.sl c (reE (fl c) x0_0), .sl c (reE (fl c) x0_1), .sl c (reE (fl c) x0_2)], .agg [.sl c' (reE (fl c') x0_0), .sl c' (reE (fl c') x0_1), .sl c' (reE (fl c') x0_2)]] [] = some (.leaf (.bool true), [])
  mk0 : ∀ k : Int, Dd F.aX0 [.agg [.sl jL (soE x0_0), .sl jL (soE x0_1), .sl jL (soE x0_2)], .leaf (.int .i64 k)] [] = some (.leaf (.int .i64 (msL [.sl fP x0_0, .sl fP x0_1, .sl fP x0_2] (k))), [])
section
variable {ev0 ev1 : Value} {x0_0 : List (List (aF false))} {x0_1 : List (List (aF false))} {x0_2 : List (List (aF false))} {w : List (List (aF false))}
theorem aQD.eqw (h : aQD x0_0 x0_1 x0_2 w) (c c' : Fl true) : Dd F.aX3 [.leaf (.sl c (reE (fl c) w)), .leaf (.sl c' (reE (fl c') w))] [] = some (.leaf (.bool true), []) :=
  aAo rfl (aJ5 h.wl h.wq) (by rw [List.map_cons, List.map_cons, aU3, aU3]; rfl) rfl rfl
theorem aUA : Vs.turn φ1 (fun _ => false) [] ({ tmps := (((dZ tQ eT (reE (fl eT) x0_0) eT (reE (fl eT) x0_1) eT (reE (fl eT) x0_2) eT (reE (fl eT) w)).tmps.set 1 (.ptr 1 0)).set 4 (.own (some T.aY2) (reE (fl eT) w))), boxes := ((dZ tQ eT (reE (fl eT) x0_0) eT (reE (fl eT) x0_1) eT (reE (fl eT) x0_2) eT (reE (fl eT) w)).boxes.set 1 (some [.leaf (.sl eT (reE (fl eT) x0_0)), .leaf (.sl eT (reE (fl eT) x0_1)), .leaf (.sl eT (reE (fl eT) x0_2))])) } : St true) = dZ tQ (φ1 eT) (tuE φ1 (fun _ => false) false (reE (fl eT) x0_0)) (φ1 eT) (tuE φ1 (fun _ => false) false (reE (fl eT) x0_1)) (φ1 eT) (tuE φ1 (fun _ => false) false (reE (fl eT) x0_2)) (φ1 bA) (tuE φ1 (fun _ => false) false (reE (fl eT) w)) := by
  kernel_rfl
theorem aU2 : Vs.turn φ2 (fun _ => false) [] ({ tmps := ((cG tQ tA (reE (fl tA) x0_0) tA (reE (fl tA) x0_1) tA (reE (fl tA) x0_2) tA (reE (fl tA) w) tQ bA (reE (fl bA) x0_0) bA (reE (fl bA) x0_1) bA (reE (fl bA) x0_2)).tmps.set 5 (.ptr 5 0)), boxes := ((cG tQ tA (reE (fl tA) x0_0) tA (reE (fl tA) x0_1) tA (reE (fl tA) x0_2) tA (reE (fl tA) w) tQ bA (reE (fl bA) x0_0) bA (reE (fl bA) x0_1) bA (reE (fl bA) x0_2)).boxes.set 5 (some [.leaf (.sl bA (reE (fl bA) x0_0)), .leaf (.sl bA (reE (fl bA) x0_1)), .leaf (.sl bA (reE (fl bA) x0_2))])) } : St true) = cG tQ (φ2 tA) (tuE φ2 (fun _ => false) false (reE (fl tA) x0_0)) (φ2 tA) (tuE φ2 (fun _ => false) false (reE (fl tA) x0_1)) (φ2 tA) (tuE φ2 (fun _ => false) false (reE (fl tA) x0_2)) (φ2 tA) (tuE φ2 (fun _ => false) false (reE (fl tA) w)) tQ (φ2 bA) (tuE φ2 (fun _ => false) false (reE (fl bA) x0_0)) (φ2 bA) (tuE φ2 (fun _ => false) false (reE (fl bA) x0_1)) (φ2 bA) (tuE φ2 (fun _ => false) false (reE (fl bA) x0_2)) := by
  kernel_rfl
theorem aUP : Vs.turn φ3 σ3 [] ({ tmps := (cF tQ tA (reE (fl tA) x0_0) tA (reE (fl tA) x0_1) tA (reE (fl tA) x0_2) tA (reE (fl tA) w) tQ tX (reE (fl tX) x0_0) tX (reE (fl tX) x0_1) tX (reE (fl tX) x0_2) bA (reE (fl bA) w)).tmps.set 6 (.own (some T.aY2) (reE (fl bA) w)), boxes := (cF tQ tA (reE (fl tA) x0_0) tA (reE (fl tA) x0_1) tA (reE (fl tA) x0_2) tA (reE (fl tA) w) tQ tX (reE (fl tX) x0_0) tX (reE (fl tX) x0_1) tX (reE (fl tX) x0_2) bA (reE (fl bA) w)).boxes } : St true) = cF tQ (if σ3 tA then jL else φ3 tA) (tuE φ3 σ3 (σ3 tA) (reE (fl tA) x0_0)) (if σ3 tA then jL else φ3 tA) (tuE φ3 σ3 (σ3 tA) (reE (fl tA) x0_1)) (if σ3 tA then jL else φ3 tA) (tuE φ3 σ3 (σ3 tA) (reE (fl tA) x0_2)) (if σ3 tA then jL else φ3 tA) (tuE φ3 σ3 (σ3 tA) (reE (fl tA) w)) tQ (if σ3 tX then jL else φ3 tX) (tuE φ3 σ3 (σ3 tX) (reE (fl tX) x0_0)) (if σ3 tX then jL else φ3 tX) (tuE φ3 σ3 (σ3 tX) (reE (fl tX) x0_1)) (if σ3 tX then jL else φ3 tX) (tuE φ3 σ3 (σ3 tX) (reE (fl tX) x0_2)) (if σ3 bA then jL else φ3 bA) (tuE φ3 σ3 (σ3 bA) (reE (fl bA) w)) := by
  kernel_rfl
theorem aWa (n k : Nat) : aRa (Vs.turn φ4 (fun _ => false) [6] (dY tQ tA (reE (fl tA) x0_0) tA (reE (fl tA) x0_1) tA (reE (fl tA) x0_2) tA (reE (fl tA) w) tG (reE (fl tG) w))) 6 3 n k = qD tQ (φ4 tA) (tuE φ4 (fun _ => false) false (reE (fl tA) x0_0)) (φ4 tA) (tuE φ4 (fun _ => false) false (reE (fl tA) x0_1)) (φ4 tA) (tuE φ4 (fun _ => false) false (reE (fl tA) x0_2)) (φ4 tA) (tuE φ4 (fun _ => false) false (reE (fl tA) w)) n (List.replicate k .any) := by
  kernel_rfl
theorem aVX : oH p2 ({ tmps := ((cG tQ tA (reE (fl tA) x0_0) tA (reE (fl tA) x0_1) tA (reE (fl tA) x0_2) tA (reE (fl tA) w) tQ bA (reE (fl bA) x0_0) bA (reE (fl bA) x0_1) bA (reE (fl bA) x0_2)).tmps.set 5 (.ptr 5 0)), boxes := ((cG tQ tA (reE (fl tA) x0_0) tA (reE (fl tA) x0_1) tA (reE (fl tA) x0_2) tA (reE (fl tA) w) tQ bA (reE (fl bA) x0_0) bA (reE (fl bA) x0_1) bA (reE (fl bA) x0_2)).boxes.set 5 (some [.leaf (.sl bA (reE (fl bA) x0_0)), .leaf (.sl bA (reE (fl bA) x0_1)), .leaf (.sl bA (reE (fl bA) x0_2))])) } : St true).boxes [] 0 ({ tmps := ((cG tQ tA (reE (fl tA) x0_0) tA (reE (fl tA) x0_1) tA (reE (fl tA) x0_2) tA (reE (fl tA) w) tQ bA (reE (fl bA) x0_0) bA (reE (fl bA) x0_1) bA (reE (fl bA) x0_2)).tmps.set 5 (.ptr 5 0)), boxes := ((cG tQ tA (reE (fl tA) x0_0) tA (reE (fl tA) x0_1) tA (reE (fl tA) x0_2) tA (reE (fl tA) w) tQ bA (reE (fl bA) x0_0) bA (reE (fl bA) x0_1) bA (reE (fl bA) x0_2)).boxes.set 5 (some [.leaf (.sl bA (reE (fl bA) x0_0)), .leaf (.sl bA (reE (fl bA) x0_1)), .leaf (.sl bA (reE (fl bA) x0_2))])) } : St true).tmps = true := by
  simp [oH, vI, aJb, bP, dV, asLeaf, cG, aHE, aEF, aTh, aCh (p := p2) (c := tA) rfl, aCh (p := p2) (c := bA) rfl, show p2 tA = true from rfl, show p2 bA = true from rfl]
theorem aWh : oH p3 ({ tmps := (cF tQ tA (reE (fl tA) x0_0) tA (reE (fl tA) x0_1) tA (reE (fl tA) x0_2) tA (reE (fl tA) w) tQ tX (reE (fl tX) x0_0) tX (reE (fl tX) x0_1) tX (reE (fl tX) x0_2) bA (reE (fl bA) w)).tmps.set 6 (.own (some T.aY2) (reE (fl bA) w)), boxes := (cF tQ tA (reE (fl tA) x0_0) tA (reE (fl tA) x0_1) tA (reE (fl tA) x0_2) tA (reE (fl tA) w) tQ tX (reE (fl tX) x0_0) tX (reE (fl tX) x0_1) tX (reE (fl tX) x0_2) bA (reE (fl bA) w)).boxes } : St true).boxes [] 0 ({ tmps := (cF tQ tA (reE (fl tA) x0_0) tA (reE (fl tA) x0_1) tA (reE (fl tA) x0_2) tA (reE (fl tA) w) tQ tX (reE (fl tX) x0_0) tX (reE (fl tX) x0_1) tX (reE (fl tX) x0_2) bA (reE (fl bA) w)).tmps.set 6 (.own (some T.aY2) (reE (fl bA) w)), boxes := (cF tQ tA (reE (fl tA) x0_0) tA (reE (fl tA) x0_1) tA (reE (fl tA) x0_2) tA (reE (fl tA) w) tQ tX (reE (fl tX) x0_0) tX (reE (fl tX) x0_1) tX (reE (fl tX) x0_2) bA (reE (fl bA) w)).boxes } : St true).tmps = true := by
  simp [oH, vI, aJb, bP, cF, aHE, aEF, aTh, Fl.new, aCh (p := p3) (c := tA) rfl, aCh (p := p3) (c := tX) rfl, aCh (p := p3) (c := bA) rfl, show p3 tA = true from rfl, show p3 tX = true from rfl, show p3 bA = true from rfl]
theorem aWc : oH p4 (dY tQ tA (reE (fl tA) x0_0) tA (reE (fl tA) x0_1) tA (reE (fl tA) x0_2) tA (reE (fl tA) w) tG (reE (fl tG) w)).boxes [6] 0 (dY tQ tA (reE (fl tA) x0_0) tA (reE (fl tA) x0_1) tA (reE (fl tA) x0_2) tA (reE (fl tA) w) tG (reE (fl tG) w)).tmps = true := by
  simp [oH, vI, aJb, dY, aHE, aEF, aTh, aCh (p := p4) (c := tA) rfl, show p4 tA = true from rfl]
theorem aV7 (h : aQD x0_0 x0_1 x0_2 w) {W w' : World} {act : Act} {A B : Nat} {w0 : World} {F2 F3 : Fr} {hB0 : B ≤ w0.heap.size} {Fx : Fr} {Ow : Own} {bm : Nat → Nat} (hA : W.heap.size ≤ A) (hAB : A ≤ B) (hB : B ≤ w'.heap.size)
    (hE : zB ev0 ∧ zB ev1) (hK : KOk W (KOf ev0 ev1)) (on : mX Tryz.prog (uF Tryz.prog F.aXq) W (N3 w0 A B F2 F3 hB0 (KOf ev0 ev1)) (dY tQ tA (reE (fl tA) x0_0) tA (reE (fl tA) x0_1) tA (reE (fl tA) x0_2) tA (reE (fl tA) w) tG (reE (fl tG) w)) act w' Fx Ow bm) :
    (sub body (way 12)).wp Tryz.prog (bodyPost Tryz.prog (uF Tryz.prog F.aXq) (aKF W)) act w' := by
  by_cases hw : w = []
  · have eqw0 := h.eqw
    have im0 := h.imp
    have mkn : ∀ (c : Fl true) (k : Int), Dd F.aXG [.leaf (.sl c []), .leaf (.int .i64 k)] [] = some (.leaf (.int .i64 k), []) := fun c k => aAo rfl (aDA k) (by simp [reS, reF, reE]) rfl rfl
    have hdn : ∀ (c : Fl true) (k : Int), Dd F.aXM [.leaf (.sl c []), .leaf (.int .i64 k)] [] = some (.leaf (.int .i64 k), []) := fun c k => aAo rfl (aDx k) (by simp [reS, reF, reE]) rfl rfl
    rw [hw] at on
    simp only [hw, reE] at eqw0 im0
    refine aJ7 (H := Hs) hP (aBE rfl hE) hfn hc0 spD nlD on fun J => ?_
    simp only [reE]
    rw [aAw]
    simp -implicitDefEqProofs only [mkn, hdn, Option.bind_some, bV, vY, sO, jG, cY, dD, cQ, cJ, dA, fE, List.length_cons, List.length_nil, beq_self_eq_true, aH, h.to0, im0, eqw0, show decide ((1 : Int) < 0) = false from rfl, aC, bne_self_eq_false, Bool.not_true, aOX]
  · have hpos : 0 < w.length := List.length_pos_iff.2 hw
    have hez : ∀ e ∈ reE (fl tG) w, e.length = 3 := mI fun e he => (h.wq e he).len
    obtain ⟨k, F', Ow', bm', R, hk, on'⟩ := aWx on hA hB hAB [6] (t := 6) (of_decide_eq_true (by kernel_rfl)) (of_decide_eq_true (by kernel_rfl)) (es := reE (fl tG) w) (z := 3) rfl (by rw [cP]; exact hpos) hez aWc hK.lt
    rw [aWa] at on'
    simp only [aGe (φ := φ4) (σ := fun _ => false) (c := tA) rfl, show φ4 tA = tA from rfl, cP] at on'
    rw [cP] at hk
    refine aJ7 (H := Hs) hP (aBE rfl hE) hfn hc0 spD nlD on' fun J => ?_
    have hm := aLJ (k := k) h.wl hk
    have hd := aKN (n := w.length) (k := k) h.wl
    have hf1 : ([List.replicate k (SV.any (m := true))].all fun (x : List (SV true)) => x.all SV.flat) = true := by
      simp only [List.all_cons, List.all_nil, Bool.and_true]
      rw [List.all_eq_true]; intro x hx; rw [List.eq_of_mem_replicate hx]; rfl
    have hf2 : ([(aN1 w.length k).map (reS li)].all fun (x : List (SV true)) => x.all SV.flat) = true := by
      simp only [List.all_cons, List.all_nil, Bool.and_true]
      exact aUv (aL1 _ _)
    have he : ¬ gC w.length 1 < 0 := by
      have := aH7 w.length 1 (by omega) (by have := h.wc; simp only [cap] at *; omega)
      omega
    rw [zQ]
    simp -implicitDefEqProofs only [hf1, hm, hd, Option.bind_some, bV, vY, sO, jG, cY, dD, cQ, cJ, dA, fE, List.length_cons, List.length_nil, beq_self_eq_true, aH, aSx, aOX, hf2, h.to0, h.imp, h.eqw, he, decide_false, aC, bne_self_eq_false, Bool.not_true]
theorem aV3 (h : aQD x0_0 x0_1 x0_2 w) {W w' : World} {act : Act} {A B : Nat} {F2 : Fr} {Fx : Fr} {Ow : Own} {bm : Nat → Nat} (hA : W.heap.size ≤ A) (hAB : A ≤ B) (hB : B ≤ w'.heap.size)
    (hE : zB ev0 ∧ zB ev1) (hK : KOk W (KOf ev0 ev1)) (on : mX Tryz.prog (uF Tryz.prog F.aXq) W (N2 A B F2 (KOf ev0 ev1)) ({ tmps := (cF tQ tA (reE (fl tA) x0_0) tA (reE (fl tA) x0_1) tA (reE (fl tA) x0_2) tA (reE (fl tA) w) tQ tX (reE (fl tX) x0_0) tX (reE (fl tX) x0_1) tX (reE (fl tX) x0_2) bA (reE (fl bA) w)).tmps.set 6 (.own (some T.aY2) (reE (fl bA) w)), boxes := (cF tQ tA (reE (fl tA) x0_0) tA (reE (fl tA) x0_1) tA (reE (fl tA) x0_2) tA (reE (fl tA) w) tQ tX (reE (fl tX) x0_0) tX (reE (fl tX) x0_1) tX (reE (fl tX) x0_2) bA (reE (fl bA) w)).boxes } : St true) act w' Fx Ow bm) :
    (sub body (way 9)).wp Tryz.prog (bodyPost Tryz.prog (uF Tryz.prog F.aXq) (aKF W)) act w' := by
  have on' := aWF on hA hB hAB [] aWh hK.lt
  rw [aUP] at on'
  simp only [show σ3 tA = false from rfl, show σ3 tX = true from rfl, show σ3 bA = false from rfl, aGe (φ := φ3) (σ := σ3) (c := tA) rfl, aGe (φ := φ3) (σ := σ3) (c := bA) rfl, aPG (φ := φ3) (σ := σ3) (c := tX) rfl, Bool.false_eq_true, if_false, if_true, show φ3 tA = tA from rfl, show φ3 bA = tG from rfl] at on'
  refine aM4 (H := Hs) (s1 := dY tQ tA (reE (fl tA) x0_0) tA (reE (fl tA) x0_1) tA (reE (fl tA) x0_2) tA (reE (fl tA) w) tG (reE (fl tG) w)) hP (aBE rfl hE) hfn hc0 spD on' (fun J => ?_) fun a' w2 F' Ow' bm' on2 far => ?_
  · rw [aAq]
    simp -implicitDefEqProofs only [h.mk0, Option.bind_some, bV, vY, sO, jG, cY, dD, cQ, cJ, dA, fE, List.length_cons, List.length_nil, beq_self_eq_true, aH, decide_eq_false h.mn, aD, h.eqw, Bool.not_true, aC]
    rfl
  · exact aV7 h hA hAB (Nat.le_trans hB far.size) hE hK on2
theorem aWo (h : aQD x0_0 x0_1 x0_2 w) {W w' : World} {act : Act} {A : Nat} {Fx : Fr} {Ow : Own} {bm : Nat → Nat} (hA : W.heap.size ≤ A) (hB : A ≤ w'.heap.size)
    (hE : zB ev0 ∧ zB ev1) (hK : KOk W (KOf ev0 ev1)) (on : mX Tryz.prog (uF Tryz.prog F.aXq) W (N1 A (KOf ev0 ev1)) ({ tmps := ((cG tQ tA (reE (fl tA) x0_0) tA (reE (fl tA) x0_1) tA (reE (fl tA) x0_2) tA (reE (fl tA) w) tQ bA (reE (fl bA) x0_0) bA (reE (fl bA) x0_1) bA (reE (fl bA) x0_2)).tmps.set 5 (.ptr 5 0)), boxes := ((cG tQ tA (reE (fl tA) x0_0) tA (reE (fl tA) x0_1) tA (reE (fl tA) x0_2) tA (reE (fl tA) w) tQ bA (reE (fl bA) x0_0) bA (reE (fl bA) x0_1) bA (reE (fl bA) x0_2)).boxes.set 5 (some [.leaf (.sl bA (reE (fl bA) x0_0)), .leaf (.sl bA (reE (fl bA) x0_1)), .leaf (.sl bA (reE (fl bA) x0_2))])) } : St true) act w' Fx Ow bm) :
    (sub body (way 6)).wp Tryz.prog (bodyPost Tryz.prog (uF Tryz.prog F.aXq) (aKF W)) act w' := by
  have on' := aWS on [] aVX
  rw [aU2] at on'
  simp only [aGe (φ := φ2) (σ := fun _ => false) (c := tA) rfl, aGe (φ := φ2) (σ := fun _ => false) (c := bA) rfl, show φ2 tA = tA from rfl, show φ2 bA = tX from rfl] at on'
  refine aM4 (H := Hs) (s1 := { tmps := (cF tQ tA (reE (fl tA) x0_0) tA (reE (fl tA) x0_1) tA (reE (fl tA) x0_2) tA (reE (fl tA) w) tQ tX (reE (fl tX) x0_0) tX (reE (fl tX) x0_1) tX (reE (fl tX) x0_2) bA (reE (fl bA) w)).tmps.set 6 (.own (some T.aY2) (reE (fl bA) w)), boxes := (cF tQ tA (reE (fl tA) x0_0) tA (reE (fl tA) x0_1) tA (reE (fl tA) x0_2) tA (reE (fl tA) w) tQ tX (reE (fl tX) x0_0) tX (reE (fl tX) x0_1) tX (reE (fl tX) x0_2) bA (reE (fl bA) w)).boxes }) hP (aBE rfl hE) hfn hc0 spC on' (fun J => ?_) fun a' w2 F' Ow' bm' on2 far => ?_
  · rw [aAz]
    simp -implicitDefEqProofs only [h.to0, h.imp, h.eq0, Option.bind_some, bV, vY, sO, jG, cY, dD, cQ, cJ, dA, fE, List.length_cons, List.length_nil, beq_self_eq_true, aH, h.eqw, Bool.not_true, aC]
    rfl
  · exact aV3 h hA hB far.size hE hK on2
theorem aV1 (h : aQD x0_0 x0_1 x0_2 w) {W w' : World} {act : Act} {A : Nat} {Fx : Fr} {Ow : Own} {bm : Nat → Nat} (hA : W.heap.size ≤ A) (hB : A ≤ w'.heap.size)
    (hE : zB ev0 ∧ zB ev1) (hK : KOk W (KOf ev0 ev1)) (on : mX Tryz.prog (uF Tryz.prog F.aXq) W (N1 A (KOf ev0 ev1)) (dZ tQ tA (reE (fl tA) x0_0) tA (reE (fl tA) x0_1) tA (reE (fl tA) x0_2) tA (reE (fl tA) w)) act w' Fx Ow bm) :
    (sub body (way 5)).wp Tryz.prog (bodyPost Tryz.prog (uF Tryz.prog F.aXq) (aKF W)) act w' := by
  refine aM4 (H := Hs) (s1 := { tmps := ((cG tQ tA (reE (fl tA) x0_0) tA (reE (fl tA) x0_1) tA (reE (fl tA) x0_2) tA (reE (fl tA) w) tQ bA (reE (fl bA) x0_0) bA (reE (fl bA) x0_1) bA (reE (fl bA) x0_2)).tmps.set 5 (.ptr 5 0)), boxes := ((cG tQ tA (reE (fl tA) x0_0) tA (reE (fl tA) x0_1) tA (reE (fl tA) x0_2) tA (reE (fl tA) w) tQ bA (reE (fl bA) x0_0) bA (reE (fl bA) x0_1) bA (reE (fl bA) x0_2)).boxes.set 5 (some [.leaf (.sl bA (reE (fl bA) x0_0)), .leaf (.sl bA (reE (fl bA) x0_1)), .leaf (.sl bA (reE (fl bA) x0_2))])) }) hP (aBE rfl hE) hfn hc0 spB on (fun J => ?_) fun a' w2 F' Ow' bm' on2 far => ?_
  · rw [aAx]
    simp -implicitDefEqProofs only [h.to0, Option.bind_some, bV, vY, sO, jG, cY, dD, cQ, cJ, dA, fE, List.length_cons, List.length_nil, beq_self_eq_true, aH]
    rfl
  · exact aWo h hA (Nat.le_trans hB far.size) hE hK on2
theorem aV0 (sz0 : ∀ (c : Fl true) (n : Int), 0 ≤ n → Dd F.aYC [.agg [.sl c (reE (fl c) x0_0), .sl c (reE (fl c) x0_1), .sl c (reE (fl c) x0_2)], .leaf (.int .i64 n)] [] = some (.leaf (.int .i64 (szL [.sl fP x0_0, .sl fP x0_1, .sl fP x0_2] n)), [])) (fits : 0 ≤ szL [.sl fP x0_0, .sl fP x0_1, .sl fP x0_2] 1048576 → aQD x0_0 x0_1 x0_2 w) {W : World} {act : Act} {Fx : Fr} {Ow : Own} {bm : Nat → Nat}
    (hE : zB ev0 ∧ zB ev1) (hK : KOk W (KOf ev0 ev1)) (on : mX Tryz.prog (uF Tryz.prog F.aXq) W (N0 W (KOf ev0 ev1)) (lH eT (reE (fl eT) x0_0) eT (reE (fl eT) x0_1) eT (reE (fl eT) x0_2)) act W Fx Ow bm) :
    (sub body (way 0)).wp Tryz.prog (bodyPost Tryz.prog (uF Tryz.prog F.aXq) (aKF W)) act W := by
  by_cases hn0 : szL [.sl fP x0_0, .sl fP x0_1, .sl fP x0_2] 1048576 < 0
  · refine aQs (H := Hs) hP (aBE rfl hE) hfn hc0 spA on fun J => ?_
    rw [qN]
    simp -implicitDefEqProofs only [sz0 eT 1048576 (by omega), Option.bind_some, bV, vY, sO, jG, cY, dD, cQ, cJ, dA, fE, List.length_cons, List.length_nil, beq_self_eq_true, aH, decide_eq_true hn0, aD, aC]
  · have h := fits (by omega)
    refine aM4 (H := Hs) (s1 := { tmps := (((dZ tQ eT (reE (fl eT) x0_0) eT (reE (fl eT) x0_1) eT (reE (fl eT) x0_2) eT (reE (fl eT) w)).tmps.set 1 (.ptr 1 0)).set 4 (.own (some T.aY2) (reE (fl eT) w))), boxes := ((dZ tQ eT (reE (fl eT) x0_0) eT (reE (fl eT) x0_1) eT (reE (fl eT) x0_2) eT (reE (fl eT) w)).boxes.set 1 (some [.leaf (.sl eT (reE (fl eT) x0_0)), .leaf (.sl eT (reE (fl eT) x0_1)), .leaf (.sl eT (reE (fl eT) x0_2))])) }) hP (aBE rfl hE) hfn hc0 spA on (fun J => ?_) fun a' w2 F' Ow' bm' on2 far => ?_
    · rw [qN]
      simp -implicitDefEqProofs only [sz0 eT 1048576 (by omega), Option.bind_some, bV, vY, sO, jG, cY, dD, cQ, cJ, dA, fE, List.length_cons, List.length_nil, beq_self_eq_true, aH, decide_eq_false hn0, aD, aC, h.to0, h.spc]
      rfl
    · have on3 := aWD (K := (KOf ev0 ev1)) on2 (fun _ => rfl) []
      rw [aUA] at on3
      simp only [aGe (φ := φ1) (σ := fun _ => false) (c := eT) rfl, show φ1 eT = tA from rfl, show φ1 bA = tA from rfl] at on3
      exact aV1 h far.size (Nat.le_refl _) hE hK on3
end
end Go.Vs
end
section
open Go Go.Vs Go.Proofs
set_option linter.unusedVariables false
set_option linter.unusedSimpArgs false
namespace Go.Vs
def iB (s : ByteArray) (c : UInt8) : Bool := decide (0 < s.size) && (s.data.toList.getD (s.size - 1) 0 == c)
def cut (s : ByteArray) : ByteArray := s.extract 0 (s.size - 1)
theorem qC (s : ByteArray) : (cut s).size = s.size - 1 := by unfold cut; rw [ByteArray.size_extract]; omega
theorem aKd {n d : Nat} (h : n ≤ maxLen) (hd : d ≤ n) : IntKind.i64.wrap ((n : Int) - (d : Int)) = ((n - d : Nat) : Int) := by
  have hm : maxLen = 9223372036854775807 := rfl
  rw [rM (by omega) (by omega)]; omega
theorem aG8 {n : Nat} (h : n ≤ maxLen) (hd : 0 < n) : IntKind.i64.wrap ((n : Int) - 1) = ((n - 1 : Nat) : Int) := aKd h (show 1 ≤ n by omega)
theorem tl (s : ByteArray) : s.toList = s.data.toList := by first | exact ByteArray.toList_eq s | exact Go.ByteArray.toList_eq s
theorem aO6 (s : ByteArray) : s.data.toList.length = s.size := by rw [Array.length_toList]; rfl
theorem aR1 (s : ByteArray) (c : UInt8) (h : 0 < s.size) : ((s.extract (s.size - 1) s.size).toList == (ByteArray.mk #[c]).toList) = iB s c := by
  have hl := aO6 s
  have e1 : (s.extract (s.size - 1) s.size).toList = [s.data.toList.getD (s.size - 1) 0] := by
    rw [tl, ByteArray.data_extract, Array.toList_extract, List.extract_eq_take_drop]
    have : s.data.toList.drop (s.size - 1) = [s.data.toList.getD (s.size - 1) 0] := by
      rw [List.drop_eq_getElem_cons (by omega), List.drop_of_length_le (by omega)]
      rw [List.getD_eq_getElem?_getD, List.getElem?_eq_getElem (show s.size - 1 < s.data.toList.length by omega)]; rfl
    rw [this]
    have : s.size - (s.size - 1) = 1 := by omega
    rw [this]; rfl
  have e2 : (ByteArray.mk #[c]).toList = [c] := by rw [tl]
  rw [e1, e2]
  unfold iB
  simp -implicitDefEqProofs only [h, decide_true, Bool.true_and]
  cases hx : (s.data.toList.getD (s.size - 1) 0 == c) <;> simp_all
theorem uS {w : ByteArray} {c : UInt8} (he : iB w c = true) : 0 < w.size := by unfold iB at he; simp at he; omega
theorem aVc (x : UInt8) (c : Nat) (hc : c < 256) : (((x.toNat : Nat) : Int) == (c : Int)) = (x == UInt8.ofNat c) := by
  rw [Bool.eq_iff_iff, beq_iff_eq, beq_iff_eq, ← UInt8.toNat_inj]
  simp -implicitDefEqProofs only [UInt8.toNat_ofNat']
  omega
theorem aM5 {w : ByteArray} (c : Nat) (hc : c < 256) (hp : 0 < w.size) (hw : w.size ≤ maxLen) : (((w.data.toList.getD (IntKind.i64.wrap ((w.size : Int) - 1)).toNat 0).toNat : Int) == (c : Int)) = iB w (UInt8.ofNat c) := by
  rw [aG8 hw hp, Int.toNat_natCast, aVc _ c hc]; unfold iB; simp -implicitDefEqProofs only [hp, decide_true, Bool.true_and]
theorem aIo {w : ByteArray} (hp : 0 < w.size) (hw : w.size ≤ maxLen) : (decide (0 ≤ IntKind.i64.wrap ((w.size : Int) - 1)) && decide ((IntKind.i64.wrap ((w.size : Int) - 1)).toNat ≤ w.size)) = true := by
  rw [aG8 hw hp, Int.toNat_natCast]; simp
theorem aEx {w : ByteArray} (hp : 0 < w.size) (hw : w.size ≤ maxLen) : (decide (0 ≤ IntKind.i64.wrap ((w.size : Int) - 1)) && decide (IntKind.i64.wrap ((w.size : Int) - 1) < (w.size : Int))) = true := by
  rw [aG8 hw hp]; simp; omega
theorem aII {w : ByteArray} (hp : 0 < w.size) (hw : w.size ≤ maxLen) : w.extract 0 (IntKind.i64.wrap ((w.size : Int) - 1)).toNat = cut w := by
  rw [aG8 hw hp, Int.toNat_natCast]; rfl
theorem aUM (w : ByteArray) : (w.toList == (ByteArray.mk #[]).toList) = ((w.size : Int) == 0) := by
  have hl := aO6 w
  rw [tl, tl]
  show (w.data.toList == []) = _
  cases hx : w.data.toList with
  | nil => rw [hx] at hl; simp at hl; rw [← hl]; rfl
  | cons a r => rw [hx] at hl; simp at hl; rw [← hl]; simp; omega
theorem aGZ {s : ByteArray} {c : UInt8} (hs : s.size ≤ maxLen) : Dn F.aXn [.leaf (.str s), .leaf (.str ⟨#[c]⟩)] [] = some (aJ (iB s c), []) := by
  refine aQ ?_
  rw [wC]
  have h1 : (ByteArray.mk #[c]).size = 1 := rfl
  rw [h1]
  by_cases h : 0 < s.size
  · have hw := aKd hs (show 1 ≤ s.size by omega)
    simp -implicitDefEqProofs only [hw, show ((s.size : Nat) : Int) ≥ ((1 : Nat) : Int) by omega, decide_true, beq_self_eq_true, aD, Int.natCast_nonneg, Bool.true_and, Bool.and_true, Int.toNat_natCast, Nat.sub_le, Nat.le_refl, aH]
    rw [aR1 s c h]
  · have h0 : ¬ ((s.size : Nat) : Int) ≥ ((1 : Nat) : Int) := by omega
    simp -implicitDefEqProofs only [h0, decide_false, show ((false : Bool) == true) = false from rfl, aC]
    have : iB s c = false := by unfold iB; simp [h]
    rw [this]
theorem aMh {s : ByteArray} {c : UInt8} (hs : s.size ≤ maxLen) : Dn F.aXJ [.leaf (.str s), .leaf (.str ⟨#[c]⟩)] [] = some (.tup [.leaf (.str (if iB s c then cut s else s)), aJ (iB s c)], []) := by
  have h1 : (ByteArray.mk #[c]).size = 1 := rfl
  have key : Dn F.aXo [.leaf (.str s), .leaf (.str ⟨#[c]⟩)] [] = some (.tup [.leaf (.str (if iB s c then cut s else s)), aJ (iB s c)], []) := by
    refine aQ ?_
    rw [wB, aGZ hs, h1, bY]
    cases he : iB s c with
    | false => simp
    | true =>
      have h := uS he
      have hw := aKd hs (show 1 ≤ s.size by omega)
      simp -implicitDefEqProofs only [hw, Bool.not_true, aC, Int.natCast_nonneg, decide_true, Bool.true_and, Int.toNat_natCast, Nat.sub_le, aH, if_true]
      rfl
  refine aQ ?_
  rw [aFI, key]
  simp -implicitDefEqProofs only [rdR, rB, beq_self_eq_true, Bool.not_true, Bool.not_false, Bool.and_true, Bool.true_and, bT, bF]
theorem aMg {x : dR} {c : UInt8} (hs : x.a1.size ≤ maxLen) : Dn F.aYc [.agg x.l, .leaf (.str ⟨#[c]⟩)] [] = some (.tup [.agg (dR.l ⟨x.a0, if iB x.a1 c then cut x.a1 else x.a1⟩), aJ (iB x.a1 c)], []) := by
  refine aQ ?_
  rw [aIu, aMh hs]
  simp -implicitDefEqProofs only [rdR, rB, beq_self_eq_true, Bool.not_true, Bool.not_false, Bool.and_true, Bool.true_and, bT, bF]
theorem aBh {s : ByteArray} {c : UInt8} (hs : s.size ≤ maxLen) : Dn F.aXL [.leaf (.str s), .leaf (.str ⟨#[c]⟩)] [] = some (aJ (iB s c), []) := by
  refine aQ ?_
  rw [aFv, aGZ hs, bY]
theorem aIb {x : dR} (hs : x.a1.size ≤ maxLen) : Dn F.aZy [.agg x.l] [] = some (aJ (iB x.a1 33), []) := by
  refine aQ ?_
  rw [aMu, aBh hs, bY]
theorem aC7 {x : dR} (hs : x.a1.size ≤ maxLen) : Dn F.aZb [.agg x.l] [] = some (aJ (iB x.a1 33), []) := by
  refine aQ ?_
  rw [aMS]
  by_cases h : 0 < x.a1.size
  · have hl := aM5 33 (by omega) h hs
    rw [show ((33 : Nat) : Int) = 33 from rfl] at hl
    simp -implicitDefEqProofs only [aEx h hs, hl, show ((x.a1.size : Nat) : Int) > 0 by omega, decide_true, beq_self_eq_true, aD, aH]
    rfl
  · have h0 : ¬ ((x.a1.size : Nat) : Int) > 0 := by omega
    simp -implicitDefEqProofs only [h0, decide_false, show ((false : Bool) == true) = false from rfl, aC]
    have : iB x.a1 33 = false := by unfold iB; simp [h]
    rw [this]
end Go.Vs
end
section
open Go Go.Vs Go.Proofs
set_option linter.unusedVariables false
set_option linter.unusedSimpArgs false
namespace Go.Vs
theorem aCo {es : List El} {s : ByteArray} (hl : es.length ≤ maxLen) (hq : ∀ e ∈ es, dF e) : Dn F.aZ3 [vsl es, .leaf (.str s)] [] = some (aK (iK (at0 s) 0 es), []) := by
  refine aQ ?_
  rw [aOJ]
  refine nA (es := es) (A := fun i => qK Dn (aCz es s i)) (by rw [aGg]; simp) fun i hi => ?_
  obtain ⟨x, hx, _⟩ := (hq _ (List.getElem_mem hi)).st
  rw [aGg]
  simp -implicitDefEqProofs only [inI, hi, aX (Nat.lt_of_lt_of_le hi hl), aP (fun e he => (hq e he).len), bJ hi, hx, atP]
  rfl
theorem aE6 {es : List El} {s : ByteArray} (hl : es.length ≤ maxLen) (hq : ∀ e ∈ es, cK e) : Dn F.aYA [vsl es, .leaf (.str s)] [] = some (aK (iK (at0 s) 0 es), []) := by
  refine aQ ?_
  rw [aJ3]
  refine nA (es := es) (A := fun i => jZ Dn (vL es s i)) (by rw [aB1]; simp) fun i hi => ?_
  obtain ⟨x, hx, _⟩ := (hq _ (List.getElem_mem hi)).st
  rw [aB1]
  simp -implicitDefEqProofs only [inI, hi, aX (Nat.lt_of_lt_of_le hi hl), aP (fun e he => (hq e he).len), bJ hi, hx, atP]
  rfl
theorem kU {es : List El} {s : ByteArray} (hl : es.length ≤ maxLen) (hq : ∀ e ∈ es, lZ e) : Dn F.aZf [vsl es, .leaf (.str s)] [] = some (aJ (es.any (at0 s)), []) := by
  refine aQ ?_
  rw [aMm]
  refine aT6 (es := es) (A := fun i => mQ Dn (aAn es s i)) (by rw [aDK]; simp) fun i hi => ?_
  obtain ⟨u, hu, _⟩ := hq _ (List.getElem_mem hi)
  rw [aDK]
  simp -implicitDefEqProofs only [inI, hi, aX (Nat.lt_of_lt_of_le hi hl), aP (fun e he => (hq e he).len), bJ hi, hu, aSY, aU6, uB, aVO]
  rfl
theorem iS {es : List El} {s : ByteArray} (hl : es.length ≤ maxLen) (hq : ∀ e ∈ es, lZ e) : Dn F.aXk [vsl es, .leaf (.str s)] [] = some (aJ (es.any (at0 s)), []) := by
  have key : Dn F.aXp [vsl es, .leaf (.str s)] [] = some (aK (iK (at0 s) 0 es), []) := by
    refine aQ ?_
    rw [wV]
    refine nA (es := es) (A := fun i => dE Dn (iA es s es.length i)) (by rw [nS]; simp) fun i hi => ?_
    obtain ⟨u, hu, _⟩ := hq _ (List.getElem_mem hi)
    rw [nS]
    simp -implicitDefEqProofs only [inI, hi, aX (Nat.lt_of_lt_of_le hi hl), aP (fun e he => (hq e he).len), bJ hi, hu, aSY, aU6, uB, aVO, aVI s.toList]
    rfl
  refine aQ ?_
  rw [uU, key, fK, oB _ _ _ (by omega)]
theorem aCD {es : List El} {s : ByteArray} (hl : es.length ≤ maxLen) (hq : ∀ e ∈ es, dF e) : Dn F.aZ2 [vsl es, .leaf (.str s)] [] = some (aK (iK (at0 s) 0 es), []) := by
  have key : Dn F.aXe [vsl es, .fn F.aZp [.ptr 0 0]] [[.leaf (.str s)]] = some (aK (iK (at0 s) 0 es), [[.leaf (.str s)]]) := by
    refine aQ ?_
    rw [nQ]
    refine nA (es := es) (A := fun i => cA Dn (dU es F.aZp es.length i s)) (by rw [gO]; simp) fun i hi => ?_
    obtain ⟨x, hx, _⟩ := (hq _ (List.getElem_mem hi)).st
    have hc : Dn F.aZp [.agg x.l, .ptr 0 0] [[.leaf (.str s)]] = some (aJ (x.a0.toList == s.toList), [[.leaf (.str s)]]) := aQ (aMp ..)
    rw [gO]
    simp -implicitDefEqProofs only [inI, hi, aX (Nat.lt_of_lt_of_le hi hl), aP (fun e he => (hq e he).len), bJ hi, hx, bC.rd_l, hc, aLH]
    rfl
  refine aQ ?_
  rw [aOH, key, aNi]
def aSN : bQ := ⟨nul, nul, [], nul, nul, []⟩
theorem aTR : cK aSN.l := show cK [.str nul, .str nul, .sl fP [], .str nul, .str nul, .sl fP []] from .mk nul nul [] nul nul [] (by decide) (by decide) (by decide) (fun _ h => by cases h) (by decide) (by decide) (by decide) (fun _ h => by cases h)
def qM (es : List El) (s : ByteArray) : bQ := if iK (at0 s) 0 es < 0 then aSN else .of (es.getD (iK (at0 s) 0 es).toNat [])
theorem aVt {es : List El} {s : ByteArray} (hq : ∀ e ∈ es, cK e) : cK (qM es s).l := by
  unfold qM
  split
  · exact aTR
  · rename_i h
    obtain ⟨j, hj, hi, _⟩ := yK h
    obtain ⟨y, hy, iy⟩ := (hq _ (List.getElem_mem hj)).st
    rw [hi, Int.toNat_natCast, bJ hj, hy]
    exact iy
theorem aOt {x : aG} {s : ByteArray} (hx : eA x.l) : Dn F.aY3 [.agg x.l, .leaf (.str s)] [] = some (.tup [.agg (qM x.a5 s).l, aJ (!decide (iK (at0 s) 0 x.a5 < 0))], []) := by
  obtain ⟨_, _, _, _, hl, hq, _⟩ := hx.p
  have key : Dn F.aW9 [vsl x.a5, .fn F.aYg [.ptr 0 0]] [[.leaf (.str s)]] = some (aK (iK (at0 s) 0 x.a5), [[.leaf (.str s)]]) := by
    refine aQ ?_
    rw [lK]
    refine nA (es := x.a5) (A := fun i => bO Dn (dC x.a5 F.aYg x.a5.length i s)) (by rw [fH]; simp) fun i hi => ?_
    obtain ⟨x, hx, _⟩ := (hq _ (List.getElem_mem hi)).st
    have hc : Dn F.aYg [.agg x.l, .ptr 0 0] [[.leaf (.str s)]] = some (aJ (x.a0.toList == s.toList), [[.leaf (.str s)]]) := aQ (aI9 ..)
    rw [fH]
    simp -implicitDefEqProofs only [inI, hi, aX (Nat.lt_of_lt_of_le hi hl), aP (fun e he => (hq e he).len), bJ hi, hx, bQ.rd_l, hc, aLH]
    rfl
  refine aQ ?_
  rw [aLV, key, aNi]
  unfold qM
  by_cases h : iK (at0 s) 0 x.a5 < 0
  · simp -implicitDefEqProofs only [h, decide_true, aD, if_true]
    rfl
  · obtain ⟨j, hj, hi, _⟩ := yK h
    obtain ⟨y, hy, iy⟩ := (hq _ (List.getElem_mem hj)).st
    have hn : ¬ ((j : Int) < 0) := by omega
    simp -implicitDefEqProofs only [decide_false, aC, hi, hn, if_false, inI, hj, aP (fun e he => (hq e he).len), bJ hj, hy, bQ.rd_l, bQ.of_l]
    rfl
def aNL (e : El) : Bool := iB (bM e 3) 33 && !aPL e 4
def yT (es : List El) : List El := es.flatMap fun e => ifP (aNL e) [.str (bM e 0)]
theorem aN3 (es : List El) : yT es = eK (fun _ e => ifP (aNL e) [.str (bM e 0)]) 0 es := (aMe _ _ _).symm
theorem aDi (es : List El) : (yT es).length ≤ es.length := by
  rw [aN3]
  have := kT (g := fun _ e => ifP (aNL e) [.str (bM e 0)]) (c := 1) es 0 fun j hj => cH _ _
  omega
theorem zL {es : List El} (hq : ∀ e ∈ es, dF e) : ∀ e ∈ yT es, lZ e := by
  intro e he
  unfold yT at he
  obtain ⟨x, hx, hm⟩ := List.mem_flatMap.1 he
  obtain ⟨_, rfl⟩ := aSR hm
  obtain ⟨y, rfl, iy⟩ := (hq x hx).st
  exact ⟨y.a0, rfl, iy.p.1⟩
theorem aCw {es : List El} (hl : es.length ≤ 1048576) (hq : ∀ e ∈ es, dF e) : Dn F.aXW [vsl es] [] = some (.own (some T.aZ5) (yT es), []) := by
  have hml : (1048576 : Nat) ≤ maxLen := by decide
  refine aQ ?_
  rw [aHJ, aN3]
  refine wO (es := es) (g := fun _ e => ifP (aNL e) [.str (bM e 0)]) (c := 1) (N := 4000000) (A := fun out i => cS Dn (rT es out i)) (fin := fun out => some (.own (some T.aZ5) out, [])) (fun j hj => cH _ _) (fun out _ => by rw [aAu]; simp) (fun i hi out ho => ?_) (by omega)
  obtain ⟨x, hx, ix⟩ := (hq _ (List.getElem_mem hi)).st
  have hn := aC7 (x := ⟨x.a2, x.a3⟩) ix.p.2.2.2.1
  have hw := aX (Nat.lt_of_lt_of_le hi (Nat.le_trans hl hml))
  rw [aAu, hx]
  simp -implicitDefEqProofs only [inI, hi, aP (fun e he => (hq e he).len), bJ hi, hx, eJ, atP, hn, bY, bT]
  rw [show aNL x.l = (iB x.a3 33 && !x.a4) from rfl, show bM x.l 0 = x.a0 from rfl]
  cases iB x.a3 33 <;> cases x.a4 <;> simp -implicitDefEqProofs only [aD, aC, Bool.not_true, Bool.not_false, Bool.and_true, Bool.and_false, Bool.true_and, Bool.false_and, eH, eC, List.append_nil, aGV, aGf, inI, hi, aP (fun e he => (hq e he).len), bJ hi, hx, atP, aP2 (z := 16) (show out.length + 1 ≤ 1000000000000 by omega) (by decide), hw]
theorem aCM {es : List El} (hl : es.length ≤ 1048576) (hq : ∀ e ∈ es, dF e) : Dn F.aX8 [vsl es] [] = some (.own (some T.aZ5) (yT es), []) := by
  have hml : (1048576 : Nat) ≤ maxLen := by decide
  refine aQ ?_
  rw [aHu, aN3]
  refine wO (es := es) (g := fun _ e => ifP (aNL e) [.str (bM e 0)]) (c := 1) (N := 4000000) (A := fun out i => cT Dn (rP out es es.length i)) (fin := fun out => some (.own (some T.aZ5) out, [])) (fun j hj => cH _ _) (fun out _ => by rw [aAF]; simp) (fun i hi out ho => ?_) (by omega)
  obtain ⟨x, hx, ix⟩ := (hq _ (List.getElem_mem hi)).st
  have hn := aIb (x := ⟨x.a2, x.a3⟩) ix.p.2.2.2.1
  have hw := aX (Nat.lt_of_lt_of_le hi (Nat.le_trans hl hml))
  rw [aAF, hx]
  simp -implicitDefEqProofs only [inI, hi, aP (fun e he => (hq e he).len), bJ hi, hx, bC.rd_l, hn, bY, bT]
  rw [show aNL x.l = (iB x.a3 33 && !x.a4) from rfl, show bM x.l 0 = x.a0 from rfl]
  cases iB x.a3 33 <;> cases x.a4 <;> simp -implicitDefEqProofs only [aD, aC, Bool.not_true, Bool.not_false, Bool.and_true, Bool.and_false, Bool.true_and, Bool.false_and, eH, eC, List.append_nil, aF1, aF7, aP2 (z := 16) (show out.length + 1 ≤ 1000000000000 by omega) (by decide), aH, hw]
end Go.Vs
end
section
open Go Go.Vs Go.Proofs
set_option linter.unusedVariables false
set_option linter.unusedSimpArgs false
namespace Go.Vs
def nE (s : bK) (n : ByteArray) : Int := if s.a0.length > 60 then -1 else iK (at3 n) 0 s.a0
theorem tM {s : bK} {n : ByteArray} (hs : bL s.l) (h : ¬ nE s n < 0) : ∃ (j : Nat) (hj : j < s.a0.length) (y : aG), nE s n = (j : Int) ∧ s.a0[j] = y.l ∧ eA y.l := by
  unfold nE at h ⊢
  split at h
  · omega
  · rename_i h60
    obtain ⟨j, hj, hi, _⟩ := yK h
    obtain ⟨y, hy, iy⟩ := (hs.p.2.1 _ (List.getElem_mem hj)).st
    exact ⟨j, hj, y, by rw [if_neg h60, hi], hy, iy⟩
theorem aWG {s : bK} {n : ByteArray} : nE s n = -1 ∨ 0 ≤ nE s n := by
  unfold nE
  split
  · exact .inl rfl
  · rcases aM6 (at3 n) s.a0 0 (by omega) with h | h
    · exact .inl h
    · exact .inr h.1
def aE4 : aG := ⟨0, false, nul, nul, [], [], [], [], [], false, []⟩
theorem aVk : eA aE4.l := show eA [.int .i64 0, .bool false, .str nul, .str nul, .sl fP [], .sl fP [], .sl fP [], .sl fP [], .sl fP [], .bool false, .sl fP []] from
  .mk 0 false nul nul [] [] [] [] [] false [] (by decide) (by decide) (by decide) (fun _ h => by cases h) (by decide) (fun _ h => by cases h) (by decide) (fun _ h => by cases h) (by decide) (fun _ h => by cases h) (by decide) (fun _ h => by cases h) (by decide) (fun _ h => by cases h)
def gG (s : bK) (n : ByteArray) : aG := if nE s n < 0 then aE4 else .of (s.a0.getD (nE s n).toNat [])
theorem aCr {s : bK} {n : ByteArray} (hs : bL s.l) : eA (gG s n).l := by
  unfold gG
  split
  · exact aVk
  · rename_i h
    obtain ⟨j, hj, y, hi, hy, iy⟩ := tM hs h
    rw [hi, Int.toNat_natCast, bJ hj, hy]
    exact iy
theorem aAr {s : bK} {n : ByteArray} {j : Nat} {hj : j < s.a0.length} {y : aG} (hi : nE s n = (j : Int)) (hy : s.a0[j] = y.l) : gG s n = y := by
  unfold gG
  rw [hi, if_neg (by omega), Int.toNat_natCast, bJ hj, hy]
  rfl
def wE (n : ByteArray) : Bool := n.toList == (ByteArray.mk #[73, 110, 116]).toList || (n.toList == (ByteArray.mk #[70, 108, 111, 97, 116]).toList || (n.toList == (ByteArray.mk #[83, 116, 114, 105, 110, 103]).toList || (n.toList == (ByteArray.mk #[66, 111, 111, 108, 101, 97, 110]).toList || n.toList == (ByteArray.mk #[73, 68]).toList)))
def kL (s : bK) (n : ByteArray) : Int := if nE s n < 0 then (if wE n = true then 1 else 0) else (gG s n).a0
section
variable {s : bK} {n a b : ByteArray}
theorem rJ (hs : bL s.l) : Dn F.aZs [.agg s.l, .leaf (.str n)] [] = some (aK (nE s n), []) := by
  obtain ⟨hl, hq, _⟩ := hs.p
  refine aQ ?_
  rw [aMW]
  unfold nE
  by_cases h60 : s.a0.length > 60
  · rw [if_pos h60, zO]
    simp -implicitDefEqProofs only [zI, bT, show ((s.a0.length : Int) ≤ 60) = False by simp; omega, decide_false, aC, aMl]
  · rw [if_neg h60]
    have h6 : ((s.a0.length : Nat) : Int) ≤ 60 := by omega
    refine nA (es := s.a0) (A := fun i => fW Dn (aAb n i s)) (by rw [zO]; simp [zI]) fun i hi => ?_
    obtain ⟨x, hx, _⟩ := (hq _ (List.getElem_mem hi)).st
    rw [zO]
    simp -implicitDefEqProofs only [inI, hi, h6, bT, zI, aX (Nat.lt_of_lt_of_le hi hl), aP (fun e he => (hq e he).len), bJ hi, hx, atP]
    rfl
theorem aOC (hs : bL s.l) : Dn F.aZh [.agg s.l, .leaf (.str n)] [] = some (aK (nE s n), []) := by
  obtain ⟨hl, hq, _⟩ := hs.p
  have key : Dn F.aXg [vsl s.a0, .fn F.aYR [.ptr 0 0]] [[.leaf (.str n)]] = some (aK (iK (at3 n) 0 s.a0), [[.leaf (.str n)]]) := by
    refine aQ ?_
    rw [pE]
    refine nA (es := s.a0) (A := fun i => cI Dn (eE s.a0 F.aYR s.a0.length i n)) (by rw [iY]; simp) fun i hi => ?_
    obtain ⟨x, hx, _⟩ := (hq _ (List.getElem_mem hi)).st
    have hc : Dn F.aYR [.agg x.l, .ptr 0 0] [[.leaf (.str n)]] = some (aJ (x.a3.toList == n.toList), [[.leaf (.str n)]]) := aQ (aKH ..)
    rw [iY]
    simp -implicitDefEqProofs only [inI, hi, aX (Nat.lt_of_lt_of_le hi hl), aP (fun e he => (hq e he).len), bJ hi, hx, aG.rd_l, hc, aLH]
    rfl
  have k2 : Dn F.aZR [vsl s.a0, .leaf (.str n)] [] = some (aK (nE s n), []) := by
    refine aQ ?_
    rw [aNl, key, aNi, kS]
    unfold nE
    by_cases h60 : s.a0.length > 60
    · rw [if_pos h60, if_pos (by simp; omega)]
    · rw [if_neg h60, if_neg (by simp; omega)]
  refine aQ ?_
  rw [aMv, k2, fK]
theorem nD (hs : bL s.l) : Dn F.aYM [.agg s.l, .leaf (.str n)] [] = some (.tup [.agg (gG s n).l, aJ (!decide (nE s n < 0))], []) := by
  refine aQ ?_
  rw [aLw, aOC hs, fK]
  by_cases h : nE s n < 0
  · have : gG s n = aE4 := by unfold gG; rw [if_pos h]
    rw [this]
    simp -implicitDefEqProofs only [h, decide_true, aD]
    rfl
  · obtain ⟨j, hj, y, hi, hy, iy⟩ := tM hs h
    have hn : ¬ ((j : Int) < 0) := by omega
    rw [aAr hi hy, hi]
    simp -implicitDefEqProofs only [hn, decide_false, aC, inI, hj, aP (fun e he => (hs.p.2.1 e he).len), bJ hj, hy, aG.rd_l]
    rfl
theorem aB7 : Dn F.aY5 [.leaf (.str n)] [] = some (aJ (wE n), []) := by
  refine aQ ?_
  rw [aKY]
  unfold wE
  simp -implicitDefEqProofs only [bF]
  cases n.toList == (ByteArray.mk #[73, 110, 116]).toList <;> cases n.toList == (ByteArray.mk #[70, 108, 111, 97, 116]).toList <;> cases n.toList == (ByteArray.mk #[83, 116, 114, 105, 110, 103]).toList <;> cases n.toList == (ByteArray.mk #[66, 111, 111, 108, 101, 97, 110]).toList <;> rfl
theorem mU (hs : bL s.l) : Dn F.aZF [.agg s.l, .leaf (.str n)] [] = some (aK (kL s n), []) := by
  refine aQ ?_
  rw [aMV, rJ hs, fK, aB7, bY]
  unfold kL
  by_cases h : nE s n < 0
  · have h' : ¬ nE s n ≥ 0 := by omega
    rw [if_pos h]
    simp -implicitDefEqProofs only [h', decide_false, aC]
    cases wE n <;> rfl
  · obtain ⟨j, hj, y, hi, hy, iy⟩ := tM hs h
    rw [if_neg h, aAr hi hy, hi]
    simp -implicitDefEqProofs only [show ((j : Nat) : Int) ≥ 0 by omega, inI, hj, aP (fun e he => (hs.p.2.1 e he).len), bJ hj, hy, atP]
def aUX (s : bK) (a b : ByteArray) : Bool :=
  if (a.toList == b.toList) = true then true
  else if (gG s b).a0 = 3 then ((gG s a).a0 == 2 || (gG s a).a0 == 3) && (gG s a).a4.any (at0 b)
  else if (gG s b).a0 = 4 then (gG s a).a0 == 2 && (gG s b).a4.any (at0 a)
  else false
theorem aNg (hs : bL s.l) : Dn F.aYU [.agg s.l, .leaf (.str a), .leaf (.str b)] [] = some (aJ (aUX s a b), []) := by
  have ia := (aCr (n := a) hs).p
  have ib := (aCr (n := b) hs).p
  have ca := iS (s := b) ia.2.2.1 ia.2.2.2.1
  have cb := iS (s := a) ib.2.2.1 ib.2.2.2.1
  refine aQ ?_
  rw [aK8, nD hs, nD hs]
  simp -implicitDefEqProofs only [rdR, rB, beq_self_eq_true, Bool.not_true, Bool.not_false, Bool.and_true, Bool.true_and, bT, bF, aG.va_l, ca, cb, kS]
  unfold aUX
  by_cases h1 : (a.toList == b.toList) = true
  · simp -implicitDefEqProofs only [h1, if_true]
  · rw [if_neg h1, if_neg h1]
    by_cases h3 : (gG s b).a0 = 3
    · rw [if_pos (by simpa using h3), if_pos h3]
      cases h2 : ((gG s a).a0 == 2) <;> cases h4 : ((gG s a).a0 == 3) <;> simp
    · rw [if_neg (by simpa using h3), if_neg h3]
      by_cases h4 : (gG s b).a0 = 4
      · rw [if_pos (by simpa using h4), if_pos h4]
        cases h2 : ((gG s a).a0 == 2) <;> simp
      · rw [if_neg (by simpa using h4), if_neg h4]
theorem aML (hs : bL s.l) : Dn F.aYK [.agg s.l, .leaf (.str a), .leaf (.str b)] [] = some (aJ (aUX s a b), []) := by
  have ia := (aCr (n := a) hs).p
  have ib := (aCr (n := b) hs).p
  have ca := kU (s := b) ia.2.2.1 ia.2.2.2.1
  have cb := kU (s := a) ib.2.2.1 ib.2.2.2.1
  refine aQ ?_
  rw [aJq, rJ hs, rJ hs]
  simp -implicitDefEqProofs only [fK, bF, jN]
  unfold aUX
  by_cases h1 : (a.toList == b.toList) = true
  · simp -implicitDefEqProofs only [h1, if_true, aD]
  rw [if_neg h1]
  simp -implicitDefEqProofs only [Bool.not_eq_true] at h1
  simp -implicitDefEqProofs only [h1, aC, aJf]
  by_cases ha : nE s a < 0
  · have : gG s a = aE4 := by unfold gG; rw [if_pos ha]
    simp [ha, this, aE4]
  by_cases hb : nE s b < 0
  · have : gG s b = aE4 := by unfold gG; rw [if_pos hb]
    simp [ha, hb, this, aE4]
  obtain ⟨j, hj, y, hi, hy, iy⟩ := tM hs ha
  obtain ⟨k, hk, z, hi', hz, iz⟩ := tM hs hb
  rw [aAr hi hy] at ca ⊢
  rw [aAr hi' hz] at cb ⊢
  have nj : ¬ ((j : Nat) : Int) < 0 := by omega
  have nk : ¬ ((k : Nat) : Int) < 0 := by omega
  clear ia ib
  simp -implicitDefEqProofs only [nj, nk, if_false, ha, hb, decide_false, aC, hi, hi', inI, hj, hk, aP (fun e he => (hs.p.2.1 e he).len), bJ hj, bJ hk, hy, hz, aG.rd_l, aIJ, ca, cb, bY, bT, bF, jN, kS]
  by_cases h3 : z.a0 = 3
  · have h4 : ¬ z.a0 = 4 := by omega
    rw [if_pos h3]
    cases h2 : (y.a0 == 2) <;> cases h5 : (y.a0 == 3) <;> simp [h3]
  · rw [if_neg h3]
    by_cases h4 : z.a0 = 4
    · rw [if_pos h4]
      cases h2 : (y.a0 == 2) <;> simp [h4]
    · rw [if_neg h4]
      simp [h3, h4]
end
theorem aRJ (s : bK) (hs : bL s.l) (k : Nat) : ∀ (x y : dR), x.a1.size + y.a1.size = k → x.a1.size ≤ maxLen → y.a1.size ≤ maxLen →
    ∃ b, bI Dn (lB s x y) = some (aJ b, []) ∧ Dn F.aY6 [.agg s.l, .agg x.l, .agg y.l] [] = some (aJ b, []) := by
  induction k using Nat.strongRecOn with
  | ind k ih =>
    intro x y hk h1 h2
    obtain ⟨n1, w1⟩ := x
    obtain ⟨n2, w2⟩ := y
    simp only at hk h1 h2
    have ih' : ∀ (v1 v2 : ByteArray), v1.size + v2.size < k → v1.size ≤ maxLen → v2.size ≤ maxLen → ∃ b, bI Dn (lB s ⟨n1, v1⟩ ⟨n2, v2⟩) = some (aJ b, []) ∧ Dn F.aY6 [.agg s.l, .agg (dR.l ⟨n1, v1⟩), .agg (dR.l ⟨n2, v2⟩)] [] = some (aJ b, []) :=
      fun v1 v2 hv g1 g2 => ih _ hv ⟨n1, v1⟩ ⟨n2, v2⟩ rfl g1 g2
    have sp := aJQ Dn s ⟨n1, w1⟩ ⟨n2, w2⟩
    have im : aU Tryz.prog Dn Hs bN F.aY6 [.agg s.l, .agg (dR.l ⟨n1, w1⟩), .agg (dR.l ⟨n2, w2⟩)] [] = _ := aK7 Dn s ⟨n1, w1⟩ ⟨n2, w2⟩
    have s33 : ∀ {w : ByteArray}, 0 < w.size → w.size ≤ maxLen → (((w.data.toList.getD (IntKind.i64.wrap ((w.size : Int) - 1)).toNat 0).toNat : Int) == 33) = iB w 33 := fun hp hw => aM5 33 (by omega) hp hw
    have s93 : ∀ {w : ByteArray}, 0 < w.size → w.size ≤ maxLen → (((w.data.toList.getD (IntKind.i64.wrap ((w.size : Int) - 1)).toNat 0).toNat : Int) == 93) = iB w 93 := fun hp hw => aM5 93 (by omega) hp hw
    have n33 : ∀ {w : ByteArray}, 0 < w.size → w.size ≤ maxLen → (((w.data.toList.getD (IntKind.i64.wrap ((w.size : Int) - 1)).toNat 0).toNat : Int) != 33) = !iB w 33 := fun hp hw => by rw [← s33 hp hw]; rfl
    have z0 : ∀ {w : ByteArray}, ¬ 0 < w.size → ∀ c, iB w c = false := fun h c => by unfold iB; simp [h]
    simp -implicitDefEqProofs only [aMg (x := ⟨n1, w1⟩) h1, aMg (x := ⟨n2, w2⟩) h2, rdR, rB, beq_self_eq_true, Bool.not_true, Bool.not_false, Bool.and_true, Bool.true_and, bT, bF, dR.va_l] at im
    cases e2 : iB w2 33 with
    | true =>
      have p2 := uS e2
      have q2 : ((w2.size : Nat) : Int) > 0 := by omega
      simp -implicitDefEqProofs only [q2, decide_true, bT, aD, aEx p2 h2, aH, s33 p2 h2, e2, aCC] at sp
      cases e1 : iB w1 33 with
      | false =>
        refine ⟨false, ?_, aQ ?_⟩
        · rw [sp]
          by_cases p1 : 0 < w1.size
          · have b1 : (((w1.size : Nat) : Int) == 0) = false := by rw [beq_eq_false_iff_ne]; omega
            simp -implicitDefEqProofs only [b1, bF, Bool.not_false, aD, aEx p1 h1, aH, n33 p1 h1, e1, yX]
          · have b1 : (((w1.size : Nat) : Int) == 0) = true := by rw [beq_iff_eq]; omega
            simp -implicitDefEqProofs only [b1, bF, Bool.not_true, aC, yX, aD]
        · rw [im]; simp -implicitDefEqProofs only [e1, e2, aD, aC]
      | true =>
        have p1 := uS e1
        have b1 : (((w1.size : Nat) : Int) == 0) = false := by rw [beq_eq_false_iff_ne]; omega
        obtain ⟨b, k1, k2⟩ := ih' (cut w1) (cut w2) (by rw [qC, qC]; omega) (by rw [qC]; omega) (by rw [qC]; omega)
        refine ⟨b, ?_, aQ ?_⟩
        · rw [sp]
          simp -implicitDefEqProofs only [b1, bF, Bool.not_false, Bool.not_true, aD, aC, aEx p1 h1, aH, n33 p1 h1, e1, yX, aIo p1 h1, aIo p2 h2, aII p1 h1, aII p2 h2, k1]
        · rw [im]; simp -implicitDefEqProofs only [e1, e2, aD, if_true, k2, bY]
    | false =>
      have sp1 : bI Dn (lB s ⟨n1, w1⟩ ⟨n2, w2⟩) = bI Dn (sT w1.size w2.size false s ⟨n1, w1⟩ ⟨n2, w2⟩) := by
        rw [sp]
        by_cases p2 : 0 < w2.size
        · have q2 : ((w2.size : Nat) : Int) > 0 := by omega
          simp -implicitDefEqProofs only [q2, decide_true, bT, aD, aEx p2 h2, aH, s33 p2 h2, e2]
        · have q2 : ¬ ((w2.size : Nat) : Int) > 0 := by omega
          simp -implicitDefEqProofs only [q2, decide_false, bT, aC]
      have sp2 : bI Dn (sT w1.size w2.size false s ⟨n1, w1⟩ ⟨n2, w2⟩) = bI Dn (sY w1.size w2.size (iB w1 33) s ⟨n1, w1⟩ ⟨n2, w2⟩) := by
        rw [aCC]
        by_cases p1 : 0 < w1.size
        · have q1 : ((w1.size : Nat) : Int) > 0 := by omega
          simp -implicitDefEqProofs only [q1, decide_true, bT, aD, aC, aEx p1 h1, aH, s33 p1 h1]
        · have q1 : ¬ ((w1.size : Nat) : Int) > 0 := by omega
          simp -implicitDefEqProofs only [q1, decide_false, bT, aC, z0 p1]
      rw [sp1, sp2]
      cases e1 : iB w1 33 with
      | true =>
        have p1 := uS e1
        obtain ⟨b, k1, k2⟩ := ih' (cut w1) w2 (by rw [qC]; omega) (by rw [qC]; omega) h2
        refine ⟨b, ?_, aQ ?_⟩
        · rw [aCs]
          simp -implicitDefEqProofs only [aD, aIo p1 h1, aH, aII p1 h1, k1]
        · rw [im]; simp -implicitDefEqProofs only [e1, e2, aD, aC, if_true, k2, bY]
      | false =>
        have sp3 : bI Dn (sY w1.size w2.size false s ⟨n1, w1⟩ ⟨n2, w2⟩) = bI Dn (qG w1.size w2.size (iB w1 93 && iB w2 93) s ⟨n1, w1⟩ ⟨n2, w2⟩) := by
          rw [aCs]
          by_cases p1 : 0 < w1.size
          · have q1 : ((w1.size : Nat) : Int) > 0 := by omega
            by_cases p2 : 0 < w2.size
            · have q2 : ((w2.size : Nat) : Int) > 0 := by omega
              simp -implicitDefEqProofs only [q1, q2, decide_true, bT, aD, aC, aEx p1 h1, aEx p2 h2, aH, s93 p1 h1, s93 p2 h2]
              cases iB w1 93 <;> simp -implicitDefEqProofs only [aD, aC, Bool.true_and, Bool.false_and, if_true, Bool.false_eq_true, if_false]
            · have q2 : ¬ ((w2.size : Nat) : Int) > 0 := by omega
              simp -implicitDefEqProofs only [q1, q2, decide_true, decide_false, bT, aD, aC, z0 p2, Bool.and_false]
          · have q1 : ¬ ((w1.size : Nat) : Int) > 0 := by omega
            simp -implicitDefEqProofs only [q1, decide_false, bT, aC, z0 p1, Bool.false_and]
        have im2 : aU Tryz.prog Dn Hs bN F.aY6 [.agg s.l, .agg (dR.l ⟨n1, w1⟩), .agg (dR.l ⟨n2, w2⟩)] [] = lG Dn (xE (iB w1 93 && iB w2 93) s ⟨n1, w1⟩ ⟨n2, w2⟩ ⟨n1, if iB w1 93 = true then cut w1 else w1⟩ ⟨n2, if iB w2 93 = true then cut w2 else w2⟩) := by
          rw [im]
          simp -implicitDefEqProofs only [e1, e2, aC, bT]
          cases iB w1 93 <;> simp -implicitDefEqProofs only [aD, aC, Bool.true_and, Bool.false_and, if_true, Bool.false_eq_true, if_false]
        rw [sp3]
        cases hb : (iB w1 93 && iB w2 93) with
        | true =>
          obtain ⟨l1, l2⟩ : iB w1 93 = true ∧ iB w2 93 = true := by simpa using hb
          have p1 := uS l1
          have p2 := uS l2
          obtain ⟨b, k1, k2⟩ := ih' (cut w1) (cut w2) (by rw [qC, qC]; omega) (by rw [qC]; omega) (by rw [qC]; omega)
          refine ⟨b, ?_, aQ ?_⟩
          · rw [aCd]
            simp -implicitDefEqProofs only [aD, aIo p1 h1, aIo p2 h2, aH, aII p1 h1, aII p2 h2, k1]
          · rw [im2, hb, aCq]
            simp -implicitDefEqProofs only [aD, l1, l2, if_true, k2, bY]
        | false =>
          have c1 := aML (a := n1) (b := n2) hs
          have c2 := aNg (a := n1) (b := n2) hs
          refine ⟨((w1.size : Int) == 0) && (((w2.size : Int) == 0) && aUX s n1 n2), ?_, aQ ?_⟩
          · rw [aCd]
            simp -implicitDefEqProofs only [aC, bT, c1, bY]
            cases ((w1.size : Int) == 0) <;> cases ((w2.size : Int) == 0) <;> simp -implicitDefEqProofs only [aD, aC, Bool.true_and, Bool.false_and]
          · rw [im2, hb, aCq]
            simp -implicitDefEqProofs only [aC, bT, c2, bY, aUM]
            cases ((w1.size : Int) == 0) <;> cases ((w2.size : Int) == 0) <;> simp -implicitDefEqProofs only [aD, aC, Bool.true_and, Bool.false_and]
open Classical in
noncomputable def aTu (s : bK) (x y : dR) : Bool := if h : bL s.l ∧ x.a1.size ≤ maxLen ∧ y.a1.size ≤ maxLen then Classical.choose (aRJ s h.1 _ x y rfl h.2.1 h.2.2) else false
theorem aOr {s : bK} {x y : dR} (hs : bL s.l) (h1 : x.a1.size ≤ maxLen) (h2 : y.a1.size ≤ maxLen) : Dn F.aY0 [.agg s.l, .agg x.l, .agg y.l] [] = some (aJ (aTu s x y), []) := by
  have h : bL s.l ∧ x.a1.size ≤ maxLen ∧ y.a1.size ≤ maxLen := ⟨hs, h1, h2⟩
  refine aQ ?_
  rw [aLs]
  unfold aTu
  rw [dif_pos h]
  exact (Classical.choose_spec (aRJ s h.1 _ x y rfl h.2.1 h.2.2)).1
theorem aNA {s : bK} {x y : dR} (hs : bL s.l) (h1 : x.a1.size ≤ maxLen) (h2 : y.a1.size ≤ maxLen) : Dn F.aY6 [.agg s.l, .agg x.l, .agg y.l] [] = some (aJ (aTu s x y), []) := by
  have h : bL s.l ∧ x.a1.size ≤ maxLen ∧ y.a1.size ≤ maxLen := ⟨hs, h1, h2⟩
  unfold aTu
  rw [dif_pos h]
  exact (Classical.choose_spec (aRJ s h.1 _ x y rfl h.2.1 h.2.2)).2
end Go.Vs
end
section
open Go Go.Vs Go.Proofs
set_option linter.unusedVariables false
set_option linter.unusedSimpArgs false
namespace Go.Vs
def pb (code : Int) (o p : ByteArray) : El := [.int .i64 code, .str o, .str p]
theorem aRf {c : Int} {o p : ByteArray} : dP (pb c o p) := .mk _ _ _
theorem wS {q : Bool} {c : Int} {o p : ByteArray} : ∀ e ∈ ifP q (pb c o p), dP e := fun e he => by obtain ⟨_, rfl⟩ := aSR he; exact aRf
theorem gI {a b : List El} (ha : ∀ e ∈ a, dP e) (hb : ∀ e ∈ b, dP e) : ∀ e ∈ a ++ b, dP e := fun e he => (List.mem_append.1 he).elim (ha e) (hb e)
theorem oL {g : Nat → El → List El} {l : List El} {i : Nat} (h : ∀ (j : Nat) (x : El), ∀ e ∈ g j x, dP e) : ∀ e ∈ eK g i l, dP e := fun e he => by
  obtain ⟨j, hj, hx⟩ := aO2 l i he
  exact h _ _ e hx
theorem nU {out : List El} {z : Nat} (ho : out.length + 1 ≤ 1000000000) (hz : z ≤ 100) : decide ((out.length + 1) * z ≤ aO) = true := aP2 (by omega) hz
theorem aAR {q : Bool} {c : Int} {o p : ByteArray} {out : List El} (ho : out.length + 1 ≤ 1000000000) : Dn F.aXE [.ptr 0 0, .leaf (.bool q), aK c, .leaf (.str o), .leaf (.str p)] [[.own (some T.aY2) out]] =
    some (.tup [], [[.own (some T.aY2) (out ++ ifP q (pb c o p))]]) := by
  refine aQ ?_
  rw [aFD]
  cases q
  · simp -implicitDefEqProofs only [aC, eC, List.append_nil]
  · simp -implicitDefEqProofs only [aD, eH, nU (z := 40) ho (by decide), Bool.and_true, aH]; rfl
theorem aNQ {l out : List El} (hl : ∀ e ∈ l, dP e) (ho : out.length + l.length ≤ 1000000000) : Dn F.aXN [.ptr 0 0, .leaf (.sl fP l)] [[.own (some T.aY2) out]] =
    some (.tup [], [[.own (some T.aY2) (out ++ l)]]) := by
  refine aQ ?_
  rw [aFy]
  simp -implicitDefEqProofs only [aP2 (z := 40) (show out.length + l.length ≤ 1000000000000 by omega) (by decide), aP (fun e he => (hl e he).len), Bool.and_self, aH]
def sP (x : aG) : Bool := decide ((x.a4.length : Int) > 100) || (decide ((x.a5.length : Int) > 100) || (decide ((x.a6.length : Int) > 100) || (decide ((x.a7.length : Int) > 100) || x.a5.any fun f => decide (((sJ f 2).length : Int) > 100))))
theorem gT {x : aG} (h : sP x = false) : x.a4.length ≤ 100 ∧ x.a5.length ≤ 100 ∧ x.a6.length ≤ 100 ∧ x.a7.length ≤ 100 ∧ ∀ f ∈ x.a5, (sJ f 2).length ≤ 100 := by
  unfold sP at h
  simp -implicitDefEqProofs only [Bool.or_eq_false_iff, decide_eq_false_iff_not, List.any_eq_false, decide_eq_true_eq] at h
  obtain ⟨h1, h2, h3, h4, h5⟩ := h
  exact ⟨by omega, by omega, by omega, by omega, fun f hf => by have := h5 f hf; omega⟩
theorem aCY {x : aG} (hx : eA x.l) : Dn F.aZl [.agg x.l] [] = some (aJ (sP x), []) := by
  obtain ⟨_, _, _, _, hl, hq, _⟩ := hx.p
  refine aQ ?_
  rw [aMB]
  have := aJt (es := x.a5) (p := fun f => decide (((sJ f 2).length : Int) > 100)) (A := fun i => mN Dn (aAl i x)) (yes := some (aJ true, []))
    (no := some (aJ (decide ((x.a4.length : Int) > 100) || (decide ((x.a5.length : Int) > 100) || (decide ((x.a6.length : Int) > 100) || decide ((x.a7.length : Int) > 100)))), [])) (by
      rw [aDW]
      simp -implicitDefEqProofs only [Int.lt_irrefl, decide_false, aC, bF, jN]
      cases decide ((x.a4.length : Int) > 100) <;> cases decide ((x.a5.length : Int) > 100) <;> cases decide ((x.a6.length : Int) > 100) <;> rfl) fun i hi => by
    obtain ⟨y, hy, _⟩ := (hq _ (List.getElem_mem hi)).st
    rw [aDW]
    simp -implicitDefEqProofs only [inI, hi, aX (Nat.lt_of_lt_of_le hi hl), aP (fun e he => (hq e he).len), bJ hi, hy, atP]
    rfl
  rw [this]
  unfold sP
  cases hb : x.a5.any fun f => decide (((sJ f 2).length : Int) > 100)
  · simp -implicitDefEqProofs only [Bool.false_eq_true, if_false, Bool.or_false]
  · simp -implicitDefEqProofs only [if_true, Bool.or_true]
theorem aBM {x : aG} (hx : eA x.l) : Dn F.aY7 [.agg x.l] [] = some (aJ (sP x), []) := by
  obtain ⟨_, _, _, _, hl, hq, _⟩ := hx.p
  have key : Dn F.aW9 [vsl x.a5, .fn F.aYi []] [] = some (aK (iK (fun f => decide (((sJ f 2).length : Int) > 100)) 0 x.a5), []) := by
    refine aQ ?_
    rw [mA]
    refine nA (es := x.a5) (A := fun i => bU Dn (dL x.a5 F.aYi x.a5.length i)) (by rw [fT]; simp) fun i hi => ?_
    obtain ⟨y, hy, _⟩ := (hq _ (List.getElem_mem hi)).st
    have hc : Dn F.aYi [.agg y.l] [] = some (aJ (decide ((y.a2.length : Int) > 100)), []) := aQ (aIr ..)
    rw [fT]
    simp -implicitDefEqProofs only [inI, hi, aX (Nat.lt_of_lt_of_le hi hl), aP (fun e he => (hq e he).len), bJ hi, hy, bQ.rd_l, hc, aBr]
    rfl
  have k2 : Dn F.aW7 [vsl x.a5, .fn F.aYi []] [] = some (aJ (x.a5.any fun f => decide (((sJ f 2).length : Int) > 100)), []) := by
    refine aQ ?_
    rw [lF, key, aGc, oB _ _ _ (by omega)]
  refine aQ ?_
  rw [aLz]
  unfold sP
  simp -implicitDefEqProofs only [aJX, k2, aBr, bF, jN]
  cases decide ((x.a4.length : Int) > 100) <;> cases decide ((x.a5.length : Int) > 100) <;> cases decide ((x.a6.length : Int) > 100) <;> cases decide ((x.a7.length : Int) > 100) <;> rfl
def aRV (m : List El) (a : El) : Bool := if iK (at0 (bM a 0)) 0 m < 0 then true else !(bM (m.getD (iK (at0 (bM a 0)) 0 m).toNat []) 2 == bM a 2 && (bM (m.getD (iK (at0 (bM a 0)) 0 m).toNat []) 3 == bM a 3 && true))
def aTa (nm : ByteArray) (mine own : bQ) (a : El) : List El := ifP (aRV mine.a2 a) (pb 11 nm own.a0)
def aSA (nm : ByteArray) (own : bQ) (e : El) : List El := ifP (decide (iK (at0 (bM e 0)) 0 own.a2 < 0)) (pb 11 nm own.a0)
def aRE (nm : ByteArray) (mine own : bQ) : List El := eK (fun _ => aTa nm mine own) 0 own.a2 ++ eK (fun _ => aSA nm own) 0 (yT mine.a2)
theorem aUU (nm : ByteArray) (mine own : bQ) : (aRE nm mine own).length ≤ own.a2.length + mine.a2.length := by
  unfold aRE
  have h1 := kT (g := fun _ => aTa nm mine own) (c := 1) own.a2 0 fun j hj => cH _ _
  have h2 := kT (g := fun _ => aSA nm own) (c := 1) (yT mine.a2) 0 fun j hj => cH _ _
  have h3 := aDi mine.a2
  rw [List.length_append]; omega
theorem aUx {nm : ByteArray} {mine own : bQ} : ∀ e ∈ aRE nm mine own, dP e := gI (oL fun j x => wS) (oL fun j x => wS)
theorem aNe {nm : ByteArray} {m o : bQ} {out : List El} (hm : cK m.l) (ho : cK o.l) (lm : m.a2.length ≤ 1048576) (lo : o.a2.length ≤ 1048576) (hN : out.length ≤ 900000000) :
    Dn F.aYT [.leaf (.str nm), .agg m.l, .agg o.l, .own (some T.aY2) out] [] = some (.own (some T.aY2) (out ++ aRE nm m o), []) := by
  have hml : (1048576 : Nat) ≤ maxLen := by decide
  obtain ⟨_, _, _, qm, _⟩ := hm.p
  obtain ⟨_, _, _, qo, _⟩ := ho.p
  have lreq := aDi m.a2
  refine aQ ?_
  rw [aHz]
  unfold aRE
  rw [← List.append_assoc]
  refine hX (es := o.a2) (g := fun _ => aTa nm m o) (c := 1) (N := 910000000) (A := fun out i => bH Dn (oS nm out i m o))
    (fin := fun out => some (.own (some T.aY2) (out ++ eK (fun _ => aSA nm o) 0 (yT m.a2)), [])) (fun j hj => cH _ _) (fun out1 ho1 => ?_) (fun i hi out1 ho1 => ?_) (by omega)
  · rw [aAs]
    simp -implicitDefEqProofs only [Int.lt_irrefl, decide_false, aC, aCw lm qm, kJ]
    refine hX (es := yT m.a2) (g := fun _ => aSA nm o) (c := 1) (N := 920000000) (A := fun out i => bH Dn (sD nm out (yT m.a2) i o))
      (fin := fun out => some (.own (some T.aY2) out, [])) (fun j hj => cH _ _) (fun out2 ho2 => by rw [aAT]; simp) (fun i hi out2 ho2 => ?_) (by omega)
    obtain ⟨u, hu, _⟩ := zL qm _ (List.getElem_mem hi)
    have hw := aX (Nat.lt_of_lt_of_le hi (Nat.le_trans lreq (Nat.le_trans lm hml)))
    rw [aAT, hu]
    simp -implicitDefEqProofs only [inI, hi, aP (fun e he => (zL qm e he).len), bJ hi, hu, uB, aCo (s := u) (Nat.le_trans lo hml) qo, fK]
    unfold aSA
    rw [show bM [aF.str u] 0 = u from rfl]
    cases decide (iK (at0 u) 0 o.a2 < 0) <;> simp -implicitDefEqProofs only [aD, aC, eH, eC, List.append_nil, nU (z := 40) (show out2.length + 1 ≤ 1000000000 by omega) (by decide), Bool.and_true, aH, aGu, hw] <;> rfl
  · obtain ⟨a, ha, _⟩ := (qo _ (List.getElem_mem hi)).st
    have hw := aX (Nat.lt_of_lt_of_le hi (Nat.le_trans lo hml))
    have step : ∀ b : Bool, bH Dn (sA nm out1 i b m o) = bH Dn (oS nm (out1 ++ ifP b (pb 11 nm o.a0)) ((i + 1 : Nat) : Int) m o) := fun b => by
      rw [aFO]
      cases b <;> simp -implicitDefEqProofs only [aD, aC, eH, eC, List.append_nil, nU (z := 40) (show out1.length + 1 ≤ 1000000000 by omega) (by decide), Bool.and_true, aH, aFN, hw] <;> rfl
    rw [aAs, ha]
    simp -implicitDefEqProofs only [inI, hi, aP (fun e he => (qo e he).len), bJ hi, ha, eJ, atP, aCo (s := a.a0) (Nat.le_trans lm hml) qm, fK, step]
    unfold aTa aRV
    rw [show bM a.l 0 = a.a0 from rfl, show bM a.l 2 = a.a2 from rfl, show bM a.l 3 = a.a3 from rfl]
    by_cases h : iK (at0 a.a0) 0 m.a2 < 0
    · simp -implicitDefEqProofs only [h, decide_true, show (true == false) = false from rfl, aC, if_true]
    · obtain ⟨j, hj, hi2, _⟩ := yK h
      obtain ⟨y, hy, _⟩ := (qm _ (List.getElem_mem hj)).st
      have hn : ¬ ((j : Int) < 0) := by omega
      rw [hi2]
      simp -implicitDefEqProofs only [hn, decide_false, beq_self_eq_true, aD, if_false, inI, hj, aP (fun e he => (qm e he).len), bJ hj, hy, atP]
      rfl
noncomputable def aFq (s : bK) (d : aG) (own : bQ) : List El :=
  if (decide (iK (at0 own.a0) 0 d.a5 < 0) || !aTu s ⟨(qM d.a5 own.a0).a3, (qM d.a5 own.a0).a4⟩ ⟨own.a3, own.a4⟩) = true then [pb 10 d.a3 own.a0] else aRE d.a3 (qM d.a5 own.a0) own
theorem aQU {s : bK} {d : aG} {own : bQ} : ∀ e ∈ aFq s d own, dP e := by
  unfold aFq
  split
  · intro e he; rw [List.mem_singleton.1 he]; exact aRf
  · exact aUx
theorem aNm {es : List El} {s : ByteArray} {k : Nat} (hq : ∀ e ∈ es, cK e) (h : ∀ f ∈ es, (sJ f 2).length ≤ k) : (qM es s).a2.length ≤ k := by
  unfold qM
  split
  · exact Nat.zero_le _
  · rename_i h'
    obtain ⟨j, hj, hi, _⟩ := yK h'
    obtain ⟨y, hy, _⟩ := (hq _ (List.getElem_mem hj)).st
    have := h _ (List.getElem_mem hj)
    rw [hy] at this
    rw [hi, Int.toNat_natCast, bJ hj, hy]
    exact this
theorem aNN {s : bK} {d : aG} {own : bQ} (hd : eA d.l) (bd : sP d = false) (bo : own.a2.length ≤ 100) : (aFq s d own).length ≤ 200 := by
  unfold aFq
  split
  · simp
  · have h1 := aUU d.a3 (qM d.a5 own.a0) own
    have h2 := aNm (s := own.a0) hd.p.2.2.2.2.2.1 (gT bd).2.2.2.2
    omega
section
variable {s : bK} {d x : aG}
theorem aQ0 (hs : bL s.l) (hd : eA d.l) (hx : eA x.l) (bd : sP d = false) (bx : sP x = false) :
    Dn F.aXr [.agg s.l, .agg d.l, .agg x.l] [] = some (.own (some T.aY2) (eK (fun _ e => aFq s d (.of e)) 0 x.a5), []) := by
  have hml : (1048576 : Nat) ≤ maxLen := by decide
  obtain ⟨_, _, _, _, hl, hq, _⟩ := hx.p
  obtain ⟨_, _, _, _, hld, hqd, _⟩ := hd.p
  have big := (gT bx).2.2.2.2
  have hl100 := (gT bx).2.1
  refine aQ ?_
  rw [aBJ]
  refine wO (es := x.a5) (g := fun _ e => aFq s d (.of e)) (c := 200) (N := 900000000) (A := fun out i => aN Dn (eI x.a5 x.a5.length i s d out))
    (fin := fun out => some (.own (some T.aY2) out, [])) (fun j hj => ?_) (fun out _ => by rw [rZ]; simp) (fun i hi out ho => ?_) (by omega)
  · obtain ⟨y, hy, _⟩ := (hq _ (List.getElem_mem hj)).st
    have := big _ (List.getElem_mem hj)
    rw [hy] at this ⊢
    exact aNN hd bd this
  obtain ⟨y, hy, iy⟩ := (hq _ (List.getElem_mem hi)).st
  have by100 := big _ (List.getElem_mem hi)
  rw [hy] at by100
  have by2 : y.a2.length ≤ 100 := by100
  have hw := aX (Nat.lt_of_lt_of_le hi hl)
  obtain ⟨_, _, ly, qy, ny3, ny4, _⟩ := iy.p
  have im := aVt (s := y.a0) hqd
  have lm : (qM d.a5 y.a0).a2.length ≤ 100 := aNm hqd (gT bd).2.2.2.2
  obtain ⟨_, _, _, qm, nm3, nm4, _⟩ := im.p
  have hsub := aNA (x := ⟨(qM d.a5 y.a0).a3, (qM d.a5 y.a0).a4⟩) (y := ⟨y.a3, y.a4⟩) hs nm4 ny4
  have two : ∀ out' : List El, aN Dn (kZ x.a5 x.a5.length i s d out') = aN Dn (eI x.a5 x.a5.length ((i + 1 : Nat) : Int) s d out') := fun out' => by rw [aBp, hw]
  have one : ∀ b : Bool, aN Dn (kW x.a5 x.a5.length i b s d y (qM d.a5 y.a0) out) =
      aN Dn (eI x.a5 x.a5.length ((i + 1 : Nat) : Int) s d (out ++ if b = true then [pb 10 d.a3 y.a0] else aRE d.a3 (qM d.a5 y.a0) y)) := fun b => by
    rw [aBi]
    cases b with
    | true => simp -implicitDefEqProofs only [aD, aAR (out := out) (show out.length + 1 ≤ 1000000000 by omega), fV, two, if_true, eH]
    | false =>
      simp -implicitDefEqProofs only [aC, Bool.false_eq_true, if_false]
      have lreq := aDi (qM d.a5 y.a0).a2
      unfold aRE
      rw [← List.append_assoc]
      refine hX (es := y.a2) (g := fun _ => aTa d.a3 (qM d.a5 y.a0) y) (c := 1) (N := 910000000) (A := fun out k => aN Dn (kV x.a5 x.a5.length i y.a2 y.a2.length k s d y (qM d.a5 y.a0) out))
        (fin := fun out => aN Dn (eI x.a5 x.a5.length ((i + 1 : Nat) : Int) s d (out ++ eK (fun _ => aSA d.a3 y) 0 (yT (qM d.a5 y.a0).a2)))) (fun j hj => cH _ _) (fun out1 ho1 => ?_) (fun k hk out1 ho1 => ?_) (by omega)
      · rw [rO]
        simp -implicitDefEqProofs only [Int.lt_irrefl, decide_false, aC, aCM (es := (qM d.a5 y.a0).a2) (by omega) qm, kJ]
        refine hX (es := yT (qM d.a5 y.a0).a2) (g := fun _ => aSA d.a3 y) (c := 1) (N := 920000000) (A := fun out k => aN Dn (kX x.a5 x.a5.length i (yT (qM d.a5 y.a0).a2) (yT (qM d.a5 y.a0).a2).length k s d y out))
          (fin := fun out => aN Dn (eI x.a5 x.a5.length ((i + 1 : Nat) : Int) s d out)) (fun j hj => cH _ _) (fun out2 ho2 => by rw [sE]; simp -implicitDefEqProofs only [Int.lt_irrefl, decide_false, aC, two]) (fun k hk out2 ho2 => ?_) (by omega)
        obtain ⟨u, hu, _⟩ := zL qm _ (List.getElem_mem hk)
        have hwk := aX (i := k) (by omega)
        rw [sE, hu]
        simp -implicitDefEqProofs only [inI, hk, aP (fun e he => (zL qm e he).len), bJ hk, hu, uB, aCD (s := u) ly qy, fK, aAR (out := out2) (show out2.length + 1 ≤ 1000000000 by omega), fV, hwk]
        rfl
      · obtain ⟨a, ha, _⟩ := (qy _ (List.getElem_mem hk)).st
        have hwk := aX (i := k) (by omega)
        rw [rO, ha]
        simp -implicitDefEqProofs only [inI, hk, aP (fun e he => (qy e he).len), bJ hk, ha, bC.rd_l, aCD (s := a.a0) (es := (qM d.a5 y.a0).a2) (by omega) qm, fK, aAR (out := out1) (show out1.length + 1 ≤ 1000000000 by omega), fV, sG, hwk]
        unfold aTa aRV
        rw [show bM a.l 0 = a.a0 from rfl, show bM a.l 2 = a.a2 from rfl, show bM a.l 3 = a.a3 from rfl]
        by_cases h : iK (at0 a.a0) 0 (qM d.a5 y.a0).a2 < 0
        · simp -implicitDefEqProofs only [h, decide_true, show (true == false) = false from rfl, aC, if_true]
        · obtain ⟨j, hj, hi2, _⟩ := yK h
          obtain ⟨z, hz, _⟩ := (qm _ (List.getElem_mem hj)).st
          have hn : ¬ ((j : Int) < 0) := by omega
          have hmx : (if 0 < (j : Int) then (j : Int) else 0) = (j : Int) := by split <;> omega
          rw [hi2]
          simp -implicitDefEqProofs only [hn, decide_false, beq_self_eq_true, aD, if_false, if_true, hmx, inI, hj, aP (fun e he => (qm e he).len), bJ hj, hz, eJ, atP, aAR (out := out1) (show out1.length + 1 ≤ 1000000000 by omega), fV, sG, hwk]
          rfl
  rw [rZ, hy]
  simp -implicitDefEqProofs only [inI, hi, aP (fun e he => (hq e he).len), bJ hi, hy, bQ.rd_l, bQ.of_l, bQ.va_l, aOt hd, Option.bind_some, aOg, aNU, aRx, aOW, hsub, bY, one, Bool.not_not, bF]
  unfold aFq
  cases decide (iK (at0 y.a0) 0 d.a5 < 0) <;> simp -implicitDefEqProofs only [aD, aC, Bool.not_true, Bool.not_false, Bool.true_or, Bool.false_or]
end
end Go.Vs
end
section
open Go Go.Vs Go.Proofs
set_option linter.unusedVariables false
set_option linter.unusedSimpArgs false
namespace Go.Vs
theorem aLo {b : UInt8} : Dn F.aYp [.leaf (.int .u8 (b.toNat : Int))] [] = some (aJ (rQ b), []) := by
  refine aQ ?_
  rw [aIW]
  unfold rQ
  by_cases h : 48 ≤ b.toNat
  · have h1 : ((b.toNat : Nat) : Int) ≥ 48 := by omega
    have h2 : (((b.toNat : Nat) : Int) ≤ 57) = (b.toNat ≤ 57) := by simp; omega
    simp -implicitDefEqProofs only [h, h1, h2, decide_true, bT, aD, Bool.true_and]
  · have h1 : ¬ ((b.toNat : Nat) : Int) ≥ 48 := by omega
    simp -implicitDefEqProofs only [h, h1, decide_false, bT, aC, Bool.false_and]
theorem aVM {s : ByteArray} {i : Nat} (hi : i < s.data.toList.length) : s.data.toList.getD i 0 = s.data.toList[i] := by
  rw [List.getD_eq_getElem?_getD, List.getElem?_eq_getElem hi]; rfl
theorem aOK {s : ByteArray} (hs : s.size ≤ maxLen) {i : Nat} (hi : i ≤ s.size) : Dn F.aZI [.leaf (.str s), aK i] [] = some (aK ((i + uM (s.data.toList.drop i) : Nat) : Int), []) := by
  have hn := aHS s
  have key : ∀ i : Nat, i ≤ s.size → fY Dn (zW s i) = some (aK ((i + uM (s.data.toList.drop i) : Nat) : Int), []) := by
    refine cU ?_ ?_
    · rw [aDX, aDB]
      simp -implicitDefEqProofs only [Int.lt_irrefl, decide_false, bT, aC, ← hn, List.drop_length, uM, Nat.add_zero]
    · intro i hi ih
      have hi' : i < s.data.toList.length := by omega
      rw [aDX]
      simp -implicitDefEqProofs only [inI, hi, bT, aVM hi', aLo, bY, aDB, aX (Nat.lt_of_lt_of_le hi hs), ih]
      rw [List.drop_eq_getElem_cons hi', aTG]
      cases rQ s.data.toList[i]
      · simp -implicitDefEqProofs only [aC, Bool.false_eq_true, if_false, Nat.add_zero]
      · simp -implicitDefEqProofs only [aD, if_true]
        rw [show i + 1 + uM (s.data.toList.drop (i + 1)) = i + (uM (s.data.toList.drop (i + 1)) + 1) by omega]
  refine aQ ?_
  rw [aMt]
  exact key i hi
theorem aOB {s : ByteArray} (hs : s.size ≤ maxLen) (h0 : 0 < s.size) {k : Nat} (hk : k = if neg s.data.toList = true then 1 else 0) :
    Dn F.aZg [.leaf (.str s)] [] = some (aK ((if uM (s.data.toList.drop k) = 0 ∨ ((s.data.toList.drop k).head?.map (·.toNat) = some 48 ∧ 1 < uM (s.data.toList.drop k)) then 0 else k + uM (s.data.toList.drop k) : Nat) : Int), []) := by
  have hn := aHS s
  have hm : maxLen = 9223372036854775807 := rfl
  refine aQ ?_
  rw [aME]
  have hpos : (0 : Int) < (s.size : Int) := by omega
  have hpos' : (s.size : Int) > 0 := by omega
  cases hl : s.data.toList with
  | nil => rw [hl] at hn; simp at hn; omega
  | cons c r =>
    have hneg : ((((c :: r).getD (Int.toNat 0) 0).toNat : Int) == 45) = neg (c :: r) := by
      show ((c.toNat : Int) == 45) = decide (c.toNat = 45)
      rw [Bool.eq_iff_iff]; simp; omega
    have one : ∀ i : Nat, i = k → dW Dn (aAk s i) = some (aK ((if uM ((c :: r).drop k) = 0 ∨ (((c :: r).drop k).head?.map (·.toNat) = some 48 ∧ 1 < uM ((c :: r).drop k)) then 0 else k + uM ((c :: r).drop k) : Nat) : Int), []) := fun i hi => by
      subst hi
      have hi1 : i ≤ s.size := by subst hk; rw [hl] at hn ⊢; simp at hn; split <;> omega
      rw [aKM, aOK hs hi1, fK, hl]
      simp -implicitDefEqProofs only [aLa, bF, jN]
      by_cases hz : uM ((c :: r).drop i) = 0
      · simp -implicitDefEqProofs only [hz, Nat.add_zero, beq_self_eq_true, aD, true_or, if_true]
        rfl
      · have hne : (((i + uM ((c :: r).drop i) : Nat) : Int) == (i : Int)) = false := by rw [beq_eq_false_iff_ne]; omega
        have hlt : i < s.size := by
          rw [← hn, hl]
          exact Nat.lt_of_not_le fun h => hz (by rw [List.drop_of_length_le h]; rfl)
        have hlt' : i < (c :: r).length := by rw [← hl, hn]; exact hlt
        have hd : (c :: r).drop i = (c :: r)[i] :: (c :: r).drop (i + 1) := List.drop_eq_getElem_cons hlt'
        have hg : (c :: r).getD i 0 = (c :: r)[i] := by rw [List.getD_eq_getElem?_getD, List.getElem?_eq_getElem hlt']; rfl
        have hle := aM8 ((c :: r).drop i)
        simp -implicitDefEqProofs only [hne, aC, inI, hlt, hg, bT]
        have h48 : ((((c :: r)[i].toNat : Nat) : Int) == 48) = decide ((c :: r)[i].toNat = 48) := by rw [Bool.eq_iff_iff]; simp; omega
        rw [h48, aX (show i < maxLen by omega)]
        have hh : ((c :: r).drop i).head?.map (·.toNat) = some (c :: r)[i].toNat := by rw [hd]; rfl
        rw [hh]
        by_cases h4 : (c :: r)[i].toNat = 48
        · simp -implicitDefEqProofs only [h4, decide_true, aD, hz, false_or, true_and]
          by_cases h1 : 1 < uM ((c :: r).drop i)
          · have : ((i + uM ((c :: r).drop i) : Nat) : Int) > ((i + 1 : Nat) : Int) := by omega
            simp -implicitDefEqProofs only [this, decide_true, aD, h1, if_true]
            rfl
          · have : ¬ ((i + uM ((c :: r).drop i) : Nat) : Int) > ((i + 1 : Nat) : Int) := by omega
            simp -implicitDefEqProofs only [this, decide_false, aC, h1, if_false]
        · have : ¬ (some (c :: r)[i].toNat = some 48) := by simpa using h4
          simp -implicitDefEqProofs only [h4, decide_false, aC, hz, this, false_and, or_self, if_false]
    simp -implicitDefEqProofs only [hpos, hpos', decide_true, bT, aD, aH, hneg, aLF]
    rw [hl] at hk
    cases hb : neg (c :: r) with
    | true => rw [hb] at hk; simp -implicitDefEqProofs only [aD]; exact one 1 (by simp at hk; exact hk.symm)
    | false => rw [hb] at hk; simp -implicitDefEqProofs only [aC]; exact one 0 (by simp at hk; exact hk.symm)
theorem aQj {s : ByteArray} (hs : s.size ≤ maxLen) : Dn F.aZQ [.leaf (.str s)] [] = some (aJ (aFE s.data.toList), []) := by
  have hn := aHS s
  refine aQ ?_
  rw [aNo]
  by_cases h0 : 0 < s.size
  · have hne : s.data.toList ≠ [] := fun h => by rw [h] at hn; simp at hn; omega
    rw [aOB hs h0 rfl, fK, aUf s.data.toList _ rfl hne, hn]
    have h1 : (s.size : Int) > 0 := by omega
    have hq : ∀ q : Nat, (((q : Nat) : Int) == (s.size : Int)) = decide (q = s.size) := fun q => by rw [Bool.eq_iff_iff]; simp; omega
    have h40 : ((s.size : Int) ≤ 40) = (s.size ≤ 40) := by simp; omega
    simp -implicitDefEqProofs only [h1, h40, hq, decide_true, bT, aD]
    cases decide (s.size ≤ 40) <;> simp -implicitDefEqProofs only [aD, aC, Bool.true_and, Bool.false_and]
  · have hz : s.data.toList = [] := by cases hl : s.data.toList with | nil => rfl | cons c r => rw [hl] at hn; simp at hn; omega
    have h1 : ¬ (s.size : Int) > 0 := by omega
    simp -implicitDefEqProofs only [h1, decide_false, bT, aC, aMl, hz]
    rfl
def aLC (s : ByteArray) : Bool := aFE s.data.toList && aR9 s.data.toList
theorem aOT {s : ByteArray} (hs : s.size ≤ maxLen) : Dn F.aZD [.leaf (.str s)] [] = some (aJ (aLC s), []) := by
  have hn := aHS s
  have hm : maxLen = 9223372036854775807 := rfl
  refine aQ ?_
  rw [aMA, aQj hs, bY]
  unfold aLC
  simp -implicitDefEqProofs only [bF, Bool.not_not, aLG]
  cases hi : aFE s.data.toList with
  | false => simp -implicitDefEqProofs only [aC, aD, Bool.false_and]
  | true =>
    simp -implicitDefEqProofs only [aD, Bool.true_and]
    by_cases h11 : 11 < s.size
    · have h1 : (s.size : Int) > 11 := by omega
      simp -implicitDefEqProofs only [h1, decide_true, aD, aUi hi (show 11 < s.data.toList.length by omega)]
    · have h1 : ¬ (s.size : Int) > 11 := by omega
      simp -implicitDefEqProofs only [h1, decide_false, aC]
      have hi' := hi
      unfold aFE at hi'
      simp -implicitDefEqProofs only [Bool.and_eq_true, decide_eq_true_eq] at hi'
      obtain ⟨_, hne, hall, _⟩ := hi'
      have loop : ∀ (l : List UInt8) (i : Nat) (n : Nat), s.data.toList.drop i = l → l.all rQ = true → i ≤ s.size → (n + 1) * 10 ^ l.length ≤ 1000000000000 →
          dN Dn (pB s n i) = dN Dn (pB s (tJ n l) s.size) := by
        intro l
        induction l with
        | nil =>
          intro i n hd _ hi _
          have : s.data.toList.length ≤ i := by
            rcases Nat.lt_or_ge i s.data.toList.length with h | h
            · rw [List.drop_eq_getElem_cons h] at hd; cases hd
            · exact h
          have : i = s.size := by omega
          subst this
          rw [aKA]
        | cons c r ih =>
          intro i n hd hf hi hb
          have hlt : i < s.data.toList.length := by
            rcases Nat.lt_or_ge i s.data.toList.length with h | h
            · exact h
            · rw [List.drop_of_length_le h] at hd; cases hd
          have hlt' : i < s.size := by omega
          rw [List.drop_eq_getElem_cons hlt] at hd
          obtain ⟨hc, hr⟩ := List.cons.inj hd
          rw [List.all_cons, Bool.and_eq_true] at hf
          have hcf : 48 ≤ c.toNat ∧ c.toNat ≤ 57 := by simpa [rQ] using hf.1
          have hb' : (aAG n c + 1) * 10 ^ r.length ≤ 1000000000000 := by
            rw [List.length_cons, Nat.pow_succ, Nat.mul_comm (10 ^ r.length) 10, ← Nat.mul_assoc] at hb
            have : aAG n c + 1 ≤ (n + 1) * 10 := by unfold aAG; omega
            exact Nat.le_trans (Nat.mul_le_mul_right _ this) hb
          have hn1 : n + 1 ≤ 1000000000000 := by
            have h1 : 1 ≤ 10 ^ (c :: r).length := Nat.one_le_pow _ _ (by omega)
            have := Nat.mul_le_mul_left (n + 1) h1
            omega
          rw [wL, ← ih (i + 1) (aAG n c) hr hf.2 (by omega) hb', zG]
          have h45 : (((c.toNat : Nat) : Int) != 45) = true := by simp; omega
          have hv : IntKind.i64.wrap (IntKind.i64.wrap (IntKind.i64.wrap ((n : Int) * 10) + IntKind.i64.wrap ((c.toNat : Nat) : Int)) - 48) = ((aAG n c : Nat) : Int) := by
            rw [rM (z := (n : Int) * 10) (by omega) (by omega), rM (z := ((c.toNat : Nat) : Int)) (by omega) (by omega), rM (z := (n : Int) * 10 + ((c.toNat : Nat) : Int)) (by omega) (by omega), rM (by omega) (by omega)]
            unfold aAG; omega
          simp -implicitDefEqProofs only [inI, hlt', aVM hlt, hc, h45, hv, aDL, aX (Nat.lt_of_lt_of_le hlt' hs)]
      have start : dN Dn (pB s 0 0) = dN Dn (pB s (tJ 0 (sQ s.data.toList)) s.size) := by
        cases hl : s.data.toList with
        | nil => rw [hl] at hne; simp [sQ] at hne
        | cons c r =>
          have hlt : 0 < s.data.toList.length := by rw [hl]; simp
          have hlt' : 0 < s.size := by omega
          have hsz : r.length + 1 = s.size := by rw [← hn, hl]; rfl
          rw [hl] at hall
          by_cases hc : c.toNat = 45
          · have hd : sQ (c :: r) = r := by simp [sQ, hc]
            rw [hd] at hall ⊢
            rw [← loop r 1 0 (by rw [hl]; rfl) hall (by omega) (by
              have : 10 ^ r.length ≤ 10 ^ 10 := Nat.pow_le_pow_right (by omega) (by omega)
              have h10 : (10 : Nat) ^ 10 = 10000000000 := by decide
              omega), zG]
            have hpos : (0 : Int) < (s.size : Int) := by omega
            have hg : s.data.toList.getD (Int.toNat 0) 0 = c := by rw [hl]; rfl
            have h45 : (((c.toNat : Nat) : Int) != 45) = false := by simp; omega
            have hw : IntKind.i64.wrap ((0 : Int) + 1) = 1 := rM (by omega) (by omega)
            simp -implicitDefEqProofs only [hpos, hg, h45, decide_true, aD, aC, Int.le_refl, Bool.and_self, aH, aDL, hw]
            rfl
          · have hd : sQ (c :: r) = c :: r := by simp [sQ, hc]
            rw [hd] at hall ⊢
            have := loop (c :: r) 0 0 (by rw [hl]; rfl) hall (by omega) (by
              have : 10 ^ (c :: r).length ≤ 10 ^ 11 := Nat.pow_le_pow_right (by omega) (by simp; omega)
              have h10 : (10 : Nat) ^ 11 = 100000000000 := by decide
              omega)
            exact this
      rw [start, zG]
      have hpos' : 0 < s.size := by
        have : s.data.toList ≠ [] := fun h => by rw [h] at hne; simp [sQ] at hne
        have := List.length_pos_iff.2 this
        omega
      have hpos : (0 : Int) < (s.size : Int) := by omega
      have hneg : (((s.data.toList.getD (Int.toNat 0) 0).toNat : Int) == 45) = neg s.data.toList := by
        cases hl : s.data.toList with
        | nil => rw [hl] at hne; simp [sQ] at hne
        | cons c r =>
          show ((c.toNat : Int) == 45) = decide (c.toNat = 45)
          rw [Bool.eq_iff_iff]; simp; omega
      simp -implicitDefEqProofs only [Int.lt_irrefl, decide_false, aC, hpos, decide_true, aH, hneg]
      unfold aR9
      cases neg s.data.toList
      · have : (((tJ 0 (sQ s.data.toList) : Nat) : Int) ≤ 2147483647) = (tJ 0 (sQ s.data.toList) ≤ 2147483647) := by simp; omega
        simp -implicitDefEqProofs only [aC, Bool.false_eq_true, if_false, this]
      · have : (((tJ 0 (sQ s.data.toList) : Nat) : Int) ≤ 2147483648) = (tJ 0 (sQ s.data.toList) ≤ 2147483648) := by simp; omega
        simp -implicitDefEqProofs only [aD, if_true, this]
theorem aTj (s : ByteArray) : (aFE s.data.toList && f32 s) = aLC s := by
  unfold aLC f32
  cases h : aFE s.data.toList with
  | false => simp -implicitDefEqProofs only [Bool.false_and]
  | true => rw [aVy h]
theorem aOL {s : ByteArray} (hs : s.size ≤ 1048576) : Dn F.aZE [.leaf (.str s)] [] = some (aJ (aLC s), []) := by
  refine aRp (t := aRk) rfl ?_
  unfold aRk
  simp -implicitDefEqProofs only []
  rw [if_pos (by omega), aTj]
end Go.Vs
end
