/- What the program's functions compute, read off their text by the shadow runner (NTt, NTm0, NTm, NTr, VsEr, NTz, NTy, VsRaw, NLi, NLj, NLk, NLp, NLw, NLx, NLsc1); no condition. -/
import Derived.Laws.Strings
import Derived.Test.YtphfegkplihmhaaGreatDoorVB7
section
open Go Go.Vs Go.Proofs
set_option linter.unusedVariables false
set_option linter.unusedSimpArgs false
namespace Go.Vs
def aCI : FuncId → Bool := fun f => [F.aX7, F.aXQ, F.aX3, F.aW0, F.aWP, F.aXk, F.aXD, F.aXi, F.aX2, F.aXb, F.aXj, F.aY9, F.aYW, F.aZh, F.aYG, F.aY4, F.aYB, F.aXE, F.aXl, F.aXd, F.aW2, F.aYo, F.aXP, F.aY2, F.aYj, F.aX1, F.aZo, F.aYu, F.aXB, F.aYv, F.aYk, F.aXZ].contains f
noncomputable abbrev Dd : bK true := den Go.Proofs.Tryz.prog (aMu Dn aCI) Hs
theorem lL {f : FuncId} {a : List (SV true)} {b : List (List (SV true))} {r : SV true × List (List (SV true))} (hk : aCI f = true) (h : aT Go.Proofs.Tryz.prog Dd Hs bA f a b = some r) : Dd f a b = some r :=
  aMG (by simp only [aMu, hk]) h
theorem sK {f : FuncId} (hk : aCI f = false) {a : List (SV true)} {b : List (List (SV true))} {a' : List (SV false)} {b' : List (List (SV false))} {r' : SV false × List (List (SV false))} {r : SV true × List (List (SV true))}
    (h : Dn f a' b' = some r') (ha : a.map (reS er) = a') (hb : b.map (List.map (reS er)) = b') (hr : (reS li r'.1, r'.2.map (List.map (reS li))) = r) : Dd f a b = some r := aSd hk h ha hb hr
theorem aBk : dS Tryz.prog 3 = some 1 := by kernel_rfl
theorem aBD : dS Tryz.prog 4 = some 1 := by kernel_rfl
theorem aBj : dS Tryz.prog 9 = some 1 := by kernel_rfl
theorem aGf {c : Fl true} {es : List (List (aC false))} (hl : es.length ≤ 1048576) (hq : ∀ e ∈ es, jS e) : ∀ i : Nat, i ≤ es.length → ∀ z : List (SV true), z.length = (es.length - i) * 1 →
    gD Dd (oP c (reE (fl c) es) es.length i (fV (reE (fl aQ) es) i z)) = some (.leaf (.sl aQ (reE (fl aQ) es)), []) := by
  have hall : ∀ e ∈ reE (fl aQ) es, e.length = 1 := jU fun e he => (hq e he).len
  have hN : (reE (fl aQ) es).length = es.length := bX es
  have hC : (reE (fl c) es).length = es.length := bX es
  have hml : (1048576 : Nat) ≤ maxLen := by decide
  refine cF ?_ ?_
  · intro z hz
    have g1 := rL (z := z) hall
    have g2 := fE hall
    have g3 := fL (z := z) hall (Nat.le_refl _)
    rw [hN] at g1 g2 g3
    try rw [Nat.mul_one] at g1
    rw [vS]
    simp [g1, g2, g3, hC, SV.flatT, SV.flat, Fl.new]
  · intro i hi ih z hz
    have g3 := fL (z := z) hall (i := i) (by omega)
    have hp := nU (z := z) hall (i := i) (by omega)
    rw [vS]
    obtain ⟨s, he, hs⟩ := hq _ (List.getElem_mem hi)
    rw [vC, he] at hp
    simp only [reL, reF, List.map_cons, List.map_nil] at hp
    simp only [Int.ofNat_lt, hi, hC, decide_true, aE, Int.natCast_nonneg, Bool.and_true, Int.toNat_natCast, aG, aV (Nat.lt_of_lt_of_le hi (Nat.le_trans hl hml)), aN (jU (φ := fl c) fun e he => (hq e he).len), rU hi]
    rw [he]
    simp only [reL, reF, cJ, bJ]
    have hd' : (i + 1) * 1 ≤ es.length * 1 := Nat.mul_le_mul_right 1 hi
    have hg : (0 + i) * 1 + 1 ≤ (fV (reE (fl aQ) es) i z).length := by rw [g3, hz, Nat.sub_mul]; omega
    simp only [hg, decide_true, aG]
    rw [Nat.zero_add, hp]
    exact ih _ (by rw [List.length_drop, hz, Nat.sub_mul, Nat.sub_mul]; omega)
theorem aBF {c : Fl true} {es : List (List (aC false))} (hl : es.length ≤ 1048576) (hq : ∀ e ∈ es, jS e) : Dd F.aXB [.leaf (.sl c (reE (fl c) es))] [] = some (.leaf (.sl aQ (reE (fl aQ) es)), []) := by
  apply lL rfl
  have hb : aK = 140737488355328 := rfl
  rw [aFu]
  have hs : decide (es.length ≤ aK) = true := decide_eq_true (by omega)
  have hs2 : decide (es.length * 16 ≤ aK) = true := decide_eq_true (by omega)
  simp only [bX, Int.natCast_nonneg, Int.toNat_natCast, beq_self_eq_true, hs, hs2, decide_true, Bool.and_true, Bool.true_and, aG]
  exact aGf hl hq 0 (Nat.zero_le _) _ (by simp [List.length_flatten])
theorem aGN {c : Fl true} {ls : List (aC false)} (h : nD ls) : tL ls ≤ 1048576 → Dd F.aYv [.agg (reL (fl c) ls)] [] = some (.agg (reL (fl aQ) ls), []) := by
  cases h with
  | mk s0 s1 h0 h1 =>
    intro hb
    apply lL rfl
    simp only [reL, reF]
    rw [aJb]
    try simp []
theorem aHd {c : Fl true} {es : List (List (aC false))} (hl : es.length ≤ 1048576) (hq : ∀ e ∈ es, cS e) (hd : ∀ e ∈ es, Dd F.aYk [.agg (reL (fl c) e)] [] = some (.agg (reL (fl aQ) e), [])) : ∀ i : Nat, i ≤ es.length → ∀ z : List (SV true), z.length = (es.length - i) * 4 →
    gW Dd (pY c (reE (fl c) es) es.length i (fV (reE (fl aQ) es) i z)) = some (.leaf (.sl aQ (reE (fl aQ) es)), []) := by
  have hall : ∀ e ∈ reE (fl aQ) es, e.length = 4 := jU fun e he => (hq e he).len
  have hN : (reE (fl aQ) es).length = es.length := bX es
  have hC : (reE (fl c) es).length = es.length := bX es
  have hml : (1048576 : Nat) ≤ maxLen := by decide
  refine cF ?_ ?_
  · intro z hz
    have g1 := rL (z := z) hall
    have g2 := fE hall
    have g3 := fL (z := z) hall (Nat.le_refl _)
    rw [hN] at g1 g2 g3
    try rw [Nat.mul_one] at g1
    rw [yA]
    simp [g1, g2, g3, hC, SV.flatT, SV.flat, Fl.new]
  · intro i hi ih z hz
    have g3 := fL (z := z) hall (i := i) (by omega)
    have hp := nU (z := z) hall (i := i) (by omega)
    rw [yA]
    have hci := hd _ (List.getElem_mem hi)
    obtain ⟨i0, s1, e2, e3, he, h1, h2, q2, h3, q3⟩ := (hq _ (List.getElem_mem hi)).ex
    rw [vC, he] at hp
    simp only [reL, reF, List.map_cons, List.map_nil] at hp
    simp only [Int.ofNat_lt, hi, hC, decide_true, aE, Int.natCast_nonneg, Bool.and_true, Int.toNat_natCast, aG, aV (Nat.lt_of_lt_of_le hi (Nat.le_trans hl hml)), aN (jU (φ := fl c) fun e he => (hq e he).len), rU hi]
    rw [he] at hci ⊢
    simp only [reL, reF] at hci
    simp only [reL, reF, dV, cJ, cN, cB, bJ, cK, dZ, hci, Option.bind_some, fT, List.length_cons, List.length_nil, beq_self_eq_true, Nat.reduceAdd, Nat.reduceBEq, aG]
    have hd' : (i + 1) * 4 ≤ es.length * 4 := Nat.mul_le_mul_right 4 hi
    have hg : (0 + i) * 4 + 4 ≤ (fV (reE (fl aQ) es) i z).length := by rw [g3, hz, Nat.sub_mul]; omega
    simp only [hg, decide_true, aG]
    rw [Nat.zero_add, hp]
    exact ih _ (by rw [List.length_drop, hz, Nat.sub_mul, Nat.sub_mul]; omega)
theorem aHm {c : Fl true} {es : List (List (aC false))} (hl : es.length ≤ 1048576) (hq : ∀ e ∈ es, cS e) (hd : ∀ e ∈ es, Dd F.aYk [.agg (reL (fl c) e)] [] = some (.agg (reL (fl aQ) e), [])) : Dd F.aXZ [.leaf (.sl c (reE (fl c) es))] [] = some (.leaf (.sl aQ (reE (fl aQ) es)), []) := by
  apply lL rfl
  have hb : aK = 140737488355328 := rfl
  rw [aF8]
  have hs : decide (es.length ≤ aK) = true := decide_eq_true (by omega)
  have hs2 : decide (es.length * 72 ≤ aK) = true := decide_eq_true (by omega)
  simp only [bX, Int.natCast_nonneg, Int.toNat_natCast, beq_self_eq_true, hs, hs2, decide_true, Bool.and_true, Bool.true_and, aG]
  exact aHd hl hq hd 0 (Nat.zero_le _) _ (by simp [List.length_flatten])
theorem aE3 {c : Fl true} {ls : List (aC false)} (h : cS ls) : tL ls ≤ 1048576 → Dd F.aYk [.agg (reL (fl c) ls)] [] = some (.agg (reL (fl aQ) ls), []) := by
  induction h with
  | mk i0 s1 e2 e3 h1 h2 q2 h3 q3 ih2 =>
    intro hb
    apply lL rfl
    simp only [reL, reF]
    rw [aHy]
    have c2 := aHm (c := c) (show e2.length ≤ 1048576 by simp only [tL, tF] at hb; omega) q2 fun e he => ih2 e he (by have := aAm he; simp only [tL, tF] at hb; omega)
    have c3 := aBF (c := c) (show e3.length ≤ 1048576 by simp only [tL, tF] at hb; omega) q3
    try simp [c2, c3]
theorem aKq {c : Fl true} {es : List (List (aC false))} (hl : es.length ≤ 1048576) (hq : ∀ e ∈ es, gO e) (hd : ∀ e ∈ es, Dd F.aY9 [.agg (reL (fl c) e)] [] = some (.agg (reL (fl aQ) e), [])) : ∀ i : Nat, i ≤ es.length → ∀ z : List (SV true), z.length = (es.length - i) * 5 →
    jC Dd (sH c (reE (fl c) es) es.length i (fV (reE (fl aQ) es) i z)) = some (.leaf (.sl aQ (reE (fl aQ) es)), []) := by
  have hall : ∀ e ∈ reE (fl aQ) es, e.length = 5 := jU fun e he => (hq e he).len
  have hN : (reE (fl aQ) es).length = es.length := bX es
  have hC : (reE (fl c) es).length = es.length := bX es
  have hml : (1048576 : Nat) ≤ maxLen := by decide
  refine cF ?_ ?_
  · intro z hz
    have g1 := rL (z := z) hall
    have g2 := fE hall
    have g3 := fL (z := z) hall (Nat.le_refl _)
    rw [hN] at g1 g2 g3
    try rw [Nat.mul_one] at g1
    rw [aAz]
    simp [g1, g2, g3, hC, SV.flatT, SV.flat, Fl.new]
  · intro i hi ih z hz
    have g3 := fL (z := z) hall (i := i) (by omega)
    have hp := nU (z := z) hall (i := i) (by omega)
    rw [aAz]
    have hci := hd _ (List.getElem_mem hi)
    obtain ⟨s0, i1, s2, e3, e4, he, h0, h2, h3, q3, h4, q4⟩ := (hq _ (List.getElem_mem hi)).ex
    rw [vC, he] at hp
    simp only [reL, reF, List.map_cons, List.map_nil] at hp
    simp only [Int.ofNat_lt, hi, hC, decide_true, aE, Int.natCast_nonneg, Bool.and_true, Int.toNat_natCast, aG, aV (Nat.lt_of_lt_of_le hi (Nat.le_trans hl hml)), aN (jU (φ := fl c) fun e he => (hq e he).len), rU hi]
    rw [he] at hci ⊢
    simp only [reL, reF] at hci
    simp only [reL, reF, dV, cJ, cN, cB, bJ, cK, dZ, hci, Option.bind_some, fT, List.length_cons, List.length_nil, beq_self_eq_true, Nat.reduceAdd, Nat.reduceBEq, aG]
    have hd' : (i + 1) * 5 ≤ es.length * 5 := Nat.mul_le_mul_right 5 hi
    have hg : (0 + i) * 5 + 5 ≤ (fV (reE (fl aQ) es) i z).length := by rw [g3, hz, Nat.sub_mul]; omega
    simp only [hg, decide_true, aG]
    rw [Nat.zero_add, hp]
    exact ih _ (by rw [List.length_drop, hz, Nat.sub_mul, Nat.sub_mul]; omega)
theorem aJQ {c : Fl true} {es : List (List (aC false))} (hl : es.length ≤ 1048576) (hq : ∀ e ∈ es, gO e) (hd : ∀ e ∈ es, Dd F.aY9 [.agg (reL (fl c) e)] [] = some (.agg (reL (fl aQ) e), [])) : Dd F.aYW [.leaf (.sl c (reE (fl c) es))] [] = some (.leaf (.sl aQ (reE (fl aQ) es)), []) := by
  apply lL rfl
  have hb : aK = 140737488355328 := rfl
  rw [aIL]
  have hs : decide (es.length ≤ aK) = true := decide_eq_true (by omega)
  have hs2 : decide (es.length * 88 ≤ aK) = true := decide_eq_true (by omega)
  simp only [bX, Int.natCast_nonneg, Int.toNat_natCast, beq_self_eq_true, hs, hs2, decide_true, Bool.and_true, Bool.true_and, aG]
  exact aKq hl hq hd 0 (Nat.zero_le _) _ (by simp [List.length_flatten])
theorem aOQ {c : Fl true} {ls : List (aC false)} (h : gO ls) : tL ls ≤ 1048576 → Dd F.aY9 [.agg (reL (fl c) ls)] [] = some (.agg (reL (fl aQ) ls), []) := by
  cases h with
  | mk s0 i1 s2 e3 e4 h0 h2 h3 q3 h4 q4 =>
    intro hb
    apply lL rfl
    simp only [reL, reF]
    rw [aJz]
    have c1 := aE3 (c := c) (.mk i1 s2 e3 e4 h2 h3 q3 h4 q4) (by simp only [tL, tF] at hb ⊢; omega)
    simp only [reL, reF] at c1
    try simp [c1]
theorem aGI {c : Fl true} {es : List (List (aC false))} (hb : es.length + tE es ≤ 1048576) (hq : ∀ e ∈ es, gO e) : Dd F.aYW [.leaf (.sl c (reE (fl c) es))] [] = some (.leaf (.sl aQ (reE (fl aQ) es)), []) := aJQ (by omega) hq fun e he => aOQ (hq e he) (by have := aAm he; omega)
theorem aJu {c : Fl true} {es : List (List (aC false))} (hl : es.length ≤ 1048576) (hq : ∀ e ∈ es, eQ e) (hd : ∀ e ∈ es, Dd F.aY4 [.agg (reL (fl c) e)] [] = some (.agg (reL (fl aQ) e), [])) : ∀ i : Nat, i ≤ es.length → ∀ z : List (SV true), z.length = (es.length - i) * 2 →
    jD Dd (sB c (reE (fl c) es) es.length i (fV (reE (fl aQ) es) i z)) = some (.leaf (.sl aQ (reE (fl aQ) es)), []) := by
  have hall : ∀ e ∈ reE (fl aQ) es, e.length = 2 := jU fun e he => (hq e he).len
  have hN : (reE (fl aQ) es).length = es.length := bX es
  have hC : (reE (fl c) es).length = es.length := bX es
  have hml : (1048576 : Nat) ≤ maxLen := by decide
  refine cF ?_ ?_
  · intro z hz
    have g1 := rL (z := z) hall
    have g2 := fE hall
    have g3 := fL (z := z) hall (Nat.le_refl _)
    rw [hN] at g1 g2 g3
    try rw [Nat.mul_one] at g1
    rw [aAN]
    simp [g1, g2, g3, hC, SV.flatT, SV.flat, Fl.new]
  · intro i hi ih z hz
    have g3 := fL (z := z) hall (i := i) (by omega)
    have hp := nU (z := z) hall (i := i) (by omega)
    rw [aAN]
    have hci := hd _ (List.getElem_mem hi)
    obtain ⟨s0, e1, he, h0, h1, q1⟩ := (hq _ (List.getElem_mem hi)).ex
    rw [vC, he] at hp
    simp only [reL, reF, List.map_cons, List.map_nil] at hp
    simp only [Int.ofNat_lt, hi, hC, decide_true, aE, Int.natCast_nonneg, Bool.and_true, Int.toNat_natCast, aG, aV (Nat.lt_of_lt_of_le hi (Nat.le_trans hl hml)), aN (jU (φ := fl c) fun e he => (hq e he).len), rU hi]
    rw [he] at hci ⊢
    simp only [reL, reF] at hci
    simp only [reL, reF, dV, cJ, cN, cB, bJ, cK, dZ, hci, Option.bind_some, fT, List.length_cons, List.length_nil, beq_self_eq_true, Nat.reduceAdd, Nat.reduceBEq, aG]
    have hd' : (i + 1) * 2 ≤ es.length * 2 := Nat.mul_le_mul_right 2 hi
    have hg : (0 + i) * 2 + 2 ≤ (fV (reE (fl aQ) es) i z).length := by rw [g3, hz, Nat.sub_mul]; omega
    simp only [hg, decide_true, aG]
    rw [Nat.zero_add, hp]
    exact ih _ (by rw [List.length_drop, hz, Nat.sub_mul, Nat.sub_mul]; omega)
theorem aKy {c : Fl true} {es : List (List (aC false))} (hl : es.length ≤ 1048576) (hq : ∀ e ∈ es, eQ e) (hd : ∀ e ∈ es, Dd F.aY4 [.agg (reL (fl c) e)] [] = some (.agg (reL (fl aQ) e), [])) : Dd F.aYB [.leaf (.sl c (reE (fl c) es))] [] = some (.leaf (.sl aQ (reE (fl aQ) es)), []) := by
  apply lL rfl
  have hb : aK = 140737488355328 := rfl
  rw [aI6]
  have hs : decide (es.length ≤ aK) = true := decide_eq_true (by omega)
  have hs2 : decide (es.length * 40 ≤ aK) = true := decide_eq_true (by omega)
  simp only [bX, Int.natCast_nonneg, Int.toNat_natCast, beq_self_eq_true, hs, hs2, decide_true, Bool.and_true, Bool.true_and, aG]
  exact aJu hl hq hd 0 (Nat.zero_le _) _ (by simp [List.length_flatten])
theorem aO1 {c : Fl true} {ls : List (aC false)} (h : eQ ls) : tL ls ≤ 1048576 → Dd F.aY4 [.agg (reL (fl c) ls)] [] = some (.agg (reL (fl aQ) ls), []) := by
  cases h with
  | mk s0 e1 h0 h1 q1 =>
    intro hb
    apply lL rfl
    simp only [reL, reF]
    rw [aKb]
    have c1 := aGI (c := c) (show e1.length + tE e1 ≤ 1048576 by simp only [tL, tF] at hb; omega) q1
    try simp [c1]
theorem rP {c : Fl true} {es : List (List (aC false))} (hb : es.length + tE es ≤ 1048576) (hq : ∀ e ∈ es, eQ e) : Dd F.aYB [.leaf (.sl c (reE (fl c) es))] [] = some (.leaf (.sl aQ (reE (fl aQ) es)), []) := aKy (by omega) hq fun e he => aO1 (hq e he) (by have := aAm he; omega)
theorem aHP {c : Fl true} {es : List (List (aC false))} (hl : es.length ≤ 1048576) (hq : ∀ e ∈ es, dB e) (hd : ∀ e ∈ es, Dd F.aYo [.agg (reL (fl c) e)] [] = some (.agg (reL (fl aQ) e), [])) : ∀ i : Nat, i ≤ es.length → ∀ z : List (SV true), z.length = (es.length - i) * 10 →
    hQ Dd (pZ c (reE (fl c) es) es.length i (fV (reE (fl aQ) es) i z)) = some (.leaf (.sl aQ (reE (fl aQ) es)), []) := by
  have hall : ∀ e ∈ reE (fl aQ) es, e.length = 10 := jU fun e he => (hq e he).len
  have hN : (reE (fl aQ) es).length = es.length := bX es
  have hC : (reE (fl c) es).length = es.length := bX es
  have hml : (1048576 : Nat) ≤ maxLen := by decide
  refine cF ?_ ?_
  · intro z hz
    have g1 := rL (z := z) hall
    have g2 := fE hall
    have g3 := fL (z := z) hall (Nat.le_refl _)
    rw [hN] at g1 g2 g3
    try rw [Nat.mul_one] at g1
    rw [yF]
    simp [g1, g2, g3, hC, SV.flatT, SV.flat, Fl.new]
  · intro i hi ih z hz
    have g3 := fL (z := z) hall (i := i) (by omega)
    have hp := nU (z := z) hall (i := i) (by omega)
    rw [yF]
    have hci := hd _ (List.getElem_mem hi)
    obtain ⟨s0, s1, s2, s3, b4, i5, s6, e7, e8, e9, he, h0, h1, h2, h3, h6, h7, q7, h8, q8, h9, q9⟩ := (hq _ (List.getElem_mem hi)).ex
    rw [vC, he] at hp
    simp only [reL, reF, List.map_cons, List.map_nil] at hp
    simp only [Int.ofNat_lt, hi, hC, decide_true, aE, Int.natCast_nonneg, Bool.and_true, Int.toNat_natCast, aG, aV (Nat.lt_of_lt_of_le hi (Nat.le_trans hl hml)), aN (jU (φ := fl c) fun e he => (hq e he).len), rU hi]
    rw [he] at hci ⊢
    simp only [reL, reF] at hci
    simp only [reL, reF, dV, cJ, cN, cB, bJ, cK, dZ, hci, Option.bind_some, fT, List.length_cons, List.length_nil, beq_self_eq_true, Nat.reduceAdd, Nat.reduceBEq, aG]
    have hd' : (i + 1) * 10 ≤ es.length * 10 := Nat.mul_le_mul_right 10 hi
    have hg : (0 + i) * 10 + 10 ≤ (fV (reE (fl aQ) es) i z).length := by rw [g3, hz, Nat.sub_mul]; omega
    simp only [hg, decide_true, aG]
    rw [Nat.zero_add, hp]
    exact ih _ (by rw [List.length_drop, hz, Nat.sub_mul, Nat.sub_mul]; omega)
theorem aHU {c : Fl true} {es : List (List (aC false))} (hl : es.length ≤ 1048576) (hq : ∀ e ∈ es, dB e) (hd : ∀ e ∈ es, Dd F.aYo [.agg (reL (fl c) e)] [] = some (.agg (reL (fl aQ) e), [])) : Dd F.aXP [.leaf (.sl c (reE (fl c) es))] [] = some (.leaf (.sl aQ (reE (fl aQ) es)), []) := by
  apply lL rfl
  have hb : aK = 140737488355328 := rfl
  rw [aGk]
  have hs : decide (es.length ≤ aK) = true := decide_eq_true (by omega)
  have hs2 : decide (es.length * 168 ≤ aK) = true := decide_eq_true (by omega)
  simp only [bX, Int.natCast_nonneg, Int.toNat_natCast, beq_self_eq_true, hs, hs2, decide_true, Bool.and_true, Bool.true_and, aG]
  exact aHP hl hq hd 0 (Nat.zero_le _) _ (by simp [List.length_flatten])
theorem aMj {c : Fl true} {ls : List (aC false)} (h : dB ls) : tL ls ≤ 1048576 → Dd F.aYo [.agg (reL (fl c) ls)] [] = some (.agg (reL (fl aQ) ls), []) := by
  cases h with
  | mk s0 s1 s2 s3 b4 i5 s6 e7 e8 e9 h0 h1 h2 h3 h6 h7 q7 h8 q8 h9 q9 =>
    intro hb
    apply lL rfl
    simp only [reL, reF]
    rw [aHp]
    have c2 := aGN (c := c) (.mk s2 s3 h2 h3) (by simp only [tL, tF] at hb ⊢; omega)
    simp only [reL, reF] at c2
    have c5 := aE3 (c := c) (.mk i5 s6 e7 e8 h6 h7 q7 h8 q8) (by simp only [tL, tF] at hb ⊢; omega)
    simp only [reL, reF] at c5
    have c9 := rP (c := c) (show e9.length + tE e9 ≤ 1048576 by simp only [tL, tF] at hb; omega) q9
    try simp [c2, c5, c9]
theorem aDo {c : Fl true} {es : List (List (aC false))} (hb : es.length + tE es ≤ 1048576) (hq : ∀ e ∈ es, dB e) : Dd F.aXP [.leaf (.sl c (reE (fl c) es))] [] = some (.leaf (.sl aQ (reE (fl aQ) es)), []) := aHU (by omega) hq fun e he => aMj (hq e he) (by have := aAm he; omega)
theorem aEb {c : Fl true} {es : List (List (aC false))} (hl : es.length ≤ 1048576) (hq : ∀ e ∈ es, cC e) (hd : ∀ e ∈ es, Dd F.aXd [.agg (reL (fl c) e)] [] = some (.agg (reL (fl aQ) e), [])) : ∀ i : Nat, i ≤ es.length → ∀ z : List (SV true), z.length = (es.length - i) * 6 →
    eY Dd (mX c (reE (fl c) es) es.length i (fV (reE (fl aQ) es) i z)) = some (.leaf (.sl aQ (reE (fl aQ) es)), []) := by
  have hall : ∀ e ∈ reE (fl aQ) es, e.length = 6 := jU fun e he => (hq e he).len
  have hN : (reE (fl aQ) es).length = es.length := bX es
  have hC : (reE (fl c) es).length = es.length := bX es
  have hml : (1048576 : Nat) ≤ maxLen := by decide
  refine cF ?_ ?_
  · intro z hz
    have g1 := rL (z := z) hall
    have g2 := fE hall
    have g3 := fL (z := z) hall (Nat.le_refl _)
    rw [hN] at g1 g2 g3
    try rw [Nat.mul_one] at g1
    rw [tP]
    simp [g1, g2, g3, hC, SV.flatT, SV.flat, Fl.new]
  · intro i hi ih z hz
    have g3 := fL (z := z) hall (i := i) (by omega)
    have hp := nU (z := z) hall (i := i) (by omega)
    rw [tP]
    have hci := hd _ (List.getElem_mem hi)
    obtain ⟨s0, s1, e2, s3, s4, e5, he, h0, h1, h2, q2, h3, h4, h5, q5⟩ := (hq _ (List.getElem_mem hi)).ex
    rw [vC, he] at hp
    simp only [reL, reF, List.map_cons, List.map_nil] at hp
    simp only [Int.ofNat_lt, hi, hC, decide_true, aE, Int.natCast_nonneg, Bool.and_true, Int.toNat_natCast, aG, aV (Nat.lt_of_lt_of_le hi (Nat.le_trans hl hml)), aN (jU (φ := fl c) fun e he => (hq e he).len), rU hi]
    rw [he] at hci ⊢
    simp only [reL, reF] at hci
    simp only [reL, reF, dV, cJ, cN, cB, bJ, cK, dZ, hci, Option.bind_some, fT, List.length_cons, List.length_nil, beq_self_eq_true, Nat.reduceAdd, Nat.reduceBEq, aG]
    have hd' : (i + 1) * 6 ≤ es.length * 6 := Nat.mul_le_mul_right 6 hi
    have hg : (0 + i) * 6 + 6 ≤ (fV (reE (fl aQ) es) i z).length := by rw [g3, hz, Nat.sub_mul]; omega
    simp only [hg, decide_true, aG]
    rw [Nat.zero_add, hp]
    exact ih _ (by rw [List.length_drop, hz, Nat.sub_mul, Nat.sub_mul]; omega)
theorem aDV {c : Fl true} {es : List (List (aC false))} (hl : es.length ≤ 1048576) (hq : ∀ e ∈ es, cC e) (hd : ∀ e ∈ es, Dd F.aXd [.agg (reL (fl c) e)] [] = some (.agg (reL (fl aQ) e), [])) : Dd F.aW2 [.leaf (.sl c (reE (fl c) es))] [] = some (.leaf (.sl aQ (reE (fl aQ) es)), []) := by
  apply lL rfl
  have hb : aK = 140737488355328 := rfl
  rw [aCw]
  have hs : decide (es.length ≤ aK) = true := decide_eq_true (by omega)
  have hs2 : decide (es.length * 112 ≤ aK) = true := decide_eq_true (by omega)
  simp only [bX, Int.natCast_nonneg, Int.toNat_natCast, beq_self_eq_true, hs, hs2, decide_true, Bool.and_true, Bool.true_and, aG]
  exact aEb hl hq hd 0 (Nat.zero_le _) _ (by simp [List.length_flatten])
theorem aIJ {c : Fl true} {ls : List (aC false)} (h : cC ls) : tL ls ≤ 1048576 → Dd F.aXd [.agg (reL (fl c) ls)] [] = some (.agg (reL (fl aQ) ls), []) := by
  cases h with
  | mk s0 s1 e2 s3 s4 e5 h0 h1 h2 q2 h3 h4 h5 q5 =>
    intro hb
    apply lL rfl
    simp only [reL, reF]
    rw [aDR]
    have c2 := aDo (c := c) (show e2.length + tE e2 ≤ 1048576 by simp only [tL, tF] at hb; omega) q2
    have c3 := aGN (c := c) (.mk s3 s4 h3 h4) (by simp only [tL, tF] at hb ⊢; omega)
    simp only [reL, reF] at c3
    have c5 := rP (c := c) (show e5.length + tE e5 ≤ 1048576 by simp only [tL, tF] at hb; omega) q5
    try simp [c2, c3, c5]
theorem aG4 {c : Fl true} {es : List (List (aC false))} (hb : es.length + tE es ≤ 1048576) (hq : ∀ e ∈ es, cC e) : Dd F.aW2 [.leaf (.sl c (reE (fl c) es))] [] = some (.leaf (.sl aQ (reE (fl aQ) es)), []) := aDV (by omega) hq fun e he => aIJ (hq e he) (by have := aAm he; omega)
theorem aEw {c : Fl true} {es : List (List (aC false))} (hl : es.length ≤ 1048576) (hq : ∀ e ∈ es, cX e) (hd : ∀ e ∈ es, Dd F.aXE [.agg (reL (fl c) e)] [] = some (.agg (reL (fl aQ) e), [])) : ∀ i : Nat, i ≤ es.length → ∀ z : List (SV true), z.length = (es.length - i) * 3 →
    fN Dd (nO c (reE (fl c) es) es.length i (fV (reE (fl aQ) es) i z)) = some (.leaf (.sl aQ (reE (fl aQ) es)), []) := by
  have hall : ∀ e ∈ reE (fl aQ) es, e.length = 3 := jU fun e he => (hq e he).len
  have hN : (reE (fl aQ) es).length = es.length := bX es
  have hC : (reE (fl c) es).length = es.length := bX es
  have hml : (1048576 : Nat) ≤ maxLen := by decide
  refine cF ?_ ?_
  · intro z hz
    have g1 := rL (z := z) hall
    have g2 := fE hall
    have g3 := fL (z := z) hall (Nat.le_refl _)
    rw [hN] at g1 g2 g3
    try rw [Nat.mul_one] at g1
    rw [vI]
    simp [g1, g2, g3, hC, SV.flatT, SV.flat, Fl.new]
  · intro i hi ih z hz
    have g3 := fL (z := z) hall (i := i) (by omega)
    have hp := nU (z := z) hall (i := i) (by omega)
    rw [vI]
    have hci := hd _ (List.getElem_mem hi)
    obtain ⟨s0, s1, e2, he, h0, h1, h2, q2⟩ := (hq _ (List.getElem_mem hi)).ex
    rw [vC, he] at hp
    simp only [reL, reF, List.map_cons, List.map_nil] at hp
    simp only [Int.ofNat_lt, hi, hC, decide_true, aE, Int.natCast_nonneg, Bool.and_true, Int.toNat_natCast, aG, aV (Nat.lt_of_lt_of_le hi (Nat.le_trans hl hml)), aN (jU (φ := fl c) fun e he => (hq e he).len), rU hi]
    rw [he] at hci ⊢
    simp only [reL, reF] at hci
    simp only [reL, reF, dV, cJ, cN, cB, bJ, cK, dZ, hci, Option.bind_some, fT, List.length_cons, List.length_nil, beq_self_eq_true, Nat.reduceAdd, Nat.reduceBEq, aG]
    have hd' : (i + 1) * 3 ≤ es.length * 3 := Nat.mul_le_mul_right 3 hi
    have hg : (0 + i) * 3 + 3 ≤ (fV (reE (fl aQ) es) i z).length := by rw [g3, hz, Nat.sub_mul]; omega
    simp only [hg, decide_true, aG]
    rw [Nat.zero_add, hp]
    exact ih _ (by rw [List.length_drop, hz, Nat.sub_mul, Nat.sub_mul]; omega)
theorem aFr {c : Fl true} {es : List (List (aC false))} (hl : es.length ≤ 1048576) (hq : ∀ e ∈ es, cX e) (hd : ∀ e ∈ es, Dd F.aXE [.agg (reL (fl c) e)] [] = some (.agg (reL (fl aQ) e), [])) : Dd F.aXl [.leaf (.sl c (reE (fl c) es))] [] = some (.leaf (.sl aQ (reE (fl aQ) es)), []) := by
  apply lL rfl
  have hb : aK = 140737488355328 := rfl
  rw [aDP]
  have hs : decide (es.length ≤ aK) = true := decide_eq_true (by omega)
  have hs2 : decide (es.length * 56 ≤ aK) = true := decide_eq_true (by omega)
  simp only [bX, Int.natCast_nonneg, Int.toNat_natCast, beq_self_eq_true, hs, hs2, decide_true, Bool.and_true, Bool.true_and, aG]
  exact aEw hl hq hd 0 (Nat.zero_le _) _ (by simp [List.length_flatten])
theorem aJ3 {c : Fl true} {ls : List (aC false)} (h : cX ls) : tL ls ≤ 1048576 → Dd F.aXE [.agg (reL (fl c) ls)] [] = some (.agg (reL (fl aQ) ls), []) := by
  cases h with
  | mk s0 s1 e2 h0 h1 h2 q2 =>
    intro hb
    apply lL rfl
    simp only [reL, reF]
    rw [aEe]
    have c2 := rP (c := c) (show e2.length + tE e2 ≤ 1048576 by simp only [tL, tF] at hb; omega) q2
    try simp [c2]
theorem aIA {c : Fl true} {es : List (List (aC false))} (hb : es.length + tE es ≤ 1048576) (hq : ∀ e ∈ es, cX e) : Dd F.aXl [.leaf (.sl c (reE (fl c) es))] [] = some (.leaf (.sl aQ (reE (fl aQ) es)), []) := aFr (by omega) hq fun e he => aJ3 (hq e he) (by have := aAm he; omega)
theorem aIk {c : Fl true} {es : List (List (aC false))} (hl : es.length ≤ 1048576) (hq : ∀ e ∈ es, eV e) (hd : ∀ e ∈ es, Dd F.aY2 [.agg (reL (fl c) e)] [] = some (.agg (reL (fl aQ) e), [])) : ∀ i : Nat, i ≤ es.length → ∀ z : List (SV true), z.length = (es.length - i) * 2 →
    iL Dd (qQ c (reE (fl c) es) es.length i (fV (reE (fl aQ) es) i z)) = some (.leaf (.sl aQ (reE (fl aQ) es)), []) := by
  have hall : ∀ e ∈ reE (fl aQ) es, e.length = 2 := jU fun e he => (hq e he).len
  have hN : (reE (fl aQ) es).length = es.length := bX es
  have hC : (reE (fl c) es).length = es.length := bX es
  have hml : (1048576 : Nat) ≤ maxLen := by decide
  refine cF ?_ ?_
  · intro z hz
    have g1 := rL (z := z) hall
    have g2 := fE hall
    have g3 := fL (z := z) hall (Nat.le_refl _)
    rw [hN] at g1 g2 g3
    try rw [Nat.mul_one] at g1
    rw [yZ]
    simp [g1, g2, g3, hC, SV.flatT, SV.flat, Fl.new]
  · intro i hi ih z hz
    have g3 := fL (z := z) hall (i := i) (by omega)
    have hp := nU (z := z) hall (i := i) (by omega)
    rw [yZ]
    have hci := hd _ (List.getElem_mem hi)
    obtain ⟨i0, s1, he, h1⟩ := (hq _ (List.getElem_mem hi)).ex
    rw [vC, he] at hp
    simp only [reL, reF, List.map_cons, List.map_nil] at hp
    simp only [Int.ofNat_lt, hi, hC, decide_true, aE, Int.natCast_nonneg, Bool.and_true, Int.toNat_natCast, aG, aV (Nat.lt_of_lt_of_le hi (Nat.le_trans hl hml)), aN (jU (φ := fl c) fun e he => (hq e he).len), rU hi]
    rw [he] at hci ⊢
    simp only [reL, reF] at hci
    simp only [reL, reF, dV, cJ, cN, cB, bJ, cK, dZ, hci, Option.bind_some, fT, List.length_cons, List.length_nil, beq_self_eq_true, Nat.reduceAdd, Nat.reduceBEq, aG]
    have hd' : (i + 1) * 2 ≤ es.length * 2 := Nat.mul_le_mul_right 2 hi
    have hg : (0 + i) * 2 + 2 ≤ (fV (reE (fl aQ) es) i z).length := by rw [g3, hz, Nat.sub_mul]; omega
    simp only [hg, decide_true, aG]
    rw [Nat.zero_add, hp]
    exact ih _ (by rw [List.length_drop, hz, Nat.sub_mul, Nat.sub_mul]; omega)
theorem aI7 {c : Fl true} {es : List (List (aC false))} (hl : es.length ≤ 1048576) (hq : ∀ e ∈ es, eV e) (hd : ∀ e ∈ es, Dd F.aY2 [.agg (reL (fl c) e)] [] = some (.agg (reL (fl aQ) e), [])) : Dd F.aYj [.leaf (.sl c (reE (fl c) es))] [] = some (.leaf (.sl aQ (reE (fl aQ) es)), []) := by
  apply lL rfl
  have hb : aK = 140737488355328 := rfl
  rw [aHO]
  have hs : decide (es.length ≤ aK) = true := decide_eq_true (by omega)
  have hs2 : decide (es.length * 24 ≤ aK) = true := decide_eq_true (by omega)
  simp only [bX, Int.natCast_nonneg, Int.toNat_natCast, beq_self_eq_true, hs, hs2, decide_true, Bool.and_true, Bool.true_and, aG]
  exact aIk hl hq hd 0 (Nat.zero_le _) _ (by simp [List.length_flatten])
theorem aNu {c : Fl true} {ls : List (aC false)} (h : eV ls) : tL ls ≤ 1048576 → Dd F.aY2 [.agg (reL (fl c) ls)] [] = some (.agg (reL (fl aQ) ls), []) := by
  cases h with
  | mk i0 s1 h1 =>
    intro hb
    apply lL rfl
    simp only [reL, reF]
    rw [aI4]
    try simp []
theorem aEi {c : Fl true} {es : List (List (aC false))} (hb : es.length + tE es ≤ 1048576) (hq : ∀ e ∈ es, eV e) : Dd F.aYj [.leaf (.sl c (reE (fl c) es))] [] = some (.leaf (.sl aQ (reE (fl aQ) es)), []) := aI7 (by omega) hq fun e he => aNu (hq e he) (by have := aAm he; omega)
theorem aJL {c : Fl true} {es : List (List (aC false))} (hl : es.length ≤ 1048576) (hq : ∀ e ∈ es, fC e) (hd : ∀ e ∈ es, Dd F.aZh [.agg (reL (fl c) e)] [] = some (.agg (reL (fl aQ) e), [])) : ∀ i : Nat, i ≤ es.length → ∀ z : List (SV true), z.length = (es.length - i) * 11 →
    jJ Dd (sR c (reE (fl c) es) es.length i (fV (reE (fl aQ) es) i z)) = some (.leaf (.sl aQ (reE (fl aQ) es)), []) := by
  have hall : ∀ e ∈ reE (fl aQ) es, e.length = 11 := jU fun e he => (hq e he).len
  have hN : (reE (fl aQ) es).length = es.length := bX es
  have hC : (reE (fl c) es).length = es.length := bX es
  have hml : (1048576 : Nat) ≤ maxLen := by decide
  refine cF ?_ ?_
  · intro z hz
    have g1 := rL (z := z) hall
    have g2 := fE hall
    have g3 := fL (z := z) hall (Nat.le_refl _)
    rw [hN] at g1 g2 g3
    try rw [Nat.mul_one] at g1
    rw [aAB]
    simp [g1, g2, g3, hC, SV.flatT, SV.flat, Fl.new]
  · intro i hi ih z hz
    have g3 := fL (z := z) hall (i := i) (by omega)
    have hp := nU (z := z) hall (i := i) (by omega)
    rw [aAB]
    have hci := hd _ (List.getElem_mem hi)
    obtain ⟨i0, b1, s2, s3, e4, e5, e6, e7, e8, b9, e10, he, h2, h3, h4, q4, h5, q5, h6, q6, h7, q7, h8, q8, h10, q10⟩ := (hq _ (List.getElem_mem hi)).ex
    rw [vC, he] at hp
    simp only [reL, reF, List.map_cons, List.map_nil] at hp
    simp only [Int.ofNat_lt, hi, hC, decide_true, aE, Int.natCast_nonneg, Bool.and_true, Int.toNat_natCast, aG, aV (Nat.lt_of_lt_of_le hi (Nat.le_trans hl hml)), aN (jU (φ := fl c) fun e he => (hq e he).len), rU hi]
    rw [he] at hci ⊢
    simp only [reL, reF] at hci
    simp only [reL, reF, dV, cJ, cN, cB, bJ, cK, dZ, hci, Option.bind_some, fT, List.length_cons, List.length_nil, beq_self_eq_true, Nat.reduceAdd, Nat.reduceBEq, aG]
    have hd' : (i + 1) * 11 ≤ es.length * 11 := Nat.mul_le_mul_right 11 hi
    have hg : (0 + i) * 11 + 11 ≤ (fV (reE (fl aQ) es) i z).length := by rw [g3, hz, Nat.sub_mul]; omega
    simp only [hg, decide_true, aG]
    rw [Nat.zero_add, hp]
    exact ih _ (by rw [List.length_drop, hz, Nat.sub_mul, Nat.sub_mul]; omega)
theorem aJA {c : Fl true} {es : List (List (aC false))} (hl : es.length ≤ 1048576) (hq : ∀ e ∈ es, fC e) (hd : ∀ e ∈ es, Dd F.aZh [.agg (reL (fl c) e)] [] = some (.agg (reL (fl aQ) e), [])) : Dd F.aYG [.leaf (.sl c (reE (fl c) es))] [] = some (.leaf (.sl aQ (reE (fl aQ) es)), []) := by
  apply lL rfl
  have hb : aK = 140737488355328 := rfl
  rw [aIs]
  have hs : decide (es.length ≤ aK) = true := decide_eq_true (by omega)
  have hs2 : decide (es.length * 200 ≤ aK) = true := decide_eq_true (by omega)
  simp only [bX, Int.natCast_nonneg, Int.toNat_natCast, beq_self_eq_true, hs, hs2, decide_true, Bool.and_true, Bool.true_and, aG]
  exact aJL hl hq hd 0 (Nat.zero_le _) _ (by simp [List.length_flatten])
theorem aOZ {c : Fl true} {ls : List (aC false)} (h : fC ls) : tL ls ≤ 1048576 → Dd F.aZh [.agg (reL (fl c) ls)] [] = some (.agg (reL (fl aQ) ls), []) := by
  cases h with
  | mk i0 b1 s2 s3 e4 e5 e6 e7 e8 b9 e10 h2 h3 h4 q4 h5 q5 h6 q6 h7 q7 h8 q8 h10 q10 =>
    intro hb
    apply lL rfl
    simp only [reL, reF]
    rw [aJr]
    have c4 := aBF (c := c) (show e4.length ≤ 1048576 by simp only [tL, tF] at hb; omega) q4
    have c5 := aG4 (c := c) (show e5.length + tE e5 ≤ 1048576 by simp only [tL, tF] at hb; omega) q5
    have c6 := aDo (c := c) (show e6.length + tE e6 ≤ 1048576 by simp only [tL, tF] at hb; omega) q6
    have c7 := aIA (c := c) (show e7.length + tE e7 ≤ 1048576 by simp only [tL, tF] at hb; omega) q7
    have c8 := aEi (c := c) (show e8.length + tE e8 ≤ 1048576 by simp only [tL, tF] at hb; omega) q8
    have c10 := rP (c := c) (show e10.length + tE e10 ≤ 1048576 by simp only [tL, tF] at hb; omega) q10
    try simp [c4, c5, c6, c7, c8, c10]
theorem aGQ {c : Fl true} {es : List (List (aC false))} (hb : es.length + tE es ≤ 1048576) (hq : ∀ e ∈ es, fC e) : Dd F.aYG [.leaf (.sl c (reE (fl c) es))] [] = some (.leaf (.sl aQ (reE (fl aQ) es)), []) := aJA (by omega) hq fun e he => aOZ (hq e he) (by have := aAm he; omega)
theorem aLx {c : Fl true} {ls : List (aC false)} (h : bM ls) : tL ls ≤ 1048576 → Dd F.aX1 [.agg (reL (fl c) ls)] [] = some (.agg (reL (fl aQ) ls), []) := by
  cases h with
  | mk e0 e1 e2 h0 q0 h1 q1 h2 q2 =>
    intro hb
    apply lL rfl
    simp only [reL, reF]
    rw [aGc]
    have c0 := aGQ (c := c) (show e0.length + tE e0 ≤ 1048576 by simp only [tL, tF] at hb; omega) q0
    have c1 := aGQ (c := c) (show e1.length + tE e1 ≤ 1048576 by simp only [tL, tF] at hb; omega) q1
    have c2 := aEi (c := c) (show e2.length + tE e2 ≤ 1048576 by simp only [tL, tF] at hb; omega) q2
    try simp [c0, c1, c2]
theorem aJt {c : Fl true} {es : List (List (aC false))} (hl : es.length ≤ 1048576) (hq : ∀ e ∈ es, eC e) (hd : ∀ e ∈ es, Dd F.aZo [.agg (reL (fl c) e)] [] = some (.agg (reL (fl aQ) e), [])) : ∀ i : Nat, i ≤ es.length → ∀ z : List (SV true), z.length = (es.length - i) * 7 →
    jB Dd (sP c (reE (fl c) es) es.length i (fV (reE (fl aQ) es) i z)) = some (.leaf (.sl aQ (reE (fl aQ) es)), []) := by
  have hall : ∀ e ∈ reE (fl aQ) es, e.length = 7 := jU fun e he => (hq e he).len
  have hN : (reE (fl aQ) es).length = es.length := bX es
  have hC : (reE (fl c) es).length = es.length := bX es
  have hml : (1048576 : Nat) ≤ maxLen := by decide
  refine cF ?_ ?_
  · intro z hz
    have g1 := rL (z := z) hall
    have g2 := fE hall
    have g3 := fL (z := z) hall (Nat.le_refl _)
    rw [hN] at g1 g2 g3
    try rw [Nat.mul_one] at g1
    rw [aAG]
    simp [g1, g2, g3, hC, SV.flatT, SV.flat, Fl.new]
  · intro i hi ih z hz
    have g3 := fL (z := z) hall (i := i) (by omega)
    have hp := nU (z := z) hall (i := i) (by omega)
    rw [aAG]
    have hci := hd _ (List.getElem_mem hi)
    obtain ⟨i0, s1, s2, s3, e4, e5, e6, he, h1, h2, h3, h4, q4, h5, q5, h6, q6⟩ := (hq _ (List.getElem_mem hi)).ex
    rw [vC, he] at hp
    simp only [reL, reF, List.map_cons, List.map_nil] at hp
    simp only [Int.ofNat_lt, hi, hC, decide_true, aE, Int.natCast_nonneg, Bool.and_true, Int.toNat_natCast, aG, aV (Nat.lt_of_lt_of_le hi (Nat.le_trans hl hml)), aN (jU (φ := fl c) fun e he => (hq e he).len), rU hi]
    rw [he] at hci ⊢
    simp only [reL, reF] at hci
    simp only [reL, reF, dV, cJ, cN, cB, bJ, cK, dZ, hci, Option.bind_some, fT, List.length_cons, List.length_nil, beq_self_eq_true, Nat.reduceAdd, Nat.reduceBEq, aG]
    have hd' : (i + 1) * 7 ≤ es.length * 7 := Nat.mul_le_mul_right 7 hi
    have hg : (0 + i) * 7 + 7 ≤ (fV (reE (fl aQ) es) i z).length := by rw [g3, hz, Nat.sub_mul]; omega
    simp only [hg, decide_true, aG]
    rw [Nat.zero_add, hp]
    exact ih _ (by rw [List.length_drop, hz, Nat.sub_mul, Nat.sub_mul]; omega)
theorem aCl {c : Fl true} {es : List (List (aC false))} (hl : es.length ≤ 1048576) (hq : ∀ e ∈ es, eC e) (hd : ∀ e ∈ es, Dd F.aZo [.agg (reL (fl c) e)] [] = some (.agg (reL (fl aQ) e), [])) : Dd F.aYu [.leaf (.sl c (reE (fl c) es))] [] = some (.leaf (.sl aQ (reE (fl aQ) es)), []) := by
  apply lL rfl
  have hb : aK = 140737488355328 := rfl
  rw [aIH]
  have hs : decide (es.length ≤ aK) = true := decide_eq_true (by omega)
  have hs2 : decide (es.length * 128 ≤ aK) = true := decide_eq_true (by omega)
  simp only [bX, Int.natCast_nonneg, Int.toNat_natCast, beq_self_eq_true, hs, hs2, decide_true, Bool.and_true, Bool.true_and, aG]
  exact aJt hl hq hd 0 (Nat.zero_le _) _ (by simp [List.length_flatten])
theorem aOV {c : Fl true} {ls : List (aC false)} (h : eC ls) : tL ls ≤ 1048576 → Dd F.aZo [.agg (reL (fl c) ls)] [] = some (.agg (reL (fl aQ) ls), []) := by
  induction h with
  | mk i0 s1 s2 s3 e4 e5 e6 h1 h2 h3 h4 q4 h5 q5 h6 q6 ih6 =>
    intro hb
    apply lL rfl
    simp only [reL, reF]
    rw [aKg]
    have c4 := aGI (c := c) (show e4.length + tE e4 ≤ 1048576 by simp only [tL, tF] at hb; omega) q4
    have c5 := rP (c := c) (show e5.length + tE e5 ≤ 1048576 by simp only [tL, tF] at hb; omega) q5
    have c6 := aCl (c := c) (show e6.length ≤ 1048576 by simp only [tL, tF] at hb; omega) q6 fun e he => ih6 e he (by have := aAm he; simp only [tL, tF] at hb; omega)
    try simp [c4, c5, c6]
theorem aNz {c : Fl true} {es : List (List (aC false))} (hb : es.length + tE es ≤ 1048576) (hq : ∀ e ∈ es, eC e) : Dd F.aYu [.leaf (.sl c (reE (fl c) es))] [] = some (.leaf (.sl aQ (reE (fl aQ) es)), []) := aCl (by omega) hq fun e he => aOV (hq e he) (by have := aAm he; omega)
end Go.Vs
end
section
open Go Go.Vs Go.Proofs
set_option linter.unusedVariables false
set_option linter.unusedSimpArgs false
namespace Go.Vs
theorem aUE {x : Int} (h : 0 ≤ x) : IntKind.i64.wrap x ≤ x := by
  have e : IntKind.i64.wrap x = if x % 18446744073709551616 ≥ 9223372036854775808 then x % 18446744073709551616 - 18446744073709551616 else x % 18446744073709551616 := by
    simp [IntKind.wrap, IntKind.signed, IntKind.bits]
  rw [e]
  split <;> omega
theorem aGY : ∀ (n : Nat) (i0 : Int) (s3 : ByteArray), i0 < 10 ^ n → s3.size + n + 1 ≤ 140737488355328 → ∃ s : ByteArray, jI Dn (sE i0 s3) = some (.leaf (.str s), [])
  | 0, i0, s3, h, hs => by
    have h0 : ¬ i0 > 0 := by simp at h; omega
    rw [sZ]
    have h1 : (ByteArray.mk #[109]).size + s3.size ≤ 140737488355328 := by have : (ByteArray.mk #[109]).size = 1 := rfl; omega
    simp only [h0, decide_false, aD, h1, decide_true, aG]
    exact ⟨_, rfl⟩
  | n + 1, i0, s3, h, hs => by
    rw [sZ]
    by_cases h0 : i0 > 0
    · have hz : ∀ x : UInt8, (ByteArray.mk #[x]).size = 1 := fun _ => rfl
      have h2 : IntKind.i64.wrap (i0.tdiv 10) < 10 ^ n := by
        have h3 : 0 ≤ i0.tdiv 10 := Int.tdiv_nonneg (by omega) (by omega)
        have h4 := aUE h3
        have h5 : i0.tdiv 10 < 10 ^ n := by
          rw [Int.tdiv_eq_ediv_of_nonneg (by omega)]
          rw [Int.pow_succ] at h
          omega
        omega
      simp only [h0, decide_true, aE, List.map_cons, List.map_nil, hz, show 1 + s3.size ≤ 140737488355328 by omega, aG]
      exact aGY n _ _ h2 (by rw [ByteArray.size_append, hz]; omega)
    · have h1 : (ByteArray.mk #[109]).size + s3.size ≤ 140737488355328 := by have : (ByteArray.mk #[109]).size = 1 := rfl; omega
      simp only [h0, decide_false, aD, h1, decide_true, aG]
      exact ⟨_, rfl⟩
theorem aKJ (k : Int) : ∃ s : ByteArray, Dn F.aXY [aI k] [] = some (.leaf (.str s), []) := by
  have key : ∃ s : ByteArray, aT Go.Proofs.Tryz.prog Dn Hs bA F.aXY [aI k] [] = some (.leaf (.str s), []) := by
    rw [aIO]
    by_cases h : k ≤ 0
    · simp only [h, decide_true, aE]; exact ⟨_, rfl⟩
    · obtain ⟨n, hn⟩ : ∃ n : Nat, k < 10 ^ n ∧ n ≤ k.toNat := ⟨k.toNat, by
        have : (k.toNat : Int) < 10 ^ k.toNat := by exact_mod_cast (Nat.lt_pow_self (by omega) : k.toNat < 10 ^ k.toNat)
        omega, Nat.le_refl _⟩
      simp only [h, decide_false, aD]
      rw [sZ]
      have hz : ∀ x : UInt8, (ByteArray.mk #[x]).size = 1 := fun _ => rfl
      have h0 : k > 0 := by omega
      have he : (ByteArray.mk #[]).size = 0 := rfl
      simp only [h0, decide_true, aE, List.map_cons, List.map_nil, hz, he, show 1 + 0 ≤ 140737488355328 by omega, aG]
      refine aGY 19 _ _ ?_ (by rw [ByteArray.size_append, hz, he]; omega)
      have e : ∀ x : Int, IntKind.i64.wrap x < 10 ^ 19 := fun x => by
        have e : IntKind.i64.wrap x = if x % 18446744073709551616 ≥ 9223372036854775808 then x % 18446744073709551616 - 18446744073709551616 else x % 18446744073709551616 := by
          simp [IntKind.wrap, IntKind.signed, IntKind.bits]
        rw [e]
        split <;> omega
      exact e _
  obtain ⟨s, hs⟩ := key
  exact ⟨s, aP hs⟩
noncomputable def mtx (k : Int) : ByteArray := Classical.choose (aKJ k)
theorem aH3 (k : Int) : Dn F.aXY [aI k] [] = some (.leaf (.str (mtx k)), []) := Classical.choose_spec (aKJ k)
end Go.Vs
end
section
open Go Go.Vs Go.Proofs
set_option linter.unusedVariables false
set_option linter.unusedSimpArgs false
namespace Go.Vs
theorem eR (k : Int) : Dd F.aXY [.leaf (.int .i64 k)] [] = some (.leaf (.str (mtx k)), []) :=
  sK rfl (aH3 k) rfl rfl rfl
theorem aDG {es : List (List (aC false))} (hl : es.length ≤ maxLen) (hq : ∀ e ∈ es, jS e) : ∀ i : Nat, i ≤ es.length → ∀ k : Int,
    eZ Dd (mV fW (soE es) k i) = some (.leaf (.int .i64 (mkE (es.drop i) k)), []) := by
  have hC : (soE es).length = es.length := nB es
  refine cF ?_ ?_
  · intro k; rw [tS]; simp [hC, mkE]
  · intro i hi ih k
    obtain ⟨s, he, hs⟩ := (hq _ (List.getElem_mem hi))
    rw [tS, gS hi]
    simp only [Int.ofNat_lt, hi, hC, decide_true, aE, Int.natCast_nonneg, Bool.and_true, Int.toNat_natCast, aG, aV (Nat.lt_of_lt_of_le hi hl), aN (xK fun e he => (hq e he).len), rN hi, eR, Option.bind_some, aX, bJ]
    rw [he]
    simp only [soL, soF, cJ, cN, dZ, eG, List.getElem?_cons_zero, List.getElem?_cons_succ, lE, St.eval, List.getD_cons_zero, List.getD_cons_succ, SV.plain, aBk, aBD, aBj, and_self, ite_true, if_true, xH, true_and, and_true, eR, Option.bind_some, aX, bJ, cB, ih]
    simp only [mkE, mkL, mkF]
theorem oU {es : List (List (aC false))} (hl : es.length ≤ maxLen) (hq : ∀ e ∈ es, jS e) (k : Int) : Dd F.aXb [.leaf (.sl fW (soE es)), .leaf (.int .i64 k)] [] = some (.leaf (.int .i64 (mkE es k)), []) := by
  apply lL rfl
  rw [aCD]
  have := aDG hl hq 0 (Nat.zero_le _) k
  simpa using this
def aOJ (ls : List (aC false)) : Prop := ∀ (i0 : Int) (s1 : ByteArray) (e2 : List (List (aC false))) (e3 : List (List (aC false))), ls = [.int .i64 i0, .str s1, .sl fP e2, .sl fP e3] → (∀ k : Int, Dd F.aXj [.leaf (.sl fW (soE e2)), .leaf (.int .i64 k)] [] = some (.leaf (.int .i64 (mkE e2 k)), []))
theorem aFt {es : List (List (aC false))} (hl : es.length ≤ maxLen) (hq : ∀ e ∈ es, cS e) (hd : ∀ e ∈ es, aOJ e) : ∀ i : Nat, i ≤ es.length → ∀ k : Int,
    fM Dd (nN fW (soE es) k i) = some (.leaf (.int .i64 (mkE (es.drop i) k)), []) := by
  have hC : (soE es).length = es.length := nB es
  refine cF ?_ ?_
  · intro k; rw [uT]; simp [hC, mkE]
  · intro i hi ih k
    have hci := hd _ (List.getElem_mem hi)
    obtain ⟨i0, s1, e2, e3, he, h1, h2, q2, h3, q3⟩ := (hq _ (List.getElem_mem hi)).ex
    rw [uT, gS hi]
    simp only [Int.ofNat_lt, hi, hC, decide_true, aE, Int.natCast_nonneg, Bool.and_true, Int.toNat_natCast, aG, aV (Nat.lt_of_lt_of_le hi hl), aN (xK fun e he => (hq e he).len), rN hi, eR, Option.bind_some, aX, bJ]
    rw [he]
    have c2 := hci i0 s1 e2 e3 he
    have c3 := oU h3 q3
    simp only [soL, soF, cJ, cN, dZ, eG, List.getElem?_cons_zero, List.getElem?_cons_succ, lE, St.eval, List.getD_cons_zero, List.getD_cons_succ, SV.plain, aBk, aBD, aBj, and_self, ite_true, if_true, xH, true_and, and_true, c2, c3, eR, Option.bind_some, aX, bJ, cB, ih]
    simp only [mkE, mkL, mkF]
theorem xR {es : List (List (aC false))} (hl : es.length ≤ maxLen) (hq : ∀ e ∈ es, cS e) (hd : ∀ e ∈ es, aOJ e) (k : Int) : Dd F.aXj [.leaf (.sl fW (soE es)), .leaf (.int .i64 k)] [] = some (.leaf (.int .i64 (mkE es k)), []) := by
  apply lL rfl
  rw [aD4]
  have := aFt hl hq hd 0 (Nat.zero_le _) k
  simpa using this
theorem aUz {ls : List (aC false)} (h : cS ls) : aOJ ls := by
  induction h with
  | mk i0 s1 e2 e3 h1 h2 q2 h3 q3 ih2 =>
    intro y0 y1 y2 y3 heq
    simp only [List.cons.injEq, aC.int.injEq, aC.str.injEq, aC.sl.injEq, and_true, true_and] at heq
    obtain ⟨rfl, rfl, rfl, rfl⟩ := heq
    exact xR h2 q2 ih2
theorem aAZ {es : List (List (aC false))} (hl : es.length ≤ maxLen) (hq : ∀ e ∈ es, cS e) (k : Int) : Dd F.aXj [.leaf (.sl fW (soE es)), .leaf (.int .i64 k)] [] = some (.leaf (.int .i64 (mkE es k)), []) := xR hl hq (fun e he => aUz (hq e he)) k
theorem aHV {es : List (List (aC false))} (hl : es.length ≤ maxLen) (hq : ∀ e ∈ es, gO e) : ∀ i : Nat, i ≤ es.length → ∀ k : Int,
    gR Dd (pP fW (soE es) k i) = some (.leaf (.int .i64 (mkE (es.drop i) k)), []) := by
  have hC : (soE es).length = es.length := nB es
  refine cF ?_ ?_
  · intro k; rw [yI]; simp [hC, mkE]
  · intro i hi ih k
    obtain ⟨s0, i1, s2, e3, e4, he, h0, h2, h3, q3, h4, q4⟩ := (hq _ (List.getElem_mem hi)).ex
    rw [yI, gS hi]
    simp only [Int.ofNat_lt, hi, hC, decide_true, aE, Int.natCast_nonneg, Bool.and_true, Int.toNat_natCast, aG, aV (Nat.lt_of_lt_of_le hi hl), aN (xK fun e he => (hq e he).len), rN hi, eR, Option.bind_some, aX, bJ]
    rw [he]
    have c3 := aAZ h3 q3
    have c4 := oU h4 q4
    simp only [soL, soF, cJ, cN, dZ, eG, List.getElem?_cons_zero, List.getElem?_cons_succ, lE, St.eval, List.getD_cons_zero, List.getD_cons_succ, SV.plain, aBk, aBD, aBj, and_self, ite_true, if_true, xH, true_and, and_true, c3, c4, eR, Option.bind_some, aX, bJ, cB, ih]
    simp only [mkE, mkL, mkF]
theorem aDu {es : List (List (aC false))} (hl : es.length ≤ maxLen) (hq : ∀ e ∈ es, gO e) (k : Int) : Dd F.aX7 [.leaf (.sl fW (soE es)), .leaf (.int .i64 k)] [] = some (.leaf (.int .i64 (mkE es k)), []) := by
  apply lL rfl
  rw [aGg]
  have := aHV hl hq 0 (Nat.zero_le _) k
  simpa using this
theorem aH4 {es : List (List (aC false))} (hl : es.length ≤ maxLen) (hq : ∀ e ∈ es, eQ e) : ∀ i : Nat, i ≤ es.length → ∀ k : Int,
    hU Dd (pU fW (soE es) k i) = some (.leaf (.int .i64 (mkE (es.drop i) k)), []) := by
  have hC : (soE es).length = es.length := nB es
  refine cF ?_ ?_
  · intro k; rw [xO]; simp [hC, mkE]
  · intro i hi ih k
    obtain ⟨s0, e1, he, h0, h1, q1⟩ := (hq _ (List.getElem_mem hi)).ex
    rw [xO, gS hi]
    simp only [Int.ofNat_lt, hi, hC, decide_true, aE, Int.natCast_nonneg, Bool.and_true, Int.toNat_natCast, aG, aV (Nat.lt_of_lt_of_le hi hl), aN (xK fun e he => (hq e he).len), rN hi, eR, Option.bind_some, aX, bJ]
    rw [he]
    have c1 := aDu h1 q1
    simp only [soL, soF, cJ, cN, dZ, eG, List.getElem?_cons_zero, List.getElem?_cons_succ, lE, St.eval, List.getD_cons_zero, List.getD_cons_succ, SV.plain, aBk, aBD, aBj, and_self, ite_true, if_true, xH, true_and, and_true, c1, eR, Option.bind_some, aX, bJ, cB, ih]
    simp only [mkE, mkL, mkF]
theorem pB {es : List (List (aC false))} (hl : es.length ≤ maxLen) (hq : ∀ e ∈ es, eQ e) (k : Int) : Dd F.aX3 [.leaf (.sl fW (soE es)), .leaf (.int .i64 k)] [] = some (.leaf (.int .i64 (mkE es k)), []) := by
  apply lL rfl
  rw [aGl]
  have := aH4 hl hq 0 (Nat.zero_le _) k
  simpa using this
theorem aE4 {es : List (List (aC false))} (hl : es.length ≤ maxLen) (hq : ∀ e ∈ es, dB e) : ∀ i : Nat, i ≤ es.length → ∀ k : Int,
    fQ Dd (nL fW (soE es) k i) = some (.leaf (.int .i64 (mkE (es.drop i) k)), []) := by
  have hC : (soE es).length = es.length := nB es
  refine cF ?_ ?_
  · intro k; rw [uX]; simp [hC, mkE]
  · intro i hi ih k
    obtain ⟨s0, s1, s2, s3, b4, i5, s6, e7, e8, e9, he, h0, h1, h2, h3, h6, h7, q7, h8, q8, h9, q9⟩ := (hq _ (List.getElem_mem hi)).ex
    rw [uX, gS hi]
    simp only [Int.ofNat_lt, hi, hC, decide_true, aE, Int.natCast_nonneg, Bool.and_true, Int.toNat_natCast, aG, aV (Nat.lt_of_lt_of_le hi hl), aN (xK fun e he => (hq e he).len), rN hi, eR, Option.bind_some, aX, bJ]
    rw [he]
    have c7 := aAZ h7 q7
    have c8 := oU h8 q8
    have c9 := pB h9 q9
    simp only [soL, soF, cJ, cN, dZ, eG, List.getElem?_cons_zero, List.getElem?_cons_succ, lE, St.eval, List.getD_cons_zero, List.getD_cons_succ, SV.plain, aBk, aBD, aBj, and_self, ite_true, if_true, xH, true_and, and_true, c7, c8, c9, eR, Option.bind_some, aX, bJ, cB, ih]
    simp only [mkE, mkL, mkF]
theorem aBe {es : List (List (aC false))} (hl : es.length ≤ maxLen) (hq : ∀ e ∈ es, dB e) (k : Int) : Dd F.aXk [.leaf (.sl fW (soE es)), .leaf (.int .i64 k)] [] = some (.leaf (.int .i64 (mkE es k)), []) := by
  apply lL rfl
  rw [aDH]
  have := aE4 hl hq 0 (Nat.zero_le _) k
  simpa using this
theorem aBY {es : List (List (aC false))} (hl : es.length ≤ maxLen) (hq : ∀ e ∈ es, cC e) : ∀ i : Nat, i ≤ es.length → ∀ k : Int,
    eJ Dd (kX fW (soE es) k i) = some (.leaf (.int .i64 (mkE (es.drop i) k)), []) := by
  have hC : (soE es).length = es.length := nB es
  refine cF ?_ ?_
  · intro k; rw [qY]; simp [hC, mkE]
  · intro i hi ih k
    obtain ⟨s0, s1, e2, s3, s4, e5, he, h0, h1, h2, q2, h3, h4, h5, q5⟩ := (hq _ (List.getElem_mem hi)).ex
    rw [qY, gS hi]
    simp only [Int.ofNat_lt, hi, hC, decide_true, aE, Int.natCast_nonneg, Bool.and_true, Int.toNat_natCast, aG, aV (Nat.lt_of_lt_of_le hi hl), aN (xK fun e he => (hq e he).len), rN hi, eR, Option.bind_some, aX, bJ]
    rw [he]
    have c2 := aBe h2 q2
    have c5 := pB h5 q5
    simp only [soL, soF, cJ, cN, dZ, eG, List.getElem?_cons_zero, List.getElem?_cons_succ, lE, St.eval, List.getD_cons_zero, List.getD_cons_succ, SV.plain, aBk, aBD, aBj, and_self, ite_true, if_true, xH, true_and, and_true, c2, c5, eR, Option.bind_some, aX, bJ, cB, ih]
    simp only [mkE, mkL, mkF]
theorem aFJ {es : List (List (aC false))} (hl : es.length ≤ maxLen) (hq : ∀ e ∈ es, cC e) (k : Int) : Dd F.aWP [.leaf (.sl fW (soE es)), .leaf (.int .i64 k)] [] = some (.leaf (.int .i64 (mkE es k)), []) := by
  apply lL rfl
  rw [aBz]
  have := aBY hl hq 0 (Nat.zero_le _) k
  simpa using this
theorem aCA {es : List (List (aC false))} (hl : es.length ≤ maxLen) (hq : ∀ e ∈ es, cX e) : ∀ i : Nat, i ≤ es.length → ∀ k : Int,
    eP Dd (lY fW (soE es) k i) = some (.leaf (.int .i64 (mkE (es.drop i) k)), []) := by
  have hC : (soE es).length = es.length := nB es
  refine cF ?_ ?_
  · intro k; rw [rY]; simp [hC, mkE]
  · intro i hi ih k
    obtain ⟨s0, s1, e2, he, h0, h1, h2, q2⟩ := (hq _ (List.getElem_mem hi)).ex
    rw [rY, gS hi]
    simp only [Int.ofNat_lt, hi, hC, decide_true, aE, Int.natCast_nonneg, Bool.and_true, Int.toNat_natCast, aG, aV (Nat.lt_of_lt_of_le hi hl), aN (xK fun e he => (hq e he).len), rN hi, eR, Option.bind_some, aX, bJ]
    rw [he]
    have c2 := pB h2 q2
    simp only [soL, soF, cJ, cN, dZ, eG, List.getElem?_cons_zero, List.getElem?_cons_succ, lE, St.eval, List.getD_cons_zero, List.getD_cons_succ, SV.plain, aBk, aBD, aBj, and_self, ite_true, if_true, xH, true_and, and_true, c2, eR, Option.bind_some, aX, bJ, cB, ih]
    simp only [mkE, mkL, mkF]
theorem aGb {es : List (List (aC false))} (hl : es.length ≤ maxLen) (hq : ∀ e ∈ es, cX e) (k : Int) : Dd F.aW0 [.leaf (.sl fW (soE es)), .leaf (.int .i64 k)] [] = some (.leaf (.int .i64 (mkE es k)), []) := by
  apply lL rfl
  rw [aB5]
  have := aCA hl hq 0 (Nat.zero_le _) k
  simpa using this
theorem aGh {es : List (List (aC false))} (hl : es.length ≤ maxLen) (hq : ∀ e ∈ es, eV e) : ∀ i : Nat, i ≤ es.length → ∀ k : Int,
    fX Dd (oX fW (soE es) k i) = some (.leaf (.int .i64 (mkE (es.drop i) k)), []) := by
  have hC : (soE es).length = es.length := nB es
  refine cF ?_ ?_
  · intro k; rw [vR]; simp [hC, mkE]
  · intro i hi ih k
    obtain ⟨i0, s1, he, h1⟩ := (hq _ (List.getElem_mem hi)).ex
    rw [vR, gS hi]
    simp only [Int.ofNat_lt, hi, hC, decide_true, aE, Int.natCast_nonneg, Bool.and_true, Int.toNat_natCast, aG, aV (Nat.lt_of_lt_of_le hi hl), aN (xK fun e he => (hq e he).len), rN hi, eR, Option.bind_some, aX, bJ]
    rw [he]
    simp only [soL, soF, cJ, cN, dZ, eG, List.getElem?_cons_zero, List.getElem?_cons_succ, lE, St.eval, List.getD_cons_zero, List.getD_cons_succ, SV.plain, aBk, aBD, aBj, and_self, ite_true, if_true, xH, true_and, and_true, eR, Option.bind_some, aX, bJ, cB, ih]
    simp only [mkE, mkL, mkF]
theorem aCf {es : List (List (aC false))} (hl : es.length ≤ maxLen) (hq : ∀ e ∈ es, eV e) (k : Int) : Dd F.aXD [.leaf (.sl fW (soE es)), .leaf (.int .i64 k)] [] = some (.leaf (.int .i64 (mkE es k)), []) := by
  apply lL rfl
  rw [aEC]
  have := aGh hl hq 0 (Nat.zero_le _) k
  simpa using this
theorem aG9 {es : List (List (aC false))} (hl : es.length ≤ maxLen) (hq : ∀ e ∈ es, fC e) : ∀ i : Nat, i ≤ es.length → ∀ k : Int,
    gX Dd (pR fW (soE es) k i) = some (.leaf (.int .i64 (mkE (es.drop i) k)), []) := by
  have hC : (soE es).length = es.length := nB es
  refine cF ?_ ?_
  · intro k; rw [xV]; simp [hC, mkE]
  · intro i hi ih k
    obtain ⟨i0, b1, s2, s3, e4, e5, e6, e7, e8, b9, e10, he, h2, h3, h4, q4, h5, q5, h6, q6, h7, q7, h8, q8, h10, q10⟩ := (hq _ (List.getElem_mem hi)).ex
    rw [xV, gS hi]
    simp only [Int.ofNat_lt, hi, hC, decide_true, aE, Int.natCast_nonneg, Bool.and_true, Int.toNat_natCast, aG, aV (Nat.lt_of_lt_of_le hi hl), aN (xK fun e he => (hq e he).len), rN hi, eR, Option.bind_some, aX, bJ]
    rw [he]
    have c4 := oU h4 q4
    have c5 := aFJ h5 q5
    have c6 := aBe h6 q6
    have c7 := aGb h7 q7
    have c8 := aCf h8 q8
    have c10 := pB h10 q10
    simp only [soL, soF, cJ, cN, dZ, eG, List.getElem?_cons_zero, List.getElem?_cons_succ, lE, St.eval, List.getD_cons_zero, List.getD_cons_succ, SV.plain, aBk, aBD, aBj, and_self, ite_true, if_true, xH, true_and, and_true, c4, c5, c6, c7, c8, c10, eR, Option.bind_some, aX, bJ, cB, ih]
    simp only [mkE, mkL, mkF]
theorem aDB {es : List (List (aC false))} (hl : es.length ≤ maxLen) (hq : ∀ e ∈ es, fC e) (k : Int) : Dd F.aXQ [.leaf (.sl fW (soE es)), .leaf (.int .i64 k)] [] = some (.leaf (.int .i64 (mkE es k)), []) := by
  apply lL rfl
  rw [aGq]
  have := aG9 hl hq 0 (Nat.zero_le _) k
  simpa using this
def aTK (ls : List (aC false)) : Prop := ∀ (i0 : Int) (s1 : ByteArray) (s2 : ByteArray) (s3 : ByteArray) (e4 : List (List (aC false))) (e5 : List (List (aC false))) (e6 : List (List (aC false))), ls = [.int .i64 i0, .str s1, .str s2, .str s3, .sl fP e4, .sl fP e5, .sl fP e6] → (∀ k : Int, Dd F.aX2 [.leaf (.sl fW (soE e6)), .leaf (.int .i64 k)] [] = some (.leaf (.int .i64 (mkE e6 k)), []))
theorem aHq {es : List (List (aC false))} (hl : es.length ≤ maxLen) (hq : ∀ e ∈ es, eC e) (hd : ∀ e ∈ es, aTK e) : ∀ i : Nat, i ≤ es.length → ∀ k : Int,
    hR Dd (pO fW (soE es) k i) = some (.leaf (.int .i64 (mkE (es.drop i) k)), []) := by
  have hC : (soE es).length = es.length := nB es
  refine cF ?_ ?_
  · intro k; rw [yK]; simp [hC, mkE]
  · intro i hi ih k
    have hci := hd _ (List.getElem_mem hi)
    obtain ⟨i0, s1, s2, s3, e4, e5, e6, he, h1, h2, h3, h4, q4, h5, q5, h6, q6⟩ := (hq _ (List.getElem_mem hi)).ex
    rw [yK, gS hi]
    simp only [Int.ofNat_lt, hi, hC, decide_true, aE, Int.natCast_nonneg, Bool.and_true, Int.toNat_natCast, aG, aV (Nat.lt_of_lt_of_le hi hl), aN (xK fun e he => (hq e he).len), rN hi, eR, Option.bind_some, aX, bJ]
    rw [he]
    have c4 := aDu h4 q4
    have c5 := pB h5 q5
    have c6 := hci i0 s1 s2 s3 e4 e5 e6 he
    simp only [soL, soF, cJ, cN, dZ, eG, List.getElem?_cons_zero, List.getElem?_cons_succ, lE, St.eval, List.getD_cons_zero, List.getD_cons_succ, SV.plain, aBk, aBD, aBj, and_self, ite_true, if_true, xH, true_and, and_true, c4, c5, c6, eR, Option.bind_some, aX, bJ, cB, ih]
    simp only [mkE, mkL, mkF]
theorem aAF {es : List (List (aC false))} (hl : es.length ≤ maxLen) (hq : ∀ e ∈ es, eC e) (hd : ∀ e ∈ es, aTK e) (k : Int) : Dd F.aX2 [.leaf (.sl fW (soE es)), .leaf (.int .i64 k)] [] = some (.leaf (.int .i64 (mkE es k)), []) := by
  apply lL rfl
  rw [aF4]
  have := aHq hl hq hd 0 (Nat.zero_le _) k
  simpa using this
theorem aVY {ls : List (aC false)} (h : eC ls) : aTK ls := by
  induction h with
  | mk i0 s1 s2 s3 e4 e5 e6 h1 h2 h3 h4 q4 h5 q5 h6 q6 ih6 =>
    intro y0 y1 y2 y3 y4 y5 y6 heq
    simp only [List.cons.injEq, aC.int.injEq, aC.str.injEq, aC.sl.injEq, and_true, true_and] at heq
    obtain ⟨rfl, rfl, rfl, rfl, rfl, rfl, rfl⟩ := heq
    exact aAF h6 q6 ih6
theorem aLE {es : List (List (aC false))} (hl : es.length ≤ maxLen) (hq : ∀ e ∈ es, eC e) (k : Int) : Dd F.aX2 [.leaf (.sl fW (soE es)), .leaf (.int .i64 k)] [] = some (.leaf (.int .i64 (mkE es k)), []) := aAF hl hq (fun e he => aVY (hq e he)) k
theorem aIp {ls : List (aC false)} (h : bM ls) (k : Int) : Dd F.aXi [.agg (saL ls), .leaf (.int .i64 k)] [] = some (.leaf (.int .i64 (msL ls k)), []) := by
  cases h with
  | mk e0 e1 e2 h0 q0 h1 q1 h2 q2 =>
    apply lL rfl
    simp only [saL, saF]
    rw [aDF]
    simp only [aDB h0 q0, aDB h1 q1, aCf h2 q2, Option.bind_some, aX, cB, msL]
end Go.Vs
end
section
open Go Go.Vs Go.Proofs
set_option linter.unusedVariables false
set_option linter.unusedSimpArgs false
namespace Go.Vs
noncomputable def wD (k : Int) : List (aC false) := [.int .i64 (k), .str (mtx (IntKind.i64.wrap (k + 1))), .str (mtx (IntKind.i64.wrap (IntKind.i64.wrap (k + 1) + 1)))]
def mS (k : Int) : Int := IntKind.i64.wrap (IntKind.i64.wrap (IntKind.i64.wrap (k + 1) + 1) + 1)
noncomputable def dH : Nat → Int → List (List (aC false))
  | 0, _ => []
  | n + 1, k => wD k :: dH n (mS k)
def fR : Nat → Int → Int
  | 0, k => k
  | n + 1, k => fR n (mS k)
theorem yM : ∀ (n : Nat) (k : Int), fR (n + 1) k = mS (fR n k)
  | 0, _ => rfl
  | n + 1, k => yM n (mS k)
theorem vM : ∀ (n : Nat) (k : Int), (dH n k).length = n
  | 0, _ => rfl
  | n + 1, k => by rw [dH, List.length_cons, vM n]
theorem aAA : ∀ (n : Nat) (k : Int), ∀ e ∈ dH n k, e.length = 3
  | 0, _, e, h => by simp [dH] at h
  | n + 1, k, e, h => by
    rcases List.mem_cons.1 h with rfl | h
    · rfl
    · exact aAA n _ e h
theorem aAo : ∀ (n : Nat) (k : Int) (i : Nat) (h : i < (dH n k).length), (dH n k)[i] = wD (fR i k)
  | 0, _, i, h => by simp [dH] at h
  | n + 1, k, 0, h => rfl
  | n + 1, k, i + 1, h => aAo n (mS k) i (by simpa [dH] using h)
theorem aC3 {n : Nat} {k : Int} (hl : n ≤ maxLen) : ∀ i : Nat, i ≤ n → ∀ z : List (SV false), z.all SV.flat = true → (n - i) * 3 ≤ z.length →
    eK Dn (kV n (fR i k) i (fV (dH n k) i z)) = some (aI (fR n k), [fV (dH n k) n (z.drop ((n - i) * 3))]) := by
  have hN := vM n k
  have hall := aAA n k
  refine cF ?_ ?_
  · intro z hz hzl
    rw [qW]
    have hf := aHW (l := dH n k) (i := n) hz
    simp [hf]
  · intro i hi ih z hz hzl
    have hlen := fL (z := z) hall (i := i) (by omega)
    have hp := nU (z := z) hall (i := i) (by omega)
    rw [aAo] at hp
    simp only [wD, List.map_cons, List.map_nil] at hp
    have hd : (n - i) * 3 = (n - (i + 1)) * 3 + 3 := by rw [← Nat.succ_mul]; congr 1; omega
    rw [qW]
    simp only [Int.ofNat_lt, hi, decide_true, aE, Int.natCast_nonneg, Bool.and_true, aG, aV (Nat.lt_of_lt_of_le hi hl), List.getElem_toArray, List.getElem_cons_zero, List.getElem_cons_succ, Nat.zero_add, Nat.add_zero, Int.toNat_natCast, aH3, Option.bind_some, aX, bJ]
    have b0 : i * 3 + 1 ≤ (fV (dH n k) i z).length := by rw [hlen]; omega
    simp only [b0, decide_true, aG]
    have b1 : ∀ l : List (SV false), l.length = 1 → i * 3 + 1 + 1 ≤ (gN (fV (dH n k) i z) (i * 3) l).length := fun l hl0 => by rw [aI1 (by rw [hl0, hlen]; omega), hlen]; omega
    have j1 : ∀ (l : List (SV false)) (x : SV false), l.length = 1 → gN (gN (fV (dH n k) i z) (i * 3) l) (i * 3 + 1) [x] = gN (fV (dH n k) i z) (i * 3) (l ++ [x]) := fun l x hl0 => aNV (by rw [hl0]) (by rw [hl0, hlen]; simp; omega)
    have b2 : ∀ l : List (SV false), l.length = 2 → i * 3 + 2 + 1 ≤ (gN (fV (dH n k) i z) (i * 3) l).length := fun l hl0 => by rw [aI1 (by rw [hl0, hlen]; omega), hlen]; omega
    have j2 : ∀ (l : List (SV false)) (x : SV false), l.length = 2 → gN (gN (fV (dH n k) i z) (i * 3) l) (i * 3 + 2) [x] = gN (fV (dH n k) i z) (i * 3) (l ++ [x]) := fun l x hl0 => aNV (by rw [hl0]) (by rw [hl0, hlen]; simp; omega)
    rw [decide_eq_true (b1 _ rfl), aG, j1 _ _ rfl]
    simp only [List.cons_append, List.nil_append]
    rw [decide_eq_true (b2 _ rfl), aG, j2 _ _ rfl]
    simp only [List.cons_append, List.nil_append]
    rw [hp]
    have hz2 : (z.drop 3).all SV.flat = true := List.all_eq_true.2 fun x hx => List.all_eq_true.1 hz x (List.mem_of_mem_drop hx)
    have := ih (z.drop 3) hz2 (by rw [List.length_drop]; omega)
    rw [yM] at this
    simp only [mS] at this
    rw [this, List.drop_drop, hd, Nat.add_comm 3]
theorem aDY {n : Nat} {k : Int} (hl : n ≤ maxLen) {z : List (SV false)} (hz : z.all SV.flat = true) (hzl : n * 3 ≤ z.length) :
    Dn F.aWV [.bsl 0 3 0 n, aI k] [z] = some (aI (fR n k), [fV (dH n k) n (z.drop (n * 3))]) := by
  refine aP ?_
  rw [aBu]
  have := aC3 (n := n) (k := k) hl 0 (Nat.zero_le _) z hz (by simpa using hzl)
  simpa [fV, fR] using this
theorem aC5 {n : Nat} {k : Int} (hl : n ≤ maxLen) {z : List (SV false)} (hz : z.all SV.flat = true) : ∀ i : Nat, i ≤ n →
    eH Dn (kQ n (fR i k) i (fV (dH n k) n z)) = some (aI (fR n k), [fV (dH n k) n z]) := by
  have hN := vM n k
  have hall := aAA n k
  have hf := aHW (l := dH n k) (i := n) hz
  refine cF ?_ ?_
  · rw [qX]
    simp [hf]
  · intro i hi ih
    have hi' : i < (dH n k).length := by omega
    rw [yM] at ih
    simp only [mS] at ih
    rw [qX]
    simp only [Int.ofNat_lt, hi, decide_true, aE, Int.natCast_nonneg, Bool.and_true, aG, aV (Nat.lt_of_lt_of_le hi hl), List.getElem_toArray, List.getElem_cons_zero, List.getElem_cons_succ, Nat.zero_add, Nat.add_zero, Int.toNat_natCast, aH3, Option.bind_some, aX, bJ]
    have get : ∀ (o p : Nat) (ho : o < 3) (hp : p = i * 3 + o) (kk : SV false → Res), aHw (fV (dH n k) n z) p kk = kk (.leaf ((wD (fR i k))[o]'ho)) := fun o p ho hp kk => by
      have := aTu (r := z) hall hi' ho hp kk
      rw [hN] at this
      rw [this]
      simp only [aAo]
      try rfl
    rw [get 0 _ (by omega) (by omega)]
    simp only [wD, List.getElem_cons_zero, List.getElem_cons_succ, SV.drop, aX, cB, bJ, bne_self_eq_false, beq_self_eq_true, Bool.not_true, aD]
    rw [get 1 _ (by omega) (by omega)]
    simp only [wD, List.getElem_cons_zero, List.getElem_cons_succ, SV.drop, aX, cB, bJ, bne_self_eq_false, beq_self_eq_true, Bool.not_true, aD]
    rw [get 2 _ (by omega) (by omega)]
    simp only [wD, List.getElem_cons_zero, List.getElem_cons_succ, SV.drop, aX, cB, bJ, bne_self_eq_false, beq_self_eq_true, Bool.not_true, aD]
    exact ih
theorem aDS {n : Nat} {k : Int} (hl : n ≤ maxLen) {z : List (SV false)} (hz : z.all SV.flat = true) :
    Dn F.aWX [.bsl 0 3 0 n, aI k] [fV (dH n k) n z] = some (aI (fR n k), [fV (dH n k) n z]) := by
  refine aP ?_
  rw [aBo]
  have := aC5 (n := n) (k := k) hl hz 0 (Nat.zero_le _)
  simpa [fR] using this
theorem aCr (k : Int) : Dn F.aWV [vsl [], aI k] [] = some (aI k, []) := by
  refine aP ?_
  rw [aDZ, aC6]
  simp
theorem aB2 (k : Int) : Dn F.aWX [vsl [], aI k] [] = some (aI k, []) := by
  refine aP ?_
  rw [aDE, aC9]
  simp
end Go.Vs
end
section
namespace Go.Vs
mutual
theorem aUb (c : Fl true) : ∀ l : aC false, reF er (reF (fl c) l) = l
  | .sl _ es => by rw [reF, reF, aOB c es]; cases ‹Fl false›; rfl
  | .bool _ | .int _ _ | .str _ | .unk | .nl _ => by simp [reF]
theorem aOD (c : Fl true) : ∀ l : List (aC false), reL er (reL (fl c) l) = l
  | [] => by rw [reL, reL]
  | l :: r => by rw [reL, reL, aUb c l, aOD c r]
theorem aOB (c : Fl true) : ∀ l : List (List (aC false)), reE er (reE (fl c) l) = l
  | [] => by rw [reE, reE]
  | l :: r => by rw [reE, reE, aOD c l, aOB c r]
end
theorem aG5 (c : Fl true) (es : List (List (aC false))) : reS er (.leaf (.sl c (reE (fl c) es))) = vsl es := by
  simp only [reS, reF, aOB]
theorem aI8 (c : Fl true) (ls : List (aC false)) : reS er (.agg (reL (fl c) ls)) = .agg ls := by
  simp only [reS, aOD]
end Go.Vs
end
section
open Go Go.Vs Go.Proofs
set_option linter.unusedVariables false
set_option linter.unusedSimpArgs false
set_option maxRecDepth 100000
namespace Go.Vs
theorem aUp {N : Env} {ev0 ev1 : Value} (hN : N.K = KOf ev0 ev1) (hE : wA ev0 ∧ wA ev1) : lS Tryz.prog N Dn := aJ5 hP hG (aRi hN hE.1 hE.2) Hs
theorem vE {N : Env} {ev0 ev1 : Value} (hN : N.K = KOf ev0 ev1) (hE : wA ev0 ∧ wA ev1) : lS Tryz.prog N Dd := aJ5 hP hG (aPo (aUp hN hE) aCI) Hs
section
variable {c : Fl true}
theorem aSz {x : SV false} (h : x.flat = true) : reS er (reS li x) = x := by
  have e : ∀ es : List (List (aC false)), reE er (reE li es) = es := fun es => aOB dK es
  cases x <;> simp [SV.flat] at h <;> simp only [reS]
  · rw [show reF er (reF li _) = _ from aUb dK _]
  · rw [e]
  · rw [e]
  · rw [show reL er (reL li _) = _ from aOD dK _]
theorem aN7 : ∀ {l : List (SV false)}, l.all SV.flat = true → (l.map (reS li)).map (reS er) = l
  | [], _ => rfl
  | x :: l, h => by
    rw [List.all_cons, Bool.and_eq_true] at h
    rw [List.map_cons, List.map_cons, aSz h.1, aN7 h.2]
theorem aTb {l : List (SV false)} (h : l.all SV.flat = true) : (l.map (reS li)).all SV.flat = true := by
  rw [List.all_map]
  exact List.all_eq_true.2 fun x hx => aI0 x (List.all_eq_true.1 h x hx)
noncomputable def aNe (n k : Nat) : List (SV false) := fV (dH n 1) n ((List.replicate k SV.any).drop (n * 3))
theorem aMd (k : Nat) : (List.replicate k (SV.any (m := false))).all SV.flat = true := by
  rw [List.all_eq_true]; intro x hx; rw [List.eq_of_mem_replicate hx]; rfl
theorem aNF {l : List (SV false)} (h : l.all SV.flat = true) (n : Nat) : (l.drop n).all SV.flat = true :=
  List.all_eq_true.2 fun x hx => List.all_eq_true.1 h x (List.mem_of_mem_drop hx)
theorem aK1 (n k : Nat) : (aNe n k).all SV.flat = true := aHW (aNF (aMd k) _)
theorem aJ1 {n k : Nat} (hl : n ≤ maxLen) (hk : n * 3 ≤ k) : Dd F.aWV [.bsl 0 3 0 n, .leaf (.int .i64 1)] [List.replicate k .any] = some (.leaf (.int .i64 (fR n 1)), [(aNe n k).map (reS li)]) :=
  sK rfl (aDY (k := 1) hl (aMd k) (by rw [List.length_replicate]; exact hk)) rfl (by rw [List.map_cons, List.map_replicate]; rfl) rfl
theorem aJB {n k : Nat} (hl : n ≤ maxLen) : Dd F.aWX [.bsl 0 3 0 n, .leaf (.int .i64 1)] [(aNe n k).map (reS li)] = some (.leaf (.int .i64 (fR n 1)), [(aNe n k).map (reS li)]) :=
  sK rfl (aDS (k := 1) hl (aNF (aMd k) _)) rfl (by rw [List.map_cons, aN7 (aK1 n k)]; rfl) rfl
theorem aG0 : ∀ (n : Nat) (k : Int), 0 ≤ k → k + 3 * n ≤ cap → 0 ≤ fR n k
  | 0, k, h, _ => h
  | n + 1, k, h, hc => by
    rw [fR]
    have e : mS k = k + 3 := by
      unfold mS
      simp only [cap] at hc
      rw [nS (z := k + 1) (by omega) (by omega), nS (z := k + 1 + 1) (by omega) (by omega), nS (z := k + 1 + 1 + 1) (by omega) (by omega)]; omega
    rw [e]
    exact aG0 n _ (by omega) (by omega)
end
end Go.Vs
end
section
open Go Go.Vs Go.Proofs
set_option linter.unusedVariables false
set_option linter.unusedSimpArgs false
set_option maxRecDepth 100000
namespace Go.Vs
noncomputable abbrev body : Code := yO Tryz.prog F.aWN
theorem hc0 : (xZ Tryz.prog F.aWN).body = some body := by kernel_rfl
theorem hfn : Tryz.prog.funcs[F.aWN]? = some (xZ Tryz.prog F.aWN) := by kernel_rfl
theorem spA : kF (0 + (7 + 1)) body = true := by kernel_rfl
theorem spB : kF (8 + (1 + 1)) body = true := by kernel_rfl
theorem spC : kF (10 + (3 + 1)) body = true := by kernel_rfl
theorem spD : kF (14 + (3 + 1)) body = true := by kernel_rfl
theorem nlD : wQ (sub body (way 18)) = true := by kernel_rfl
structure aQr (x0_0 : List (List (aC false))) (x0_1 : List (List (aC false))) (x0_2 : List (List (aC false))) (x1 : ByteArray) (x2 : List (List (aC false))) (w : List (List (aC false))) : Prop where
  wl : w.length ≤ maxLen
  wc : (w.length : Int) * 3 + 1 ≤ cap
  wq : ∀ e ∈ w, dP e
  spc : ∀ c0 c2 : Fl true, Dd F.aWT [.agg [.sl c0 (reE (fl c0) x0_0), .sl c0 (reE (fl c0) x0_1), .sl c0 (reE (fl c0) x0_2)], .leaf (.str x1), .leaf (.sl c2 (reE (fl c2) x2))] [] = some (.own (some T.aYr) (reE (fl dK) w), [])
  imp : ∀ c0 c2 : Fl true, Dd F.aWR [.agg [.sl c0 (reE (fl c0) x0_0), .sl c0 (reE (fl c0) x0_1), .sl c0 (reE (fl c0) x0_2)], .leaf (.str x1), .leaf (.sl c2 (reE (fl c2) x2))] [] = some (.own (some T.aYr) (reE (fl aQ) w), [])
  mn : ¬ mkE x2 (msL [.sl fP x0_0, .sl fP x0_1, .sl fP x0_2] (1)) < 0
  to0 : ∀ c : Fl true, Dd F.aX1 [.agg [.sl c (reE (fl c) x0_0), .sl c (reE (fl c) x0_1), .sl c (reE (fl c) x0_2)]] [] = some (.agg [.sl aQ (reE (fl aQ) x0_0), .sl aQ (reE (fl aQ) x0_1), .sl aQ (reE (fl aQ) x0_2)], [])
  eq0 : ∀ c c' : Fl true, Dd F.aX6 [.agg [.sl c (reE (fl c) x0_0), .sl c (reE (fl c) x0_1), .sl c (reE (fl c) x0_2)], .agg [.sl c' (reE (fl c') x0_0), .sl c' (reE (fl c') x0_1), .sl c' (reE (fl c') x0_2)]] [] = some (.leaf (.bool true), [])
  mk0 : ∀ k : Int, Dd F.aXi [.agg [.sl fW (soE x0_0), .sl fW (soE x0_1), .sl fW (soE x0_2)], .leaf (.int .i64 k)] [] = some (.leaf (.int .i64 (msL [.sl fP x0_0, .sl fP x0_1, .sl fP x0_2] (k))), [])
  to2 : ∀ c : Fl true, Dd F.aYu [.leaf (.sl c (reE (fl c) x2))] [] = some (.leaf (.sl aQ (reE (fl aQ) x2)), [])
  eq2 : ∀ c c' : Fl true, Dd F.aYL [.leaf (.sl c (reE (fl c) x2)), .leaf (.sl c' (reE (fl c') x2))] [] = some (.leaf (.bool true), [])
  mk2 : ∀ k : Int, Dd F.aX2 [.leaf (.sl fW (soE x2)), .leaf (.int .i64 k)] [] = some (.leaf (.int .i64 (mkE x2 (k))), [])
section
variable {ev0 ev1 : Value} {x0_0 : List (List (aC false))} {x0_1 : List (List (aC false))} {x0_2 : List (List (aC false))} {x1 : ByteArray} {x2 : List (List (aC false))} {w : List (List (aC false))}
theorem aQr.eqw (h : aQr x0_0 x0_1 x0_2 x1 x2 w) (c c' : Fl true) : Dd F.aXn [.leaf (.sl c (reE (fl c) w)), .leaf (.sl c' (reE (fl c') w))] [] = some (.leaf (.bool true), []) :=
  sK rfl (aIz h.wl h.wq) (by rw [List.map_cons, List.map_cons, aG5, aG5]; rfl) rfl rfl
theorem aUf : Vs.turn φ1 (fun _ => false) [] ({ tmps := (((dQ x1 dK (reE (fl dK) x2) tQ dK (reE (fl dK) x0_0) dK (reE (fl dK) x0_1) dK (reE (fl dK) x0_2) dK (reE (fl dK) w)).tmps.set 3 (.ptr 3 0)).set 8 (.own (some T.aYr) (reE (fl dK) w))), boxes := ((dQ x1 dK (reE (fl dK) x2) tQ dK (reE (fl dK) x0_0) dK (reE (fl dK) x0_1) dK (reE (fl dK) x0_2) dK (reE (fl dK) w)).boxes.set 3 (some [.leaf (.sl dK (reE (fl dK) x0_0)), .leaf (.sl dK (reE (fl dK) x0_1)), .leaf (.sl dK (reE (fl dK) x0_2))])) } : St true) = dQ x1 (φ1 dK) (tuE φ1 (fun _ => false) false (reE (fl dK) x2)) tQ (φ1 dK) (tuE φ1 (fun _ => false) false (reE (fl dK) x0_0)) (φ1 dK) (tuE φ1 (fun _ => false) false (reE (fl dK) x0_1)) (φ1 dK) (tuE φ1 (fun _ => false) false (reE (fl dK) x0_2)) (φ1 aQ) (tuE φ1 (fun _ => false) false (reE (fl dK) w)) := by
  kernel_rfl
theorem aUj : Vs.turn φ2 (fun _ => false) [] ({ tmps := ((bR x1 tA (reE (fl tA) x2) tQ tA (reE (fl tA) x0_0) tA (reE (fl tA) x0_1) tA (reE (fl tA) x0_2) tA (reE (fl tA) w) tQ aQ (reE (fl aQ) x0_0) aQ (reE (fl aQ) x0_1) aQ (reE (fl aQ) x0_2) aQ (reE (fl aQ) x2)).tmps.set 9 (.ptr 9 0)), boxes := ((bR x1 tA (reE (fl tA) x2) tQ tA (reE (fl tA) x0_0) tA (reE (fl tA) x0_1) tA (reE (fl tA) x0_2) tA (reE (fl tA) w) tQ aQ (reE (fl aQ) x0_0) aQ (reE (fl aQ) x0_1) aQ (reE (fl aQ) x0_2) aQ (reE (fl aQ) x2)).boxes.set 9 (some [.leaf (.sl aQ (reE (fl aQ) x0_0)), .leaf (.sl aQ (reE (fl aQ) x0_1)), .leaf (.sl aQ (reE (fl aQ) x0_2))])) } : St true) = bR x1 (φ2 tA) (tuE φ2 (fun _ => false) false (reE (fl tA) x2)) tQ (φ2 tA) (tuE φ2 (fun _ => false) false (reE (fl tA) x0_0)) (φ2 tA) (tuE φ2 (fun _ => false) false (reE (fl tA) x0_1)) (φ2 tA) (tuE φ2 (fun _ => false) false (reE (fl tA) x0_2)) (φ2 tA) (tuE φ2 (fun _ => false) false (reE (fl tA) w)) tQ (φ2 aQ) (tuE φ2 (fun _ => false) false (reE (fl aQ) x0_0)) (φ2 aQ) (tuE φ2 (fun _ => false) false (reE (fl aQ) x0_1)) (φ2 aQ) (tuE φ2 (fun _ => false) false (reE (fl aQ) x0_2)) (φ2 aQ) (tuE φ2 (fun _ => false) false (reE (fl aQ) x2)) := by
  kernel_rfl
theorem aS9 : Vs.turn φ3 σ3 [] ({ tmps := (bQ x1 tA (reE (fl tA) x2) tQ tA (reE (fl tA) x0_0) tA (reE (fl tA) x0_1) tA (reE (fl tA) x0_2) tA (reE (fl tA) w) tQ tX (reE (fl tX) x0_0) tX (reE (fl tX) x0_1) tX (reE (fl tX) x0_2) tX (reE (fl tX) x2) aQ (reE (fl aQ) w)).tmps.set 11 (.own (some T.aYr) (reE (fl aQ) w)), boxes := (bQ x1 tA (reE (fl tA) x2) tQ tA (reE (fl tA) x0_0) tA (reE (fl tA) x0_1) tA (reE (fl tA) x0_2) tA (reE (fl tA) w) tQ tX (reE (fl tX) x0_0) tX (reE (fl tX) x0_1) tX (reE (fl tX) x0_2) tX (reE (fl tX) x2) aQ (reE (fl aQ) w)).boxes } : St true) = bQ x1 (if σ3 tA then fW else φ3 tA) (tuE φ3 σ3 (σ3 tA) (reE (fl tA) x2)) tQ (if σ3 tA then fW else φ3 tA) (tuE φ3 σ3 (σ3 tA) (reE (fl tA) x0_0)) (if σ3 tA then fW else φ3 tA) (tuE φ3 σ3 (σ3 tA) (reE (fl tA) x0_1)) (if σ3 tA then fW else φ3 tA) (tuE φ3 σ3 (σ3 tA) (reE (fl tA) x0_2)) (if σ3 tA then fW else φ3 tA) (tuE φ3 σ3 (σ3 tA) (reE (fl tA) w)) tQ (if σ3 tX then fW else φ3 tX) (tuE φ3 σ3 (σ3 tX) (reE (fl tX) x0_0)) (if σ3 tX then fW else φ3 tX) (tuE φ3 σ3 (σ3 tX) (reE (fl tX) x0_1)) (if σ3 tX then fW else φ3 tX) (tuE φ3 σ3 (σ3 tX) (reE (fl tX) x0_2)) (if σ3 tX then fW else φ3 tX) (tuE φ3 σ3 (σ3 tX) (reE (fl tX) x2)) (if σ3 aQ then fW else φ3 aQ) (tuE φ3 σ3 (σ3 aQ) (reE (fl aQ) w)) := by
  kernel_rfl
theorem aVq (n k : Nat) : aPx (Vs.turn φ4 (fun _ => false) [11] (dR x1 tA (reE (fl tA) x2) tQ tA (reE (fl tA) x0_0) tA (reE (fl tA) x0_1) tA (reE (fl tA) x0_2) tA (reE (fl tA) w) tG (reE (fl tG) w))) 11 3 n k = oC x1 (φ4 tA) (tuE φ4 (fun _ => false) false (reE (fl tA) x2)) tQ (φ4 tA) (tuE φ4 (fun _ => false) false (reE (fl tA) x0_0)) (φ4 tA) (tuE φ4 (fun _ => false) false (reE (fl tA) x0_1)) (φ4 tA) (tuE φ4 (fun _ => false) false (reE (fl tA) x0_2)) (φ4 tA) (tuE φ4 (fun _ => false) false (reE (fl tA) w)) n (List.replicate k .any) := by
  kernel_rfl
theorem aVm : mP p2 ({ tmps := ((bR x1 tA (reE (fl tA) x2) tQ tA (reE (fl tA) x0_0) tA (reE (fl tA) x0_1) tA (reE (fl tA) x0_2) tA (reE (fl tA) w) tQ aQ (reE (fl aQ) x0_0) aQ (reE (fl aQ) x0_1) aQ (reE (fl aQ) x0_2) aQ (reE (fl aQ) x2)).tmps.set 9 (.ptr 9 0)), boxes := ((bR x1 tA (reE (fl tA) x2) tQ tA (reE (fl tA) x0_0) tA (reE (fl tA) x0_1) tA (reE (fl tA) x0_2) tA (reE (fl tA) w) tQ aQ (reE (fl aQ) x0_0) aQ (reE (fl aQ) x0_1) aQ (reE (fl aQ) x0_2) aQ (reE (fl aQ) x2)).boxes.set 9 (some [.leaf (.sl aQ (reE (fl aQ) x0_0)), .leaf (.sl aQ (reE (fl aQ) x0_1)), .leaf (.sl aQ (reE (fl aQ) x0_2))])) } : St true).boxes [] 0 ({ tmps := ((bR x1 tA (reE (fl tA) x2) tQ tA (reE (fl tA) x0_0) tA (reE (fl tA) x0_1) tA (reE (fl tA) x0_2) tA (reE (fl tA) w) tQ aQ (reE (fl aQ) x0_0) aQ (reE (fl aQ) x0_1) aQ (reE (fl aQ) x0_2) aQ (reE (fl aQ) x2)).tmps.set 9 (.ptr 9 0)), boxes := ((bR x1 tA (reE (fl tA) x2) tQ tA (reE (fl tA) x0_0) tA (reE (fl tA) x0_1) tA (reE (fl tA) x0_2) tA (reE (fl tA) w) tQ aQ (reE (fl aQ) x0_0) aQ (reE (fl aQ) x0_1) aQ (reE (fl aQ) x0_2) aQ (reE (fl aQ) x2)).boxes.set 9 (some [.leaf (.sl aQ (reE (fl aQ) x0_0)), .leaf (.sl aQ (reE (fl aQ) x0_1)), .leaf (.sl aQ (reE (fl aQ) x0_2))])) } : St true).tmps = true := by
  simp [mP, sT, aHb, aW, cM, asLeaf, bR, aGi, aCO, aSF, aBd (p := p2) (c := tA) rfl, aBd (p := p2) (c := aQ) rfl, show p2 tA = true from rfl, show p2 aQ = true from rfl]
theorem aVI : mP p3 ({ tmps := (bQ x1 tA (reE (fl tA) x2) tQ tA (reE (fl tA) x0_0) tA (reE (fl tA) x0_1) tA (reE (fl tA) x0_2) tA (reE (fl tA) w) tQ tX (reE (fl tX) x0_0) tX (reE (fl tX) x0_1) tX (reE (fl tX) x0_2) tX (reE (fl tX) x2) aQ (reE (fl aQ) w)).tmps.set 11 (.own (some T.aYr) (reE (fl aQ) w)), boxes := (bQ x1 tA (reE (fl tA) x2) tQ tA (reE (fl tA) x0_0) tA (reE (fl tA) x0_1) tA (reE (fl tA) x0_2) tA (reE (fl tA) w) tQ tX (reE (fl tX) x0_0) tX (reE (fl tX) x0_1) tX (reE (fl tX) x0_2) tX (reE (fl tX) x2) aQ (reE (fl aQ) w)).boxes } : St true).boxes [] 0 ({ tmps := (bQ x1 tA (reE (fl tA) x2) tQ tA (reE (fl tA) x0_0) tA (reE (fl tA) x0_1) tA (reE (fl tA) x0_2) tA (reE (fl tA) w) tQ tX (reE (fl tX) x0_0) tX (reE (fl tX) x0_1) tX (reE (fl tX) x0_2) tX (reE (fl tX) x2) aQ (reE (fl aQ) w)).tmps.set 11 (.own (some T.aYr) (reE (fl aQ) w)), boxes := (bQ x1 tA (reE (fl tA) x2) tQ tA (reE (fl tA) x0_0) tA (reE (fl tA) x0_1) tA (reE (fl tA) x0_2) tA (reE (fl tA) w) tQ tX (reE (fl tX) x0_0) tX (reE (fl tX) x0_1) tX (reE (fl tX) x0_2) tX (reE (fl tX) x2) aQ (reE (fl aQ) w)).boxes } : St true).tmps = true := by
  simp [mP, sT, aHb, aW, bQ, aGi, aCO, aSF, Fl.new, aBd (p := p3) (c := tA) rfl, aBd (p := p3) (c := tX) rfl, aBd (p := p3) (c := aQ) rfl, show p3 tA = true from rfl, show p3 tX = true from rfl, show p3 aQ = true from rfl]
theorem aVj : mP p4 (dR x1 tA (reE (fl tA) x2) tQ tA (reE (fl tA) x0_0) tA (reE (fl tA) x0_1) tA (reE (fl tA) x0_2) tA (reE (fl tA) w) tG (reE (fl tG) w)).boxes [11] 0 (dR x1 tA (reE (fl tA) x2) tQ tA (reE (fl tA) x0_0) tA (reE (fl tA) x0_1) tA (reE (fl tA) x0_2) tA (reE (fl tA) w) tG (reE (fl tG) w)).tmps = true := by
  simp [mP, sT, aHb, dR, aGi, aCO, aSF, aBd (p := p4) (c := tA) rfl, show p4 tA = true from rfl]
theorem aVD (h : aQr x0_0 x0_1 x0_2 x1 x2 w) {W w' : World} {act : Act} {A B : Nat} {w0 : World} {F2 F3 : Fr} {hB0 : B ≤ w0.heap.size} {Fx : Fr} {Ow : Own} {bm : Nat → Nat} (hA : W.heap.size ≤ A) (hAB : A ≤ B) (hB : B ≤ w'.heap.size)
    (hE : wA ev0 ∧ wA ev1) (hK : KOk W (KOf ev0 ev1)) (on : lJ Tryz.prog (xZ Tryz.prog F.aWN) W (N3 w0 A B F2 F3 hB0 (KOf ev0 ev1)) (dR x1 tA (reE (fl tA) x2) tQ tA (reE (fl tA) x0_0) tA (reE (fl tA) x0_1) tA (reE (fl tA) x0_2) tA (reE (fl tA) w) tG (reE (fl tG) w)) act w' Fx Ow bm) :
    (sub body (way 18)).wp Tryz.prog (bodyPost Tryz.prog (xZ Tryz.prog F.aWN) (aJy W)) act w' := by
  by_cases hw : w = []
  · have eqw0 := h.eqw
    have im0 := h.imp
    have mkn : ∀ (c : Fl true) (k : Int), Dd F.aWV [.leaf (.sl c []), .leaf (.int .i64 k)] [] = some (.leaf (.int .i64 k), []) := fun c k => sK rfl (aCr k) (by simp [reS, reF, reE]) rfl rfl
    have hdn : ∀ (c : Fl true) (k : Int), Dd F.aWX [.leaf (.sl c []), .leaf (.int .i64 k)] [] = some (.leaf (.int .i64 k), []) := fun c k => sK rfl (aB2 k) (by simp [reS, reF, reE]) rfl rfl
    rw [hw] at on
    simp only [hw, reE] at eqw0 im0
    refine aIV (H := Hs) hP (vE rfl hE) hfn hc0 spD nlD on fun J => ?_
    simp only [reE]
    rw [yR]
    simp -implicitDefEqProofs only [mkn, hdn, Option.bind_some, aX, oG, mZ, fT, cJ, cN, cB, bJ, cK, dZ, List.length_cons, List.length_nil, beq_self_eq_true, aG, h.to0, h.to2, im0, eqw0, show decide ((1 : Int) < 0) = false from rfl, aD, bne_self_eq_false, Bool.not_true, aBI]
  · have hpos : 0 < w.length := List.length_pos_iff.2 hw
    have hez : ∀ e ∈ reE (fl tG) w, e.length = 3 := jU fun e he => (h.wq e he).len
    obtain ⟨k, F', Ow', bm', R, hk, on'⟩ := aVZ on hA hB hAB [11] (t := 11) (of_decide_eq_true (by kernel_rfl)) (of_decide_eq_true (by kernel_rfl)) (es := reE (fl tG) w) (z := 3) rfl (by rw [bX]; exact hpos) hez aVj hK.lt
    rw [aVq] at on'
    simp only [aE0 (φ := φ4) (σ := fun _ => false) (c := tA) rfl, show φ4 tA = tA from rfl, bX] at on'
    rw [bX] at hk
    refine aIV (H := Hs) hP (vE rfl hE) hfn hc0 spD nlD on' fun J => ?_
    have hm := aJ1 (k := k) h.wl hk
    have hd := aJB (n := w.length) (k := k) h.wl
    have hf1 : ([List.replicate k (SV.any (m := true))].all fun (x : List (SV true)) => x.all SV.flat) = true := by
      simp only [List.all_cons, List.all_nil, Bool.and_true]
      rw [List.all_eq_true]; intro x hx; rw [List.eq_of_mem_replicate hx]; rfl
    have hf2 : ([(aNe w.length k).map (reS li)].all fun (x : List (SV true)) => x.all SV.flat) = true := by
      simp only [List.all_cons, List.all_nil, Bool.and_true]
      exact aTb (aK1 _ _)
    have he : ¬ fR w.length 1 < 0 := by
      have := aG0 w.length 1 (by omega) (by have := h.wc; simp only [cap] at *; omega)
      omega
    rw [xS]
    simp -implicitDefEqProofs only [hf1, hm, hd, Option.bind_some, aX, oG, mZ, fT, cJ, cN, cB, bJ, cK, dZ, List.length_cons, List.length_nil, beq_self_eq_true, aG, aCV, aBI, hf2, h.to0, h.to2, h.imp, h.eqw, he, decide_false, aD, bne_self_eq_false, Bool.not_true]
theorem aVK (h : aQr x0_0 x0_1 x0_2 x1 x2 w) {W w' : World} {act : Act} {A B : Nat} {F2 : Fr} {Fx : Fr} {Ow : Own} {bm : Nat → Nat} (hA : W.heap.size ≤ A) (hAB : A ≤ B) (hB : B ≤ w'.heap.size)
    (hE : wA ev0 ∧ wA ev1) (hK : KOk W (KOf ev0 ev1)) (on : lJ Tryz.prog (xZ Tryz.prog F.aWN) W (N2 A B F2 (KOf ev0 ev1)) ({ tmps := (bQ x1 tA (reE (fl tA) x2) tQ tA (reE (fl tA) x0_0) tA (reE (fl tA) x0_1) tA (reE (fl tA) x0_2) tA (reE (fl tA) w) tQ tX (reE (fl tX) x0_0) tX (reE (fl tX) x0_1) tX (reE (fl tX) x0_2) tX (reE (fl tX) x2) aQ (reE (fl aQ) w)).tmps.set 11 (.own (some T.aYr) (reE (fl aQ) w)), boxes := (bQ x1 tA (reE (fl tA) x2) tQ tA (reE (fl tA) x0_0) tA (reE (fl tA) x0_1) tA (reE (fl tA) x0_2) tA (reE (fl tA) w) tQ tX (reE (fl tX) x0_0) tX (reE (fl tX) x0_1) tX (reE (fl tX) x0_2) tX (reE (fl tX) x2) aQ (reE (fl aQ) w)).boxes } : St true) act w' Fx Ow bm) :
    (sub body (way 14)).wp Tryz.prog (bodyPost Tryz.prog (xZ Tryz.prog F.aWN) (aJy W)) act w' := by
  have on' := aV7 on hA hB hAB [] aVI hK.lt
  rw [aS9] at on'
  simp only [show σ3 tA = false from rfl, show σ3 tX = true from rfl, show σ3 aQ = false from rfl, aE0 (φ := φ3) (σ := σ3) (c := tA) rfl, aE0 (φ := φ3) (σ := σ3) (c := aQ) rfl, aQ7 (φ := φ3) (σ := σ3) (c := tX) rfl, Bool.false_eq_true, if_false, if_true, show φ3 tA = tA from rfl, show φ3 aQ = tG from rfl] at on'
  refine aLN (H := Hs) (s1 := dR x1 tA (reE (fl tA) x2) tQ tA (reE (fl tA) x0_0) tA (reE (fl tA) x0_1) tA (reE (fl tA) x0_2) tA (reE (fl tA) w) tG (reE (fl tG) w)) hP (vE rfl hE) hfn hc0 spD on' (fun J => ?_) fun a' w2 F' Ow' bm' on2 far => ?_
  · rw [yU]
    simp -implicitDefEqProofs only [h.mk0, h.mk2, Option.bind_some, aX, oG, mZ, fT, cJ, cN, cB, bJ, cK, dZ, List.length_cons, List.length_nil, beq_self_eq_true, aG, decide_eq_false h.mn, aE, h.eqw, Bool.not_true, aD]
    rfl
  · exact aVD h hA hAB (Nat.le_trans hB far.size) hE hK on2
theorem aVF (h : aQr x0_0 x0_1 x0_2 x1 x2 w) {W w' : World} {act : Act} {A : Nat} {Fx : Fr} {Ow : Own} {bm : Nat → Nat} (hA : W.heap.size ≤ A) (hB : A ≤ w'.heap.size)
    (hE : wA ev0 ∧ wA ev1) (hK : KOk W (KOf ev0 ev1)) (on : lJ Tryz.prog (xZ Tryz.prog F.aWN) W (N1 A (KOf ev0 ev1)) ({ tmps := ((bR x1 tA (reE (fl tA) x2) tQ tA (reE (fl tA) x0_0) tA (reE (fl tA) x0_1) tA (reE (fl tA) x0_2) tA (reE (fl tA) w) tQ aQ (reE (fl aQ) x0_0) aQ (reE (fl aQ) x0_1) aQ (reE (fl aQ) x0_2) aQ (reE (fl aQ) x2)).tmps.set 9 (.ptr 9 0)), boxes := ((bR x1 tA (reE (fl tA) x2) tQ tA (reE (fl tA) x0_0) tA (reE (fl tA) x0_1) tA (reE (fl tA) x0_2) tA (reE (fl tA) w) tQ aQ (reE (fl aQ) x0_0) aQ (reE (fl aQ) x0_1) aQ (reE (fl aQ) x0_2) aQ (reE (fl aQ) x2)).boxes.set 9 (some [.leaf (.sl aQ (reE (fl aQ) x0_0)), .leaf (.sl aQ (reE (fl aQ) x0_1)), .leaf (.sl aQ (reE (fl aQ) x0_2))])) } : St true) act w' Fx Ow bm) :
    (sub body (way 10)).wp Tryz.prog (bodyPost Tryz.prog (xZ Tryz.prog F.aWN) (aJy W)) act w' := by
  have on' := aVV on [] aVm
  rw [aUj] at on'
  simp only [aE0 (φ := φ2) (σ := fun _ => false) (c := tA) rfl, aE0 (φ := φ2) (σ := fun _ => false) (c := aQ) rfl, show φ2 tA = tA from rfl, show φ2 aQ = tX from rfl] at on'
  refine aLN (H := Hs) (s1 := { tmps := (bQ x1 tA (reE (fl tA) x2) tQ tA (reE (fl tA) x0_0) tA (reE (fl tA) x0_1) tA (reE (fl tA) x0_2) tA (reE (fl tA) w) tQ tX (reE (fl tX) x0_0) tX (reE (fl tX) x0_1) tX (reE (fl tX) x0_2) tX (reE (fl tX) x2) aQ (reE (fl aQ) w)).tmps.set 11 (.own (some T.aYr) (reE (fl aQ) w)), boxes := (bQ x1 tA (reE (fl tA) x2) tQ tA (reE (fl tA) x0_0) tA (reE (fl tA) x0_1) tA (reE (fl tA) x0_2) tA (reE (fl tA) w) tQ tX (reE (fl tX) x0_0) tX (reE (fl tX) x0_1) tX (reE (fl tX) x0_2) tX (reE (fl tX) x2) aQ (reE (fl aQ) w)).boxes }) hP (vE rfl hE) hfn hc0 spC on' (fun J => ?_) fun a' w2 F' Ow' bm' on2 far => ?_
  · rw [yQ]
    simp -implicitDefEqProofs only [h.to0, h.to2, h.imp, h.eq0, h.eq2, Option.bind_some, aX, oG, mZ, fT, cJ, cN, cB, bJ, cK, dZ, List.length_cons, List.length_nil, beq_self_eq_true, aG, h.eqw, Bool.not_true, aD]
    rfl
  · exact aVK h hA hB far.size hE hK on2
theorem aVx (h : aQr x0_0 x0_1 x0_2 x1 x2 w) {W w' : World} {act : Act} {A : Nat} {Fx : Fr} {Ow : Own} {bm : Nat → Nat} (hA : W.heap.size ≤ A) (hB : A ≤ w'.heap.size)
    (hE : wA ev0 ∧ wA ev1) (hK : KOk W (KOf ev0 ev1)) (on : lJ Tryz.prog (xZ Tryz.prog F.aWN) W (N1 A (KOf ev0 ev1)) (dQ x1 tA (reE (fl tA) x2) tQ tA (reE (fl tA) x0_0) tA (reE (fl tA) x0_1) tA (reE (fl tA) x0_2) tA (reE (fl tA) w)) act w' Fx Ow bm) :
    (sub body (way 8)).wp Tryz.prog (bodyPost Tryz.prog (xZ Tryz.prog F.aWN) (aJy W)) act w' := by
  refine aLN (H := Hs) (s1 := { tmps := ((bR x1 tA (reE (fl tA) x2) tQ tA (reE (fl tA) x0_0) tA (reE (fl tA) x0_1) tA (reE (fl tA) x0_2) tA (reE (fl tA) w) tQ aQ (reE (fl aQ) x0_0) aQ (reE (fl aQ) x0_1) aQ (reE (fl aQ) x0_2) aQ (reE (fl aQ) x2)).tmps.set 9 (.ptr 9 0)), boxes := ((bR x1 tA (reE (fl tA) x2) tQ tA (reE (fl tA) x0_0) tA (reE (fl tA) x0_1) tA (reE (fl tA) x0_2) tA (reE (fl tA) w) tQ aQ (reE (fl aQ) x0_0) aQ (reE (fl aQ) x0_1) aQ (reE (fl aQ) x0_2) aQ (reE (fl aQ) x2)).boxes.set 9 (some [.leaf (.sl aQ (reE (fl aQ) x0_0)), .leaf (.sl aQ (reE (fl aQ) x0_1)), .leaf (.sl aQ (reE (fl aQ) x0_2))])) }) hP (vE rfl hE) hfn hc0 spB on (fun J => ?_) fun a' w2 F' Ow' bm' on2 far => ?_
  · rw [yW]
    simp -implicitDefEqProofs only [h.to0, h.to2, Option.bind_some, aX, oG, mZ, fT, cJ, cN, cB, bJ, cK, dZ, List.length_cons, List.length_nil, beq_self_eq_true, aG]
    rfl
  · exact aVF h hA (Nat.le_trans hB far.size) hE hK on2
theorem aVJ (sz0 : ∀ (c : Fl true) (n : Int), 0 ≤ n → Dd F.aXW [.agg [.sl c (reE (fl c) x0_0), .sl c (reE (fl c) x0_1), .sl c (reE (fl c) x0_2)], .leaf (.int .i64 n)] [] = some (.leaf (.int .i64 (szL [.sl fP x0_0, .sl fP x0_1, .sl fP x0_2] n)), [])) (sz2 : ∀ (c : Fl true) (n : Int), 0 ≤ n → Dd F.aYF [.leaf (.sl c (reE (fl c) x2)), .leaf (.int .i64 n)] [] = some (.leaf (.int .i64 (szF (.sl fP x2) n)), [])) (fits : x1.size ≤ 1048576 → 0 ≤ szL [.sl fP x0_0, .sl fP x0_1, .sl fP x0_2] 1048576 → 0 ≤ szF (.sl fP x2) (szL [.sl fP x0_0, .sl fP x0_1, .sl fP x0_2] 1048576) → aQr x0_0 x0_1 x0_2 x1 x2 w) {W : World} {act : Act} {Fx : Fr} {Ow : Own} {bm : Nat → Nat}
    (hE : wA ev0 ∧ wA ev1) (hK : KOk W (KOf ev0 ev1)) (on : lJ Tryz.prog (xZ Tryz.prog F.aWN) W (N0 W (KOf ev0 ev1)) (kI dK (reE (fl dK) x0_0) dK (reE (fl dK) x0_1) dK (reE (fl dK) x0_2) x1 dK (reE (fl dK) x2)) act W Fx Ow bm) :
    (sub body (way 0)).wp Tryz.prog (bodyPost Tryz.prog (xZ Tryz.prog F.aWN) (aJy W)) act W := by
  by_cases hn1 : (x1.size : Int) > 1048576
  · refine aCX (H := Hs) hP (vE rfl hE) hfn hc0 spA on fun J => ?_
    rw [iD]
    simp -implicitDefEqProofs only [Option.bind_some, aX, oG, mZ, fT, cJ, cN, cB, bJ, cK, dZ, List.length_cons, List.length_nil, beq_self_eq_true, aG, decide_eq_true hn1, aE, aD]
  · by_cases hn0 : szL [.sl fP x0_0, .sl fP x0_1, .sl fP x0_2] 1048576 < 0
    · refine aCX (H := Hs) hP (vE rfl hE) hfn hc0 spA on fun J => ?_
      rw [iD]
      simp -implicitDefEqProofs only [sz0 dK 1048576 (by omega), Option.bind_some, aX, oG, mZ, fT, cJ, cN, cB, bJ, cK, dZ, List.length_cons, List.length_nil, beq_self_eq_true, aG, decide_eq_false hn1, decide_eq_true hn0, aE, aD]
    · by_cases hn2 : szF (.sl fP x2) (szL [.sl fP x0_0, .sl fP x0_1, .sl fP x0_2] 1048576) < 0
      · refine aCX (H := Hs) hP (vE rfl hE) hfn hc0 spA on fun J => ?_
        rw [iD]
        simp -implicitDefEqProofs only [sz0 dK 1048576 (by omega), sz2 dK (szL [.sl fP x0_0, .sl fP x0_1, .sl fP x0_2] 1048576) (by omega), Option.bind_some, aX, oG, mZ, fT, cJ, cN, cB, bJ, cK, dZ, List.length_cons, List.length_nil, beq_self_eq_true, aG, decide_eq_false hn1, decide_eq_false hn0, decide_eq_true hn2, aE, aD]
      · have h := fits (by omega) (by omega) (by omega)
        refine aLN (H := Hs) (s1 := { tmps := (((dQ x1 dK (reE (fl dK) x2) tQ dK (reE (fl dK) x0_0) dK (reE (fl dK) x0_1) dK (reE (fl dK) x0_2) dK (reE (fl dK) w)).tmps.set 3 (.ptr 3 0)).set 8 (.own (some T.aYr) (reE (fl dK) w))), boxes := ((dQ x1 dK (reE (fl dK) x2) tQ dK (reE (fl dK) x0_0) dK (reE (fl dK) x0_1) dK (reE (fl dK) x0_2) dK (reE (fl dK) w)).boxes.set 3 (some [.leaf (.sl dK (reE (fl dK) x0_0)), .leaf (.sl dK (reE (fl dK) x0_1)), .leaf (.sl dK (reE (fl dK) x0_2))])) }) hP (vE rfl hE) hfn hc0 spA on (fun J => ?_) fun a' w2 F' Ow' bm' on2 far => ?_
        · rw [iD]
          simp -implicitDefEqProofs only [sz0 dK 1048576 (by omega), sz2 dK (szL [.sl fP x0_0, .sl fP x0_1, .sl fP x0_2] 1048576) (by omega), Option.bind_some, aX, oG, mZ, fT, cJ, cN, cB, bJ, cK, dZ, List.length_cons, List.length_nil, beq_self_eq_true, aG, decide_eq_false hn1, decide_eq_false hn0, decide_eq_false hn2, aE, aD, h.to0, h.to2, h.spc]
          rfl
        · have on3 := aVU (K := (KOf ev0 ev1)) on2 (fun _ => rfl) []
          rw [aUf] at on3
          simp only [aE0 (φ := φ1) (σ := fun _ => false) (c := dK) rfl, show φ1 dK = tA from rfl, show φ1 aQ = tA from rfl] at on3
          exact aVx h far.size (Nat.le_refl _) hE hK on3
end
end Go.Vs
end
section
set_option linter.unusedVariables false
namespace Go.Vs
open Go
variable {m : Bool}
theorem aUl (a b : List (List (aC m))) : kK (a ++ b) = kK a ++ kK b := by simp [kK]
theorem aNL (e : List (aC m)) (b : List (List (aC m))) : kK (e :: b) = e.map SV.leaf ++ kK b := by simp [kK]
theorem aQs {z : Nat} {L : List (List (aC m))} (h : ∀ e ∈ L, e.length = z) : (kK L).length = L.length * z := by unfold kK; rw [List.length_map, tY h]
theorem aLX {z i : Nat} {L : List (List (aC m))} (h : ∀ e ∈ L, e.length = z) (hi : i ≤ L.length) : kK L = kK (L.take i) ++ kK (L.drop i) ∧ (kK (L.take i)).length = i * z := by
  refine ⟨by rw [← aUl, List.take_append_drop], ?_⟩
  rw [aQs (fun e he => h e (List.mem_of_mem_take he)), List.length_take, Nat.min_eq_left hi]
theorem aTS {z i : Nat} {L : List (List (aC m))} (h : ∀ e ∈ L, e.length = z) (hi : i < L.length) : cM (((kK L).drop (i * z)).take z) = some L[i] := by
  obtain ⟨h1, h2⟩ := aLX h (Nat.le_of_lt hi)
  rw [h1, List.drop_left' h2, List.drop_eq_getElem_cons hi, aNL, List.take_left' (by rw [List.length_map]; exact h _ (List.getElem_mem hi))]
  exact zQ _
theorem aPK {p : SV m → Bool} {L : List (List (aC m))} (hp : ∀ l : aC m, p (.leaf l) = true) : (kK L).all p = true := by
  rw [List.all_eq_true]; intro x hx
  unfold kK at hx
  obtain ⟨l, _, rfl⟩ := List.mem_map.1 hx
  exact hp l
end Go.Vs
end
section
open Go Go.Vs Go.Proofs
set_option linter.unusedVariables false
set_option linter.unusedSimpArgs false
namespace Go.Vs
def mG (s : ByteArray) (c : UInt8) : Bool := decide (0 < s.size) && (s.data.toList.getD (s.size - 1) 0 == c)
def cut (s : ByteArray) : ByteArray := s.extract 0 (s.size - 1)
theorem aQk (s : ByteArray) : (cut s).size = s.size - 1 := by unfold cut; rw [ByteArray.size_extract]; omega
theorem aH8 {n d : Nat} (h : n ≤ maxLen) (hd : d ≤ n) : IntKind.i64.wrap ((n : Int) - (d : Int)) = ((n - d : Nat) : Int) := by
  have hm : maxLen = 9223372036854775807 := rfl
  rw [nS (by omega) (by omega)]; omega
theorem aFU {n : Nat} (h : n ≤ maxLen) (hd : 0 < n) : IntKind.i64.wrap ((n : Int) - 1) = ((n - 1 : Nat) : Int) := aH8 h (show 1 ≤ n by omega)
theorem tl (s : ByteArray) : s.toList = s.data.toList := by first | exact ByteArray.toList_eq s | exact Go.ByteArray.toList_eq s
theorem aOf (s : ByteArray) : s.data.toList.length = s.size := by rw [Array.length_toList]; rfl
theorem aQ1 (s : ByteArray) (c : UInt8) (h : 0 < s.size) : ((s.extract (s.size - 1) s.size).toList == (ByteArray.mk #[c]).toList) = mG s c := by
  have hl := aOf s
  have e1 : (s.extract (s.size - 1) s.size).toList = [s.data.toList.getD (s.size - 1) 0] := by
    rw [tl, ByteArray.data_extract, Array.toList_extract, List.extract_eq_take_drop]
    have : s.data.toList.drop (s.size - 1) = [s.data.toList.getD (s.size - 1) 0] := by
      rw [List.drop_eq_getElem_cons (by omega), List.drop_of_length_le (by omega)]
      rw [List.getD_eq_getElem?_getD, List.getElem?_eq_getElem (show s.size - 1 < s.data.toList.length by omega)]; rfl
    rw [this]
    have : s.size - (s.size - 1) = 1 := by omega
    rw [this]; rfl
  have e2 : (ByteArray.mk #[c]).toList = [c] := by rw [tl]
  rw [e1, e2]
  unfold mG
  simp -implicitDefEqProofs only [h, decide_true, Bool.true_and]
  cases hx : (s.data.toList.getD (s.size - 1) 0 == c) <;> simp_all
theorem aFc {w : ByteArray} {c : UInt8} (he : mG w c = true) : 0 < w.size := by unfold mG at he; simp at he; omega
theorem aUW (x : UInt8) (c : Nat) (hc : c < 256) : (((x.toNat : Nat) : Int) == (c : Int)) = (x == UInt8.ofNat c) := by
  rw [Bool.eq_iff_iff, beq_iff_eq, beq_iff_eq, ← UInt8.toNat_inj]
  simp -implicitDefEqProofs only [UInt8.toNat_ofNat']
  omega
theorem aRU {w : ByteArray} (c : Nat) (hc : c < 256) (hp : 0 < w.size) (hw : w.size ≤ maxLen) : (((w.data.toList.getD (IntKind.i64.wrap ((w.size : Int) - 1)).toNat 0).toNat : Int) == (c : Int)) = mG w (UInt8.ofNat c) := by
  rw [aFU hw hp, Int.toNat_natCast, aUW _ c hc]; unfold mG; simp -implicitDefEqProofs only [hp, decide_true, Bool.true_and]
theorem aTT {w : ByteArray} (hp : 0 < w.size) (hw : w.size ≤ maxLen) : (decide (0 ≤ IntKind.i64.wrap ((w.size : Int) - 1)) && decide ((IntKind.i64.wrap ((w.size : Int) - 1)).toNat ≤ w.size)) = true := by
  rw [aFU hw hp, Int.toNat_natCast]; simp
theorem aTD {w : ByteArray} (hp : 0 < w.size) (hw : w.size ≤ maxLen) : (decide (0 ≤ IntKind.i64.wrap ((w.size : Int) - 1)) && decide (IntKind.i64.wrap ((w.size : Int) - 1) < (w.size : Int))) = true := by
  rw [aFU hw hp]; simp; omega
theorem aUg {w : ByteArray} (hp : 0 < w.size) (hw : w.size ≤ maxLen) : w.extract 0 (IntKind.i64.wrap ((w.size : Int) - 1)).toNat = cut w := by
  rw [aFU hw hp, Int.toNat_natCast]; rfl
theorem aVz (w : ByteArray) : (w.toList == (ByteArray.mk #[]).toList) = ((w.size : Int) == 0) := by
  have hl := aOf w
  rw [tl, tl]
  show (w.data.toList == []) = _
  cases hx : w.data.toList with
  | nil => rw [hx] at hl; simp at hl; rw [← hl]; rfl
  | cons a r => rw [hx] at hl; simp at hl; rw [← hl]; simp; omega
theorem aE2 {s : ByteArray} {c : UInt8} (hs : s.size ≤ maxLen) : Dn F.aWJ [.leaf (.str s), .leaf (.str ⟨#[c]⟩)] [] = some (aH (mG s c), []) := by
  refine aP ?_
  rw [tK]
  have h1 : (ByteArray.mk #[c]).size = 1 := rfl
  rw [h1]
  by_cases h : 0 < s.size
  · have hw := aH8 hs (show 1 ≤ s.size by omega)
    simp -implicitDefEqProofs only [hw, show ((s.size : Nat) : Int) ≥ ((1 : Nat) : Int) by omega, decide_true, beq_self_eq_true, aE, Int.natCast_nonneg, Bool.true_and, Bool.and_true, Int.toNat_natCast, Nat.sub_le, Nat.le_refl, aG]
    rw [aQ1 s c h]
  · have h0 : ¬ ((s.size : Nat) : Int) ≥ ((1 : Nat) : Int) := by omega
    simp -implicitDefEqProofs only [h0, decide_false, show ((false : Bool) == true) = false from rfl, aD]
    have : mG s c = false := by unfold mG; simp [h]
    rw [this]
theorem aQh {s : ByteArray} {c : UInt8} (hs : s.size ≤ maxLen) : Dn F.aWZ [.leaf (.str s), .leaf (.str ⟨#[c]⟩)] [] = some (.tup [.leaf (.str (if mG s c then cut s else s)), aH (mG s c)], []) := by
  have h1 : (ByteArray.mk #[c]).size = 1 := rfl
  have key : Dn F.aWI [.leaf (.str s), .leaf (.str ⟨#[c]⟩)] [] = some (.tup [.leaf (.str (if mG s c then cut s else s)), aH (mG s c)], []) := by
    refine aP ?_
    rw [tD, aE2 hs, h1, dO]
    cases he : mG s c with
    | false => simp
    | true =>
      have h := aFc he
      have hw := aH8 hs (show 1 ≤ s.size by omega)
      simp -implicitDefEqProofs only [hw, Bool.not_true, aD, Int.natCast_nonneg, decide_true, Bool.true_and, Int.toNat_natCast, Nat.sub_le, aG, if_true]
      rfl
  refine aP ?_
  rw [aDJ, key]
  simp -implicitDefEqProofs only [rdR, pH, beq_self_eq_true, Bool.not_true, Bool.not_false, Bool.and_true, Bool.true_and, bT, bF]
theorem yX {s : ByteArray} {c : UInt8} (hs : s.size ≤ maxLen) : Dn F.aWY [.leaf (.str s), .leaf (.str ⟨#[c]⟩)] [] = some (aH (mG s c), []) := by
  refine aP ?_
  rw [aD2, aE2 hs, dO]
theorem aGx {x : eM} (hs : x.a1.size ≤ maxLen) : Dn F.aYV [.agg x.l] [] = some (aH (mG x.a1 33), []) := by
  refine aP ?_
  rw [aLG, yX hs, dO]
theorem aBp {x : eM} (hs : x.a1.size ≤ maxLen) : Dn F.aYM [.agg x.l] [] = some (aH (mG x.a1 33), []) := by
  refine aP ?_
  rw [aLD]
  by_cases h : 0 < x.a1.size
  · have hl := aRU 33 (by omega) h hs
    rw [show ((33 : Nat) : Int) = 33 from rfl] at hl
    simp -implicitDefEqProofs only [aTD h hs, hl, show ((x.a1.size : Nat) : Int) > 0 by omega, decide_true, beq_self_eq_true, aE, aG]
    rfl
  · have h0 : ¬ ((x.a1.size : Nat) : Int) > 0 := by omega
    simp -implicitDefEqProofs only [h0, decide_false, show ((false : Bool) == true) = false from rfl, aD]
    have : mG x.a1 33 = false := by unfold mG; simp [h]
    rw [this]
end Go.Vs
end
section
open Go Go.Vs Go.Proofs
set_option linter.unusedVariables false
set_option linter.unusedSimpArgs false
namespace Go.Vs
theorem aKU {es : List El} {s : ByteArray} (hl : es.length ≤ maxLen) (hq : ∀ e ∈ es, dB e) : Dn F.aZr [vsl es, .leaf (.str s)] [] = some (aI (fI (at0 s) 0 es), []) := by
  refine aP ?_
  rw [aNh]
  refine pI (es := es) (A := fun i => oD Dn (aA1 es s i)) (by rw [aFl]; simp) fun i hi => ?_
  obtain ⟨x, hx, _⟩ := (hq _ (List.getElem_mem hi)).st
  rw [aFl]
  simp -implicitDefEqProofs only [inI, hi, aV (Nat.lt_of_lt_of_le hi hl), aN (fun e he => (hq e he).len), bI hi, hx, atP]
  rfl
theorem pJ {es : List El} {s : ByteArray} (hl : es.length ≤ maxLen) (hq : ∀ e ∈ es, jS e) : Dn F.aYJ [vsl es, .leaf (.str s)] [] = some (aH (es.any (at0 s)), []) := by
  refine aP ?_
  rw [aLf]
  refine aT5 (es := es) (A := fun i => lK Dn (wS es s i)) (by rw [aBS]; simp) fun i hi => ?_
  obtain ⟨u, hu, _⟩ := hq _ (List.getElem_mem hi)
  rw [aBS]
  simp -implicitDefEqProofs only [inI, hi, aV (Nat.lt_of_lt_of_le hi hl), aN (fun e he => (hq e he).len), bI hi, hu, aRY, aTw, aEV, aVb]
  rfl
theorem vA {es : List El} {s : ByteArray} (hl : es.length ≤ maxLen) (hq : ∀ e ∈ es, jS e) : Dn F.aWH [vsl es, .leaf (.str s)] [] = some (aH (es.any (at0 s)), []) := by
  have key : Dn F.aWM [vsl es, .leaf (.str s)] [] = some (aI (fI (at0 s) 0 es), []) := by
    refine aP ?_
    rw [uP]
    refine pI (es := es) (A := fun i => cW Dn (gK es s es.length i)) (by rw [mD]; simp) fun i hi => ?_
    obtain ⟨u, hu, _⟩ := hq _ (List.getElem_mem hi)
    rw [mD]
    simp -implicitDefEqProofs only [inI, hi, aV (Nat.lt_of_lt_of_le hi hl), aN (fun e he => (hq e he).len), bI hi, hu, aRY, aTw, aEV, aVb, aUP s.toList]
    rfl
  refine aP ?_
  rw [rW, key, mN, uI _ _ _ (by omega)]
theorem aKK {es : List El} {s : ByteArray} (hl : es.length ≤ maxLen) (hq : ∀ e ∈ es, dB e) : Dn F.aZu [vsl es, .leaf (.str s)] [] = some (aI (fI (at0 s) 0 es), []) := by
  have key : Dn F.aWv [vsl es, .fn F.aYz [.ptr 0 0]] [[.leaf (.str s)]] = some (aI (fI (at0 s) 0 es), [[.leaf (.str s)]]) := by
    refine aP ?_
    rw [mA]
    refine pI (es := es) (A := fun i => bH Dn (dI es F.aYz es.length i s)) (by rw [gC]; simp) fun i hi => ?_
    obtain ⟨x, hx, _⟩ := (hq _ (List.getElem_mem hi)).st
    have hc : Dn F.aYz [.agg x.l, .ptr 0 0] [[.leaf (.str s)]] = some (aH (x.a0.toList == s.toList), [[.leaf (.str s)]]) := aP (aLc ..)
    rw [gC]
    simp -implicitDefEqProofs only [inI, hi, aV (Nat.lt_of_lt_of_le hi hl), aN (fun e he => (hq e he).len), bI hi, hx, bV.rd_l, hc, zX]
    rfl
  refine aP ?_
  rw [aNv, key, aE9]
def aA3 : bS := ⟨nul, nul, [], nul, nul, []⟩
theorem aOh : cC aA3.l := show cC [.str nul, .str nul, .sl fP [], .str nul, .str nul, .sl fP []] from .mk nul nul [] nul nul [] (by decide) (by decide) (by decide) (fun _ h => by cases h) (by decide) (by decide) (by decide) (fun _ h => by cases h)
def aCq (es : List El) (s : ByteArray) : bS := if fI (at0 s) 0 es < 0 then aA3 else .of (es.getD (fI (at0 s) 0 es).toNat [])
theorem aUH {es : List El} {s : ByteArray} (hq : ∀ e ∈ es, cC e) : cC (aCq es s).l := by
  unfold aCq
  split
  · exact aOh
  · rename_i h
    obtain ⟨j, hj, hi, _⟩ := rX h
    obtain ⟨y, hy, iy⟩ := (hq _ (List.getElem_mem hj)).st
    rw [hi, Int.toNat_natCast, bI hj, hy]
    exact iy
theorem aMy {x : aJ} {s : ByteArray} (hx : fC x.l) : Dn F.aYq [.agg x.l, .leaf (.str s)] [] = some (.tup [.agg (aCq x.a5 s).l, aH (!decide (fI (at0 s) 0 x.a5 < 0))], []) := by
  obtain ⟨_, _, _, _, hl, hq, _⟩ := hx.p
  have key : Dn F.aWs [vsl x.a5, .fn F.aXr [.ptr 0 0]] [[.leaf (.str s)]] = some (aI (fI (at0 s) 0 x.a5), [[.leaf (.str s)]]) := by
    refine aP ?_
    rw [kC]
    refine pI (es := x.a5) (A := fun i => aY Dn (cT x.a5 F.aXr x.a5.length i s)) (by rw [eW]; simp) fun i hi => ?_
    obtain ⟨x, hx, _⟩ := (hq _ (List.getElem_mem hi)).st
    have hc : Dn F.aXr [.agg x.l, .ptr 0 0] [[.leaf (.str s)]] = some (aH (x.a0.toList == s.toList), [[.leaf (.str s)]]) := aP (aHl ..)
    rw [eW]
    simp -implicitDefEqProofs only [inI, hi, aV (Nat.lt_of_lt_of_le hi hl), aN (fun e he => (hq e he).len), bI hi, hx, bS.rd_l, hc, zX]
    rfl
  refine aP ?_
  rw [aJw, key, aE9]
  unfold aCq
  by_cases h : fI (at0 s) 0 x.a5 < 0
  · simp -implicitDefEqProofs only [h, decide_true, aE, if_true]
    rfl
  · obtain ⟨j, hj, hi, _⟩ := rX h
    obtain ⟨y, hy, iy⟩ := (hq _ (List.getElem_mem hj)).st
    have hn : ¬ ((j : Int) < 0) := by omega
    simp -implicitDefEqProofs only [decide_false, aD, hi, hn, if_false, inI, hj, aN (fun e he => (hq e he).len), bI hj, hy, bS.rd_l, bS.of_l]
    rfl
def aMw (e : El) : Bool := mG (cR e 3) 33 && !aOX e 4
def vN (es : List El) : List El := es.flatMap fun e => ifP (aMw e) [.str (cR e 0)]
theorem aMP (es : List El) : vN es = nW (fun _ e => ifP (aMw e) [.str (cR e 0)]) 0 es := (aFs _ _ _).symm
theorem aBX (es : List El) : (vN es).length ≤ es.length := by
  rw [aMP]
  have := zY (g := fun _ e => ifP (aMw e) [.str (cR e 0)]) (c := 1) es 0 fun j hj => lZ _ _
  omega
theorem wN {es : List El} (hq : ∀ e ∈ es, dB e) : ∀ e ∈ vN es, jS e := by
  intro e he
  unfold vN at he
  obtain ⟨x, hx, hm⟩ := List.mem_flatMap.1 he
  obtain ⟨_, rfl⟩ := aRF hm
  obtain ⟨y, rfl, iy⟩ := (hq x hx).st
  exact ⟨y.a0, rfl, iy.p.1⟩
theorem aA4 {es : List El} (hl : es.length ≤ 1048576) (hq : ∀ e ∈ es, dB e) : Dn F.aXf [vsl es] [] = some (.own (some T.aZz) (vN es), []) := by
  have hml : (1048576 : Nat) ≤ maxLen := by decide
  refine aP ?_
  rw [aF5, aMP]
  refine uA (es := es) (g := fun _ e => ifP (aMw e) [.str (cR e 0)]) (c := 1) (N := 4000000) (A := fun out i => cP Dn (pS es out i)) (fin := fun out => some (.own (some T.aZz) out, [])) (fun j hj => lZ _ _) (fun out _ => by rw [yJ]; simp) (fun i hi out ho => ?_) (by omega)
  obtain ⟨x, hx, ix⟩ := (hq _ (List.getElem_mem hi)).st
  have hn := aBp (x := ⟨x.a2, x.a3⟩) ix.p.2.2.2.1
  have hw := aV (Nat.lt_of_lt_of_le hi (Nat.le_trans hl hml))
  rw [yJ, hx]
  simp -implicitDefEqProofs only [inI, hi, aN (fun e he => (hq e he).len), bI hi, hx, dV, atP, hn, dO, bT]
  rw [show aMw x.l = (mG x.a3 33 && !x.a4) from rfl, show cR x.l 0 = x.a0 from rfl]
  cases mG x.a3 33 <;> cases x.a4 <;> simp -implicitDefEqProofs only [aE, aD, Bool.not_true, Bool.not_false, Bool.and_true, Bool.and_false, Bool.true_and, Bool.false_and, rM, pL, List.append_nil, aFx, aEG, inI, hi, aN (fun e he => (hq e he).len), bI hi, hx, atP, aOY (z := 16) (show out.length + 1 ≤ 1000000000000 by omega) (by decide), hw]
theorem aA0 {es : List El} (hl : es.length ≤ 1048576) (hq : ∀ e ∈ es, dB e) : Dn F.aXg [vsl es] [] = some (.own (some T.aZz) (vN es), []) := by
  have hml : (1048576 : Nat) ≤ maxLen := by decide
  refine aP ?_
  rw [aF2, aMP]
  refine uA (es := es) (g := fun _ e => ifP (aMw e) [.str (cR e 0)]) (c := 1) (N := 4000000) (A := fun out i => cO Dn (pT out es es.length i)) (fin := fun out => some (.own (some T.aZz) out, [])) (fun j hj => lZ _ _) (fun out _ => by rw [yD]; simp) (fun i hi out ho => ?_) (by omega)
  obtain ⟨x, hx, ix⟩ := (hq _ (List.getElem_mem hi)).st
  have hn := aGx (x := ⟨x.a2, x.a3⟩) ix.p.2.2.2.1
  have hw := aV (Nat.lt_of_lt_of_le hi (Nat.le_trans hl hml))
  rw [yD, hx]
  simp -implicitDefEqProofs only [inI, hi, aN (fun e he => (hq e he).len), bI hi, hx, bV.rd_l, hn, dO, bT]
  rw [show aMw x.l = (mG x.a3 33 && !x.a4) from rfl, show cR x.l 0 = x.a0 from rfl]
  cases mG x.a3 33 <;> cases x.a4 <;> simp -implicitDefEqProofs only [aE, aD, Bool.not_true, Bool.not_false, Bool.and_true, Bool.and_false, Bool.true_and, Bool.false_and, rM, pL, List.append_nil, aEy, aEj, aOY (z := 16) (show out.length + 1 ≤ 1000000000000 by omega) (by decide), aG, hw]
end Go.Vs
end
section
open Go Go.Vs Go.Proofs
set_option linter.unusedVariables false
set_option linter.unusedSimpArgs false
namespace Go.Vs
def rO (s : bU) (n : ByteArray) : Int := if s.a0.length > 60 then -1 else fI (at3 n) 0 s.a0
theorem wH {s : bU} {n : ByteArray} (hs : bM s.l) (h : ¬ rO s n < 0) : ∃ (j : Nat) (hj : j < s.a0.length) (y : aJ), rO s n = (j : Int) ∧ s.a0[j] = y.l ∧ fC y.l := by
  unfold rO at h ⊢
  split at h
  · omega
  · rename_i h60
    obtain ⟨j, hj, hi, _⟩ := rX h
    obtain ⟨y, hy, iy⟩ := (hs.p.2.1 _ (List.getElem_mem hj)).st
    exact ⟨j, hj, y, by rw [if_neg h60, hi], hy, iy⟩
def aDm : aJ := ⟨0, false, nul, nul, [], [], [], [], [], false, []⟩
theorem aRz : fC aDm.l := show fC [.int .i64 0, .bool false, .str nul, .str nul, .sl fP [], .sl fP [], .sl fP [], .sl fP [], .sl fP [], .bool false, .sl fP []] from
  .mk 0 false nul nul [] [] [] [] [] false [] (by decide) (by decide) (by decide) (fun _ h => by cases h) (by decide) (fun _ h => by cases h) (by decide) (fun _ h => by cases h) (by decide) (fun _ h => by cases h) (by decide) (fun _ h => by cases h) (by decide) (fun _ h => by cases h)
def lU (s : bU) (n : ByteArray) : aJ := if rO s n < 0 then aDm else .of (s.a0.getD (rO s n).toNat [])
theorem aLR {s : bU} {n : ByteArray} (hs : bM s.l) : fC (lU s n).l := by
  unfold lU
  split
  · exact aRz
  · rename_i h
    obtain ⟨j, hj, y, hi, hy, iy⟩ := wH hs h
    rw [hi, Int.toNat_natCast, bI hj, hy]
    exact iy
theorem aAM {s : bU} {n : ByteArray} {j : Nat} {hj : j < s.a0.length} {y : aJ} (hi : rO s n = (j : Int)) (hy : s.a0[j] = y.l) : lU s n = y := by
  unfold lU
  rw [hi, if_neg (by omega), Int.toNat_natCast, bI hj, hy]
  rfl
def aFb (n : ByteArray) : Bool := n.toList == (ByteArray.mk #[73, 110, 116]).toList || (n.toList == (ByteArray.mk #[70, 108, 111, 97, 116]).toList || (n.toList == (ByteArray.mk #[83, 116, 114, 105, 110, 103]).toList || (n.toList == (ByteArray.mk #[66, 111, 111, 108, 101, 97, 110]).toList || n.toList == (ByteArray.mk #[73, 68]).toList)))
def aEr (s : bU) (n : ByteArray) : Int := if rO s n < 0 then (if aFb n = true then 1 else 0) else (lU s n).a0
section
variable {s : bU} {n a b : ByteArray}
theorem aBs (hs : bM s.l) : Dn F.aYw [.agg s.l, .leaf (.str n)] [] = some (aI (rO s n), []) := by
  obtain ⟨hl, hq, _⟩ := hs.p
  refine aP ?_
  rw [aLi]
  unfold rO
  by_cases h60 : s.a0.length > 60
  · rw [if_pos h60, wE]
    simp -implicitDefEqProofs only [wF, bT, show ((s.a0.length : Int) ≤ 60) = False by simp; omega, decide_false, aD, xP]
  · rw [if_neg h60]
    have h6 : ((s.a0.length : Nat) : Int) ≤ 60 := by omega
    refine pI (es := s.a0) (A := fun i => fH Dn (wX n i s)) (by rw [wE]; simp [wF]) fun i hi => ?_
    obtain ⟨x, hx, _⟩ := (hq _ (List.getElem_mem hi)).st
    rw [wE]
    simp -implicitDefEqProofs only [inI, hi, h6, bT, wF, aV (Nat.lt_of_lt_of_le hi hl), aN (fun e he => (hq e he).len), bI hi, hx, atP]
    rfl
theorem aNC (hs : bM s.l) : Dn F.aYN [.agg s.l, .leaf (.str n)] [] = some (aI (rO s n), []) := by
  obtain ⟨hl, hq, _⟩ := hs.p
  have key : Dn F.aWz [vsl s.a0, .fn F.aYg [.ptr 0 0]] [[.leaf (.str n)]] = some (aI (fI (at3 n) 0 s.a0), [[.leaf (.str n)]]) := by
    refine aP ?_
    rw [iF]
    refine pI (es := s.a0) (A := fun i => bE Dn (cZ s.a0 F.aYg s.a0.length i n)) (by rw [dN]; simp) fun i hi => ?_
    obtain ⟨x, hx, _⟩ := (hq _ (List.getElem_mem hi)).st
    have hc : Dn F.aYg [.agg x.l, .ptr 0 0] [[.leaf (.str n)]] = some (aH (x.a3.toList == n.toList), [[.leaf (.str n)]]) := aP (aB3 ..)
    rw [dN]
    simp -implicitDefEqProofs only [inI, hi, aV (Nat.lt_of_lt_of_le hi hl), aN (fun e he => (hq e he).len), bI hi, hx, aJ.rd_l, hc, zX]
    rfl
  have k2 : Dn F.aZm [vsl s.a0, .leaf (.str n)] [] = some (aI (rO s n), []) := by
    refine aP ?_
    rw [aEU, key, aE9, lR]
    unfold rO
    by_cases h60 : s.a0.length > 60
    · rw [if_pos h60, if_pos (by simp; omega)]
    · rw [if_neg h60, if_neg (by simp; omega)]
  refine aP ?_
  rw [aLn, k2, mN]
theorem aAL (hs : bM s.l) : Dn F.aYi [.agg s.l, .leaf (.str n)] [] = some (.tup [.agg (lU s n).l, aH (!decide (rO s n < 0))], []) := by
  refine aP ?_
  rw [aKD, aNC hs, mN]
  by_cases h : rO s n < 0
  · have : lU s n = aDm := by unfold lU; rw [if_pos h]
    rw [this]
    simp -implicitDefEqProofs only [h, decide_true, aE]
    rfl
  · obtain ⟨j, hj, y, hi, hy, iy⟩ := wH hs h
    have hn : ¬ ((j : Int) < 0) := by omega
    rw [aAM hi hy, hi]
    simp -implicitDefEqProofs only [hn, decide_false, aD, inI, hj, aN (fun e he => (hs.p.2.1 e he).len), bI hj, hy, aJ.rd_l]
    rfl
theorem aFC : Dn F.aYe [.leaf (.str n)] [] = some (aH (aFb n), []) := by
  refine aP ?_
  rw [aJG]
  unfold aFb
  simp -implicitDefEqProofs only [bF]
  cases n.toList == (ByteArray.mk #[73, 110, 116]).toList <;> cases n.toList == (ByteArray.mk #[70, 108, 111, 97, 116]).toList <;> cases n.toList == (ByteArray.mk #[83, 116, 114, 105, 110, 103]).toList <;> cases n.toList == (ByteArray.mk #[66, 111, 111, 108, 101, 97, 110]).toList <;> rfl
theorem aNr (hs : bM s.l) : Dn F.aYA [.agg s.l, .leaf (.str n)] [] = some (aI (aEr s n), []) := by
  refine aP ?_
  rw [aLk, aBs hs, mN, aFC, dO]
  unfold aEr
  by_cases h : rO s n < 0
  · have h' : ¬ rO s n ≥ 0 := by omega
    rw [if_pos h]
    simp -implicitDefEqProofs only [h', decide_false, aD]
    cases aFb n <;> rfl
  · obtain ⟨j, hj, y, hi, hy, iy⟩ := wH hs h
    rw [if_neg h, aAM hi hy, hi]
    simp -implicitDefEqProofs only [show ((j : Nat) : Int) ≥ 0 by omega, inI, hj, aN (fun e he => (hs.p.2.1 e he).len), bI hj, hy, atP]
end
end Go.Vs
end
section
open Go Go.Vs Go.Proofs
set_option linter.unusedVariables false
set_option linter.unusedSimpArgs false
namespace Go.Vs
def pb (code : Int) (o p : ByteArray) : El := [.int .i64 code, .str o, .str p]
theorem aUD {c : Int} {o p : ByteArray} : dP (pb c o p) := .mk _ _ _
theorem aR7 {q : Bool} {c : Int} {o p : ByteArray} : ∀ e ∈ ifP q (pb c o p), dP e := fun e he => by obtain ⟨_, rfl⟩ := aRF he; exact aUD
theorem aFQ {a b : List El} (ha : ∀ e ∈ a, dP e) (hb : ∀ e ∈ b, dP e) : ∀ e ∈ a ++ b, dP e := fun e he => (List.mem_append.1 he).elim (ha e) (hb e)
theorem aJe {g : Nat → El → List El} {l : List El} {i : Nat} (h : ∀ (j : Nat) (x : El), ∀ e ∈ g j x, dP e) : ∀ e ∈ nW g i l, dP e := fun e he => by
  obtain ⟨j, hj, hx⟩ := aKn l i he
  exact h _ _ e hx
theorem aK2 {out : List El} {z : Nat} (ho : out.length + 1 ≤ 1000000000) (hz : z ≤ 100) : decide ((out.length + 1) * z ≤ aK) = true := aOY (by omega) hz
theorem aQf {q : Bool} {c : Int} {o p : ByteArray} {out : List El} (ho : out.length + 1 ≤ 1000000000) : Dn F.aWU [.ptr 0 0, .leaf (.bool q), aI c, .leaf (.str o), .leaf (.str p)] [[.own (some T.aYr) out]] =
    some (.tup [], [[.own (some T.aYr) (out ++ ifP q (pb c o p))]]) := by
  refine aP ?_
  rw [aD9]
  cases q
  · simp -implicitDefEqProofs only [aD, pL, List.append_nil]
  · simp -implicitDefEqProofs only [aE, rM, aK2 (z := 40) ho (by decide), Bool.and_true, aG]; rfl
theorem aTL {l out : List El} (hl : ∀ e ∈ l, dP e) (ho : out.length + l.length ≤ 1000000000) : Dn F.aWW [.ptr 0 0, .leaf (.sl fP l)] [[.own (some T.aYr) out]] =
    some (.tup [], [[.own (some T.aYr) (out ++ l)]]) := by
  refine aP ?_
  rw [aDM]
  simp -implicitDefEqProofs only [aOY (z := 40) (show out.length + l.length ≤ 1000000000000 by omega) (by decide), aN (fun e he => (hl e he).len), Bool.and_self, aG]
end Go.Vs
end
section
open Go Go.Vs Go.Proofs
set_option linter.unusedVariables false
set_option linter.unusedSimpArgs false
namespace Go.Vs
theorem aJp {b : UInt8} : Dn F.aXH [.leaf (.int .u8 (b.toNat : Int))] [] = some (aH (tW b), []) := by
  refine aP ?_
  rw [aG3]
  unfold tW
  by_cases h : 48 ≤ b.toNat
  · have h1 : ((b.toNat : Nat) : Int) ≥ 48 := by omega
    have h2 : (((b.toNat : Nat) : Int) ≤ 57) = (b.toNat ≤ 57) := by simp; omega
    simp -implicitDefEqProofs only [h, h1, h2, decide_true, bT, aE, Bool.true_and]
  · have h1 : ¬ ((b.toNat : Nat) : Int) ≥ 48 := by omega
    simp -implicitDefEqProofs only [h, h1, decide_false, bT, aD, Bool.false_and]
theorem aU8 {s : ByteArray} {i : Nat} (hi : i < s.data.toList.length) : s.data.toList.getD i 0 = s.data.toList[i] := by
  rw [List.getD_eq_getElem?_getD, List.getElem?_eq_getElem hi]; rfl
theorem aNm {s : ByteArray} (hs : s.size ≤ maxLen) {i : Nat} (hi : i ≤ s.size) : Dn F.aY1 [.leaf (.str s), aI i] [] = some (aI ((i + uH (s.data.toList.drop i) : Nat) : Int), []) := by
  have hn := aGS s
  have key : ∀ i : Nat, i ≤ s.size → fJ Dn (xG s i) = some (aI ((i + uH (s.data.toList.drop i) : Nat) : Int), []) := by
    refine cF ?_ ?_
    · rw [aB8, aCu]
      simp -implicitDefEqProofs only [Int.lt_irrefl, decide_false, bT, aD, ← hn, List.drop_length, uH, Nat.add_zero]
    · intro i hi ih
      have hi' : i < s.data.toList.length := by omega
      rw [aB8]
      simp -implicitDefEqProofs only [inI, hi, bT, aU8 hi', aJp, dO, aCu, aV (Nat.lt_of_lt_of_le hi hs), ih]
      rw [List.drop_eq_getElem_cons hi', aSB]
      cases tW s.data.toList[i]
      · simp -implicitDefEqProofs only [aD, Bool.false_eq_true, if_false, Nat.add_zero]
      · simp -implicitDefEqProofs only [aE, if_true]
        rw [show i + 1 + uH (s.data.toList.drop (i + 1)) = i + (uH (s.data.toList.drop (i + 1)) + 1) by omega]
  refine aP ?_
  rw [aLH]
  exact key i hi
theorem aNx {s : ByteArray} (hs : s.size ≤ maxLen) (h0 : 0 < s.size) {k : Nat} (hk : k = if neg s.data.toList = true then 1 else 0) :
    Dn F.aYS [.leaf (.str s)] [] = some (aI ((if uH (s.data.toList.drop k) = 0 ∨ ((s.data.toList.drop k).head?.map (·.toNat) = some 48 ∧ 1 < uH (s.data.toList.drop k)) then 0 else k + uH (s.data.toList.drop k) : Nat) : Int), []) := by
  have hn := aGS s
  have hm : maxLen = 9223372036854775807 := rfl
  refine aP ?_
  rw [aLv]
  have hpos : (0 : Int) < (s.size : Int) := by omega
  have hpos' : (s.size : Int) > 0 := by omega
  cases hl : s.data.toList with
  | nil => rw [hl] at hn; simp at hn; omega
  | cons c r =>
    have hneg : ((((c :: r).getD (Int.toNat 0) 0).toNat : Int) == 45) = neg (c :: r) := by
      show ((c.toNat : Int) == 45) = decide (c.toNat = 45)
      rw [Bool.eq_iff_iff]; simp; omega
    have one : ∀ i : Nat, i = k → dM Dn (wZ s i) = some (aI ((if uH ((c :: r).drop k) = 0 ∨ (((c :: r).drop k).head?.map (·.toNat) = some 48 ∧ 1 < uH ((c :: r).drop k)) then 0 else k + uH ((c :: r).drop k) : Nat) : Int), []) := fun i hi => by
      subst hi
      have hi1 : i ≤ s.size := by subst hk; rw [hl] at hn ⊢; simp at hn; split <;> omega
      rw [aKd, aNm hs hi1, mN, hl]
      simp -implicitDefEqProofs only [aJo, bF, aAn]
      by_cases hz : uH ((c :: r).drop i) = 0
      · simp -implicitDefEqProofs only [hz, Nat.add_zero, beq_self_eq_true, aE, true_or, if_true]
        rfl
      · have hne : (((i + uH ((c :: r).drop i) : Nat) : Int) == (i : Int)) = false := by rw [beq_eq_false_iff_ne]; omega
        have hlt : i < s.size := by
          rw [← hn, hl]
          exact Nat.lt_of_not_le fun h => hz (by rw [List.drop_of_length_le h]; rfl)
        have hlt' : i < (c :: r).length := by rw [← hl, hn]; exact hlt
        have hd : (c :: r).drop i = (c :: r)[i] :: (c :: r).drop (i + 1) := List.drop_eq_getElem_cons hlt'
        have hg : (c :: r).getD i 0 = (c :: r)[i] := by rw [List.getD_eq_getElem?_getD, List.getElem?_eq_getElem hlt']; rfl
        have hle := aLM ((c :: r).drop i)
        simp -implicitDefEqProofs only [hne, aD, inI, hlt, hg, bT]
        have h48 : ((((c :: r)[i].toNat : Nat) : Int) == 48) = decide ((c :: r)[i].toNat = 48) := by rw [Bool.eq_iff_iff]; simp; omega
        rw [h48, aV (show i < maxLen by omega)]
        have hh : ((c :: r).drop i).head?.map (·.toNat) = some (c :: r)[i].toNat := by rw [hd]; rfl
        rw [hh]
        by_cases h4 : (c :: r)[i].toNat = 48
        · simp -implicitDefEqProofs only [h4, decide_true, aE, hz, false_or, true_and]
          by_cases h1 : 1 < uH ((c :: r).drop i)
          · have : ((i + uH ((c :: r).drop i) : Nat) : Int) > ((i + 1 : Nat) : Int) := by omega
            simp -implicitDefEqProofs only [this, decide_true, aE, h1, if_true]
            rfl
          · have : ¬ ((i + uH ((c :: r).drop i) : Nat) : Int) > ((i + 1 : Nat) : Int) := by omega
            simp -implicitDefEqProofs only [this, decide_false, aD, h1, if_false]
        · have : ¬ (some (c :: r)[i].toNat = some 48) := by simpa using h4
          simp -implicitDefEqProofs only [h4, decide_false, aD, hz, this, false_and, or_self, if_false]
    simp -implicitDefEqProofs only [hpos, hpos', decide_true, bT, aE, aG, hneg, aJZ]
    rw [hl] at hk
    cases hb : neg (c :: r) with
    | true => rw [hb] at hk; simp -implicitDefEqProofs only [aE]; exact one 1 (by simp at hk; exact hk.symm)
    | false => rw [hb] at hk; simp -implicitDefEqProofs only [aD]; exact one 0 (by simp at hk; exact hk.symm)
theorem aOT {s : ByteArray} (hs : s.size ≤ maxLen) : Dn F.aZf [.leaf (.str s)] [] = some (aH (aDX s.data.toList), []) := by
  have hn := aGS s
  refine aP ?_
  rw [aLW]
  by_cases h0 : 0 < s.size
  · have hne : s.data.toList ≠ [] := fun h => by rw [h] at hn; simp at hn; omega
    rw [aNx hs h0 rfl, mN, aTn s.data.toList _ rfl hne, hn]
    have h1 : (s.size : Int) > 0 := by omega
    have hq : ∀ q : Nat, (((q : Nat) : Int) == (s.size : Int)) = decide (q = s.size) := fun q => by rw [Bool.eq_iff_iff]; simp; omega
    have h40 : ((s.size : Int) ≤ 40) = (s.size ≤ 40) := by simp; omega
    simp -implicitDefEqProofs only [h1, h40, hq, decide_true, bT, aE]
    cases decide (s.size ≤ 40) <;> simp -implicitDefEqProofs only [aE, aD, Bool.true_and, Bool.false_and]
  · have hz : s.data.toList = [] := by cases hl : s.data.toList with | nil => rfl | cons c r => rw [hl] at hn; simp at hn; omega
    have h1 : ¬ (s.size : Int) > 0 := by omega
    simp -implicitDefEqProofs only [h1, decide_false, bT, aD, xP, hz]
    rfl
def aJq (s : ByteArray) : Bool := aDX s.data.toList && aRr s.data.toList
theorem aNi {s : ByteArray} (hs : s.size ≤ maxLen) : Dn F.aYQ [.leaf (.str s)] [] = some (aH (aJq s), []) := by
  have hn := aGS s
  have hm : maxLen = 9223372036854775807 := rfl
  refine aP ?_
  rw [aLw, aOT hs, dO]
  unfold aJq
  simp -implicitDefEqProofs only [bF, Bool.not_not, aJ8]
  cases hi : aDX s.data.toList with
  | false => simp -implicitDefEqProofs only [aD, aE, Bool.false_and]
  | true =>
    simp -implicitDefEqProofs only [aE, Bool.true_and]
    by_cases h11 : 11 < s.size
    · have h1 : (s.size : Int) > 11 := by omega
      simp -implicitDefEqProofs only [h1, decide_true, aE, aTe hi (show 11 < s.data.toList.length by omega)]
    · have h1 : ¬ (s.size : Int) > 11 := by omega
      simp -implicitDefEqProofs only [h1, decide_false, aD]
      have hi' := hi
      unfold aDX at hi'
      simp -implicitDefEqProofs only [Bool.and_eq_true, decide_eq_true_eq] at hi'
      obtain ⟨_, hne, hall, _⟩ := hi'
      have loop : ∀ (l : List UInt8) (i : Nat) (n : Nat), s.data.toList.drop i = l → l.all tW = true → i ≤ s.size → (n + 1) * 10 ^ l.length ≤ 1000000000000 →
          dC Dn (nH s n i) = dC Dn (nH s (rG n l) s.size) := by
        intro l
        induction l with
        | nil =>
          intro i n hd _ hi _
          have : s.data.toList.length ≤ i := by
            rcases Nat.lt_or_ge i s.data.toList.length with h | h
            · rw [List.drop_eq_getElem_cons h] at hd; cases hd
            · exact h
          have : i = s.size := by omega
          subst this
          rw [aMx]
        | cons c r ih =>
          intro i n hd hf hi hb
          have hlt : i < s.data.toList.length := by
            rcases Nat.lt_or_ge i s.data.toList.length with h | h
            · exact h
            · rw [List.drop_of_length_le h] at hd; cases hd
          have hlt' : i < s.size := by omega
          rw [List.drop_eq_getElem_cons hlt] at hd
          obtain ⟨hc, hr⟩ := List.cons.inj hd
          rw [List.all_cons, Bool.and_eq_true] at hf
          have hcf : 48 ≤ c.toNat ∧ c.toNat ≤ 57 := by simpa [tW] using hf.1
          have hb' : (aAU n c + 1) * 10 ^ r.length ≤ 1000000000000 := by
            rw [List.length_cons, Nat.pow_succ, Nat.mul_comm (10 ^ r.length) 10, ← Nat.mul_assoc] at hb
            have : aAU n c + 1 ≤ (n + 1) * 10 := by unfold aAU; omega
            exact Nat.le_trans (Nat.mul_le_mul_right _ this) hb
          have hn1 : n + 1 ≤ 1000000000000 := by
            have h1 : 1 ≤ 10 ^ (c :: r).length := Nat.one_le_pow _ _ (by omega)
            have := Nat.mul_le_mul_left (n + 1) h1
            omega
          rw [wL, ← ih (i + 1) (aAU n c) hr hf.2 (by omega) hb', wM]
          have h45 : (((c.toNat : Nat) : Int) != 45) = true := by simp; omega
          have hv : IntKind.i64.wrap (IntKind.i64.wrap (IntKind.i64.wrap ((n : Int) * 10) + IntKind.i64.wrap ((c.toNat : Nat) : Int)) - 48) = ((aAU n c : Nat) : Int) := by
            rw [nS (z := (n : Int) * 10) (by omega) (by omega), nS (z := ((c.toNat : Nat) : Int)) (by omega) (by omega), nS (z := (n : Int) * 10 + ((c.toNat : Nat) : Int)) (by omega) (by omega), nS (by omega) (by omega)]
            unfold aAU; omega
          simp -implicitDefEqProofs only [inI, hlt', aU8 hlt, hc, h45, hv, aCd, aV (Nat.lt_of_lt_of_le hlt' hs)]
      have start : dC Dn (nH s 0 0) = dC Dn (nH s (rG 0 (qL s.data.toList)) s.size) := by
        cases hl : s.data.toList with
        | nil => rw [hl] at hne; simp [qL] at hne
        | cons c r =>
          have hlt : 0 < s.data.toList.length := by rw [hl]; simp
          have hlt' : 0 < s.size := by omega
          have hsz : r.length + 1 = s.size := by rw [← hn, hl]; rfl
          rw [hl] at hall
          by_cases hc : c.toNat = 45
          · have hd : qL (c :: r) = r := by simp [qL, hc]
            rw [hd] at hall ⊢
            rw [← loop r 1 0 (by rw [hl]; rfl) hall (by omega) (by
              have : 10 ^ r.length ≤ 10 ^ 10 := Nat.pow_le_pow_right (by omega) (by omega)
              have h10 : (10 : Nat) ^ 10 = 10000000000 := by decide
              omega), wM]
            have hpos : (0 : Int) < (s.size : Int) := by omega
            have hg : s.data.toList.getD (Int.toNat 0) 0 = c := by rw [hl]; rfl
            have h45 : (((c.toNat : Nat) : Int) != 45) = false := by simp; omega
            have hw : IntKind.i64.wrap ((0 : Int) + 1) = 1 := nS (by omega) (by omega)
            simp -implicitDefEqProofs only [hpos, hg, h45, decide_true, aE, aD, Int.le_refl, Bool.and_self, aG, aCd, hw]
            rfl
          · have hd : qL (c :: r) = c :: r := by simp [qL, hc]
            rw [hd] at hall ⊢
            have := loop (c :: r) 0 0 (by rw [hl]; rfl) hall (by omega) (by
              have : 10 ^ (c :: r).length ≤ 10 ^ 11 := Nat.pow_le_pow_right (by omega) (by simp; omega)
              have h10 : (10 : Nat) ^ 11 = 100000000000 := by decide
              omega)
            exact this
      rw [start, wM]
      have hpos' : 0 < s.size := by
        have : s.data.toList ≠ [] := fun h => by rw [h] at hne; simp [qL] at hne
        have := List.length_pos_iff.2 this
        omega
      have hpos : (0 : Int) < (s.size : Int) := by omega
      have hneg : (((s.data.toList.getD (Int.toNat 0) 0).toNat : Int) == 45) = neg s.data.toList := by
        cases hl : s.data.toList with
        | nil => rw [hl] at hne; simp [qL] at hne
        | cons c r =>
          show ((c.toNat : Int) == 45) = decide (c.toNat = 45)
          rw [Bool.eq_iff_iff]; simp; omega
      simp -implicitDefEqProofs only [Int.lt_irrefl, decide_false, aD, hpos, decide_true, aG, hneg]
      unfold aRr
      cases neg s.data.toList
      · have : (((rG 0 (qL s.data.toList) : Nat) : Int) ≤ 2147483647) = (rG 0 (qL s.data.toList) ≤ 2147483647) := by simp; omega
        simp -implicitDefEqProofs only [aD, Bool.false_eq_true, if_false, this]
      · have : (((rG 0 (qL s.data.toList) : Nat) : Int) ≤ 2147483648) = (rG 0 (qL s.data.toList) ≤ 2147483648) := by simp; omega
        simp -implicitDefEqProofs only [aE, if_true, this]
theorem aSW (s : ByteArray) : (aDX s.data.toList && f32 s) = aJq s := by
  unfold aJq f32
  cases h : aDX s.data.toList with
  | false => simp -implicitDefEqProofs only [Bool.false_and]
  | true => rw [aUC h]
theorem aNA {s : ByteArray} (hs : s.size ≤ 1048576) : Dn F.aYY [.leaf (.str s)] [] = some (aH (aJq s), []) := by
  refine aLT (t := aP6) rfl ?_
  unfold aP6
  simp -implicitDefEqProofs only []
  rw [if_pos (by omega), aSW]
end Go.Vs
end
section
open Go Go.Vs Go.Proofs
set_option linter.unusedVariables false
set_option linter.unusedSimpArgs false
namespace Go.Vs
def few (t : eM) : eM := ⟨t.a0, if mG t.a1 33 then cut t.a1 else t.a1⟩
def inn (t : eM) : eM := ⟨t.a0, if mG (few t).a1 93 then cut (few t).a1 else nul⟩
theorem aII (t : eM) : (few t).a1.size ≤ t.a1.size := by
  unfold few
  show (if mG t.a1 33 = true then cut t.a1 else t.a1).size ≤ _
  split
  · rw [aQk]; omega
  · exact Nat.le_refl _
theorem aTx {w : ByteArray} {a b : UInt8} (h : mG w a = true) (hab : (a == b) = false) : mG w b = false := by
  unfold mG at h ⊢
  rw [Bool.and_eq_true, beq_iff_eq] at h
  rw [h.2, hab, Bool.and_false]
theorem aUQ {t : eM} (h : mG (few t).a1 93 = true) : (inn (few t)).a1.size < t.a1.size := by
  have h1 := aII t
  have hp := aFc h
  have h3 : few (few t) = few t := by
    show (⟨t.a0, if mG (few t).a1 33 = true then cut (few t).a1 else (few t).a1⟩ : eM) = few t
    rw [aTx h (by decide)]
    rfl
  have : (inn (few t)).a1 = cut (few t).a1 := by
    show (if mG (few (few t)).a1 93 = true then cut (few (few t)).a1 else nul) = _
    rw [h3, if_pos h]
  rw [this, aQk]; omega
theorem aOL {s : ByteArray} {c : UInt8} (hs : s.size ≤ maxLen) : Dn F.aWQ [.leaf (.str s), .leaf (.str ⟨#[c]⟩)] [] = some (.leaf (.str (if mG s c then cut s else s)), []) := by
  have h1 : (ByteArray.mk #[c]).size = 1 := rfl
  have key : Dn F.aWG [.leaf (.str s), .leaf (.str ⟨#[c]⟩)] [] = some (.leaf (.str (if mG s c then cut s else s)), []) := by
    refine aP ?_
    rw [rV, aE2 hs, h1, dO]
    cases he : mG s c with
    | false => simp -implicitDefEqProofs only [aD, Bool.false_eq_true, if_false]
    | true =>
      have h := aFc he
      have hw := aH8 hs (show 1 ≤ s.size by omega)
      simp -implicitDefEqProofs only [hw, aE, Int.natCast_nonneg, decide_true, Bool.true_and, Int.toNat_natCast, Nat.sub_le, aG, if_true]
      rfl
  refine aP ?_
  rw [aCG, key, aCz]
theorem aIR {t : eM} (ht : t.a1.size ≤ maxLen) : Dn F.aZa [.agg t.l] [] = some (.agg (few t).l, []) := by
  refine aP ?_
  rw [aLZ, aOL ht, aCz]
  rfl
theorem aIq {t : eM} (ht : t.a1.size ≤ maxLen) : Dn F.aZe [.agg t.l] [] = some (.agg (few t).l, []) := by
  refine aP ?_
  rw [aMX, aBp ht, dO]
  unfold few
  cases he : mG t.a1 33 with
  | false => simp -implicitDefEqProofs only [aD, aDg, Bool.false_eq_true, if_false]
  | true =>
    have h := aFc he
    simp -implicitDefEqProofs only [aE, aTT h ht, aUg h ht, aG, aDg, if_true]
theorem aIQ {t : eM} (ht : t.a1.size ≤ maxLen) : Dn F.aZd [.agg t.l] [] = some (.agg (inn t).l, []) := by
  refine aP ?_
  rw [aML, aIR ht]
  simp -implicitDefEqProofs only [rdR, pH, beq_self_eq_true, Bool.not_true, Bool.not_false, Bool.and_true, Bool.true_and, bT, bF, eM.va_l, aQh (c := 93) (Nat.le_trans (aII t) ht)]
  unfold inn
  cases mG (few t).a1 93 with
  | false => simp -implicitDefEqProofs only [rdR, pH, beq_self_eq_true, Bool.not_true, Bool.not_false, Bool.and_true, Bool.true_and, bT, bF, Bool.false_eq_true, if_false]
  | true => simp -implicitDefEqProofs only [rdR, pH, beq_self_eq_true, Bool.not_true, Bool.not_false, Bool.and_true, Bool.true_and, bT, bF, if_true]
theorem aU7 {w : ByteArray} (hw : w.size ≤ maxLen) (c : Nat) (hc : c < 256) {β : Type} (A : Bool → Option β) :
    aB (decide ((w.size : Int) > 0)) (aA (decide (0 ≤ IntKind.i64.wrap ((w.size : Int) - 1)) && decide (IntKind.i64.wrap ((w.size : Int) - 1) < (w.size : Int))) (A (((w.data.toList.getD (IntKind.i64.wrap ((w.size : Int) - 1)).toNat 0).toNat : Int) == (c : Int)))) (A false) = A (mG w (UInt8.ofNat c)) := by
  by_cases h : 0 < w.size
  · have h1 : ((w.size : Nat) : Int) > 0 := by omega
    simp -implicitDefEqProofs only [h1, decide_true, aE, aTD h hw, aG, aRU c hc h hw]
  · have h1 : ¬ ((w.size : Nat) : Int) > 0 := by omega
    have : mG w (UInt8.ofNat c) = false := by unfold mG; simp [h]
    simp -implicitDefEqProofs only [h1, decide_false, aD, this]
theorem aO8 {t : eM} (ht : t.a1.size ≤ maxLen) : Dn F.aZk [.agg t.l] [] = some (.agg (inn t).l, []) := by
  have hf := Nat.le_trans (aII t) ht
  refine aP ?_
  rw [aMp, aIq ht]
  simp -implicitDefEqProofs only [rdR, pH, beq_self_eq_true, Bool.not_true, Bool.not_false, Bool.and_true, Bool.true_and, bT, bF, eM.va_l]
  have h := aU7 hf 93 (by omega) (fun b => kU Dn (uU b (few t)))
  rw [show ((93 : Nat) : Int) = 93 from rfl] at h
  refine h.trans ?_
  show kU Dn (uU (mG (few t).a1 93) (few t)) = _
  rw [aLg]
  unfold inn
  cases he : mG (few t).a1 93 with
  | false => simp -implicitDefEqProofs only [aD, Bool.false_eq_true, if_false]; rfl
  | true =>
    have h := aFc he
    simp -implicitDefEqProofs only [aE, aTT h hf, aUg h hf, aG, if_true]
    rfl
def aRR (n : ByteArray) (x : cG) : Bool :=
  if (n.toList == (ByteArray.mk #[73, 110, 116]).toList) = true then x.a0 == 2 && aJq x.a1
  else if (n.toList == (ByteArray.mk #[70, 108, 111, 97, 116]).toList) = true then x.a0 == 2 || x.a0 == 3
  else if (n.toList == (ByteArray.mk #[83, 116, 114, 105, 110, 103]).toList) = true then x.a0 == 4
  else if (n.toList == (ByteArray.mk #[66, 111, 111, 108, 101, 97, 110]).toList) = true then x.a0 == 5 && (x.a1.toList == (ByteArray.mk #[116, 114, 117, 101]).toList || x.a1.toList == (ByteArray.mk #[102, 97, 108, 115, 101]).toList)
  else x.a0 == 2 || x.a0 == 4
theorem aJS {n : ByteArray} {x : cG} (hs : x.a1.size ≤ maxLen) : Dn F.aXJ [.leaf (.str n), .agg x.l] [] = some (aH (aRR n x), []) := by
  refine aP ?_
  rw [aG2, aNi hs, dO]
  unfold aRR
  simp -implicitDefEqProofs only [lR, bT, bF]
  generalize (n.toList == (ByteArray.mk #[73, 110, 116]).toList) = q1
  generalize (n.toList == (ByteArray.mk #[70, 108, 111, 97, 116]).toList) = q2
  generalize (n.toList == (ByteArray.mk #[83, 116, 114, 105, 110, 103]).toList) = q3
  generalize (n.toList == (ByteArray.mk #[66, 111, 111, 108, 101, 97, 110]).toList) = q4
  generalize (x.a1.toList == (ByteArray.mk #[116, 114, 117, 101]).toList) = q5
  generalize (x.a1.toList == (ByteArray.mk #[102, 97, 108, 115, 101]).toList) = q6
  generalize (x.a0 == 2) = r2
  generalize (x.a0 == 3) = r3
  generalize (x.a0 == 4) = r4
  generalize (x.a0 == 5) = r5
  cases q1 <;> cases q2 <;> cases q3 <;> cases q4 <;> cases q5 <;> cases r2 <;> cases r5 <;> rfl
theorem aHQ {n : ByteArray} {x : cG} (hs : x.a1.size ≤ 1048576) : Dn F.aW1 [.agg x.l, .leaf (.str n)] [] = some (aH (aRR n x), []) := by
  refine aP ?_
  rw [aFo, aNA hs, dO]
  unfold aRR
  simp -implicitDefEqProofs only [lR, bT, bF]
  generalize (n.toList == (ByteArray.mk #[73, 110, 116]).toList) = q1
  generalize (n.toList == (ByteArray.mk #[70, 108, 111, 97, 116]).toList) = q2
  generalize (n.toList == (ByteArray.mk #[83, 116, 114, 105, 110, 103]).toList) = q3
  generalize (n.toList == (ByteArray.mk #[66, 111, 111, 108, 101, 97, 110]).toList) = q4
  generalize (x.a1.toList == (ByteArray.mk #[116, 114, 117, 101]).toList) = q5
  generalize (x.a1.toList == (ByteArray.mk #[102, 97, 108, 115, 101]).toList) = q6
  generalize (x.a0 == 2) = r2
  generalize (x.a0 == 3) = r3
  generalize (x.a0 == 4) = r4
  generalize (x.a0 == 5) = r5
  cases q1 <;> cases q2 <;> cases q3 <;> cases q4 <;> cases q5 <;> cases r2 <;> cases r5 <;> rfl
theorem aEd {n : ByteArray} : Dn F.aYn [.leaf (.str n)] [] = some (aH (aFb n), []) := by
  refine aP ?_
  rw [aJm]
  unfold aFb
  simp -implicitDefEqProofs only [aIy]
  generalize (n.toList == (ByteArray.mk #[73, 110, 116]).toList) = q1
  generalize (n.toList == (ByteArray.mk #[70, 108, 111, 97, 116]).toList) = q2
  generalize (n.toList == (ByteArray.mk #[83, 116, 114, 105, 110, 103]).toList) = q3
  generalize (n.toList == (ByteArray.mk #[66, 111, 111, 108, 101, 97, 110]).toList) = q4
  generalize (n.toList == (ByteArray.mk #[73, 68]).toList) = q5
  cases q1 <;> cases q2 <;> cases q3 <;> cases q4 <;> cases q5 <;> rfl
theorem aNB {s : bU} {n : ByteArray} (hs : bM s.l) : Dn F.aYE [.agg s.l, .leaf (.str n)] [] = some (aI (aEr s n), []) := by
  refine aP ?_
  rw [aLl, aAL hs, aEd]
  simp -implicitDefEqProofs only [rdR, pH, beq_self_eq_true, Bool.not_true, Bool.not_false, Bool.and_true, Bool.true_and, bT, bF, aJ.va_l]
  unfold aEr
  by_cases h : rO s n < 0
  · rw [if_pos h]
    simp -implicitDefEqProofs only [h, decide_true, Bool.not_true, aD]
    cases aFb n <;> rfl
  · rw [if_neg h]
    simp -implicitDefEqProofs only [h, decide_false, Bool.not_false, aE]
end Go.Vs
end
section
open Go Go.Vs Go.Proofs
set_option linter.unusedVariables false
set_option linter.unusedSimpArgs false
namespace Go.Vs
set_option maxRecDepth 100000
section
variable {s : bU} {n f : ByteArray}
def aPv (s : bU) (n : ByteArray) : Bool := aEr s n == 2 || (aEr s n == 3 || aEr s n == 4)
theorem aHL (hs : bM s.l) : Dn F.aW3 [.agg s.l, .leaf (.str n)] [] = some (aH (aPv s n), []) := by
  refine aP ?_
  rw [aEz, aNr hs, mN]
  unfold aPv
  cases aEr s n == 2 <;> cases aEr s n == 3 <;> rfl
theorem aHJ (hs : bM s.l) : Dn F.aW8 [.agg s.l, .leaf (.str n)] [] = some (aH (aPv s n), []) := by
  refine aP ?_
  rw [aEn, aNB hs, mN]
  unfold aPv
  cases aEr s n == 2 <;> cases aEr s n == 3 <;> rfl
def tyN : ByteArray := ByteArray.mk #[95, 95, 116, 121, 112, 101, 110, 97, 109, 101]
def tyF : bS := ⟨tyN, nul, [], ByteArray.mk #[83, 116, 114, 105, 110, 103], ByteArray.mk #[33], []⟩
def aUa (s : bU) (n f : ByteArray) : Bool := f.toList == tyN.toList && aPv s n
def aNt (s : bU) (n : ByteArray) : Bool := (lU s n).a0 != 2 && (lU s n).a0 != 3
def aAh (s : bU) (n f : ByteArray) : bS := if aUa s n f = true then tyF else if aNt s n = true then aA3 else aCq (lU s n).a5 f
def aGB (s : bU) (n f : ByteArray) : Bool := if aUa s n f = true then true else if aNt s n = true then false else !decide (fI (at0 f) 0 (lU s n).a5 < 0)
theorem aUh (hs : bM s.l) : cC (aAh s n f).l := by
  unfold aAh
  split
  · exact show cC [.str tyN, .str nul, .sl fP [], .str (ByteArray.mk #[83, 116, 114, 105, 110, 103]), .str (ByteArray.mk #[33]), .sl fP []] from .mk _ _ _ _ _ _ (by decide) (by decide) (by decide) (fun _ h => by cases h) (by decide) (by decide) (by decide) (fun _ h => by cases h)
  · split
    · exact aOh
    · exact aUH (aLR hs).p.2.2.2.2.2.1
theorem aDd (hs : bM s.l) : Dn F.aXT [.agg s.l, .leaf (.str n), .leaf (.str f)] [] = some (.tup [.agg (aAh s n f).l, aH (aGB s n f)], []) := by
  have one : ∀ b : Bool, dX Dn (sA f b (lU s n)) = some (.tup [.agg (if b = true then aA3 else aCq (lU s n).a5 f).l, aH (if b = true then false else !decide (fI (at0 f) 0 (lU s n).a5 < 0))], []) := fun b => by
    rw [aG6]
    cases b
    · simp -implicitDefEqProofs only [aD, aMy (s := f) (aLR (n := n) hs), Option.bind_some, qB, qC, bS.va_l, aBO, tO, Bool.false_eq_true, if_false]
    · rfl
  have zero : ∀ b : Bool, dX Dn (sC n f b s) = some (.tup [.agg (if b = true then tyF else if aNt s n = true then aA3 else aCq (lU s n).a5 f).l, aH (if b = true then true else if aNt s n = true then false else !decide (fI (at0 f) 0 (lU s n).a5 < 0))], []) := fun b => by
    rw [aHX]
    cases b
    · simp -implicitDefEqProofs only [aD, aAL hs, Option.bind_some, qB, qC, aJ.va_l, aBO, tO, bT, one, Bool.false_eq_true, if_false]
      unfold aNt
      cases (lU s n).a0 != 2 <;> simp -implicitDefEqProofs only [aE, aD, Bool.true_and, Bool.false_and, Bool.false_eq_true, if_false]
    · rfl
  refine aP ?_
  rw [aID, aHJ hs, dO, bT]
  simp -implicitDefEqProofs only [zero]
  unfold aAh aGB aUa
  rw [show (ByteArray.mk #[95, 95, 116, 121, 112, 101, 110, 97, 109, 101]) = tyN from rfl]
  cases f.toList == tyN.toList <;> simp -implicitDefEqProofs only [aE, aD, Bool.true_and, Bool.false_and]
theorem aDr (hs : bM s.l) : Dn F.aXL [.agg s.l, .leaf (.str n), .leaf (.str f)] [] = some (.tup [.agg (aAh s n f).l, aH (aGB s n f)], []) := by
  have zero : ∀ b : Bool, cL Dn (sL n f b s) = some (.tup [.agg (if b = true then { tyF with a0 := f } else if aNt s n = true then aA3 else aCq (lU s n).a5 f).l, aH (if b = true then true else if aNt s n = true then false else !decide (fI (at0 f) 0 (lU s n).a5 < 0))], []) := fun b => by
    rw [aHs]
    cases b
    · simp -implicitDefEqProofs only [aD, aBs hs, mN, bF, aAn, Bool.false_eq_true, if_false]
      by_cases h : rO s n < 0
      · have hd : lU s n = aDm := by unfold lU; rw [if_pos h]
        rw [decide_eq_true h, aE, aAg, aE]
        unfold aNt
        rw [hd]
        rfl
      · obtain ⟨j, hj, y, hi, hy, iy⟩ := wH hs h
        obtain ⟨_, _, _, _, hl, hq, _⟩ := iy.p
        have two : cL Dn (pC f y.a5 0) = some (.tup [.agg (aCq y.a5 f).l, aH (!decide (fI (at0 f) 0 y.a5 < 0))], []) := by
          have := wK (es := y.a5) (p := at0 f) (A := fun i => cL Dn (pC f y.a5 i)) (yes := fun i => some (.tup [.agg (bS.of (y.a5.getD i.toNat [])).l, aH true], [])) (no := some (.tup [.agg aA3.l, aH false], []))
            (by rw [aAi]; simp -implicitDefEqProofs only [Int.lt_irrefl, decide_false, aD]; rfl) fun i hi => by
              obtain ⟨x, hx, _⟩ := (hq _ (List.getElem_mem hi)).st
              have hw := aV (Nat.lt_of_lt_of_le hi hl)
              rw [aAi]
              simp -implicitDefEqProofs only [inI, hi, aN (fun e he => (hq e he).len), bI hi, hx, atP, bS.rd_l, bS.of_l, hw]
              rfl
          rw [this]
          unfold aCq
          by_cases k : fI (at0 f) 0 y.a5 < 0
          · simp -implicitDefEqProofs only [k, if_true, decide_true, Bool.not_true]
          · simp -implicitDefEqProofs only [k, if_false, decide_false, Bool.not_false]
        have one : ∀ b : Bool, cL Dn (pD f (j : Int) b s) = some (.tup [.agg (if b = true then aA3 else aCq y.a5 f).l, aH (if b = true then false else !decide (fI (at0 f) 0 y.a5 < 0))], []) := fun b => by
          rw [aAg]
          cases b
          · simp -implicitDefEqProofs only [aD, inI, hj, aN (fun e he => (hs.p.2.1 e he).len), bI hj, hy, atP, two, Bool.false_eq_true, if_false]
          · rfl
        have hn : ¬ ((j : Int) < 0) := by omega
        rw [aAM hi hy, hi]
        simp -implicitDefEqProofs only [hn, decide_false, aD, inI, hj, aN (fun e he => (hs.p.2.1 e he).len), bI hj, hy, atP, bT, one]
        unfold aNt
        rw [aAM hi hy]
        cases y.a0 != 2 <;> simp -implicitDefEqProofs only [aE, aD, Bool.true_and, Bool.false_and, Bool.false_eq_true, if_false]
    · rfl
  refine aP ?_
  rw [aIf, aHL hs, dO, bT]
  simp -implicitDefEqProofs only [zero]
  unfold aAh aGB aUa
  rw [show (ByteArray.mk #[95, 95, 116, 121, 112, 101, 110, 97, 109, 101]) = tyN from rfl]
  by_cases hf : (f.toList == tyN.toList) = true
  · have : f = tyN := by
      have h1 := eq_of_beq hf
      rw [tl, tl] at h1
      exact congrArg (fun l : List UInt8 => ByteArray.mk l.toArray) h1
    subst this
    simp -implicitDefEqProofs only [beq_self_eq_true, aE, Bool.true_and]
    rfl
  · rw [Bool.not_eq_true] at hf
    simp -implicitDefEqProofs only [hf, aD, Bool.false_and, Bool.false_eq_true, if_false]
def pM (s : bU) (o : ByteArray) (x : bC) : ByteArray := if (x.a0 == 1) = true then (aAh s o x.a2).a3 else if (x.a3.toList == (ByteArray.mk #[]).toList) = true then o else x.a3
theorem aOA {o : ByteArray} {x : bC} (hs : bM s.l) : Dn F.aZc [.agg s.l, .leaf (.str o), .agg x.l] [] = some (.leaf (.str (pM s o x)), []) := by
  refine aP ?_
  rw [aMU, aDd hs]
  simp -implicitDefEqProofs only [Option.bind_some, qB, qC, bS.va_l, aBO, tO, aAn]
  unfold pM
  cases x.a0 == 1 <;> cases x.a3.toList == (ByteArray.mk #[]).toList <;> rfl
end
end Go.Vs
end
