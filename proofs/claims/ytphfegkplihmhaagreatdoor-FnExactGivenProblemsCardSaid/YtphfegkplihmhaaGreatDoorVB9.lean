/- What the program's functions compute, read off their text by the shadow runner (NLsc3, NLy, NLz, NLin, NLa, NLd, NLgp1, NLgp2, NLgp3, NTf, VsShape, NTx, VsDoor); no condition. -/
import Derived.Test.YtphfegkplihmhaaGreatDoorRows
import Derived.FnData
import Derived.MakeChecks
import Derived.Test.YtphfegkplihmhaaGreatDoorVB8
section
open Go Go.Vs Go.Proofs
set_option linter.unusedVariables false
set_option linter.unusedSimpArgs false
namespace Go.Vs
set_option maxRecDepth 100000
mutual
def nF : aC false → Nat
  | .sl _ es => nE es
  | _ => 0
def qH : List (aC false) → Nat
  | [] => 0
  | [l] => nF l
  | _ :: l :: r => qH (l :: r)
def nE : List (List (aC false)) → Nat
  | [] => 0
  | e :: es => 1 + qH e + nE es
end
theorem aCZ (x : bC) : qH x.l = nE x.a6 := by simp -implicitDefEqProofs only [bC.l, qH, nF]
mutual
theorem aWa : ∀ l : aC false, nF l ≤ tF l
  | .sl _ es => by simp -implicitDefEqProofs only [nF, tF]; exact aTQ es
  | .str _ => Nat.zero_le _
  | .bool _ => Nat.zero_le _
  | .int _ _ => Nat.zero_le _
  | .unk => Nat.zero_le _
  | .nl _ => Nat.zero_le _
theorem aP4 : ∀ e : List (aC false), qH e ≤ tL e
  | [] => Nat.zero_le _
  | [l] => by simp -implicitDefEqProofs only [qH, tL]; have := aWa l; omega
  | x :: l :: r => by
    have := aP4 (l :: r)
    simp -implicitDefEqProofs only [qH, tL] at this ⊢
    omega
theorem aTQ : ∀ es : List (List (aC false)), nE es ≤ es.length + tE es
  | [] => Nat.zero_le _
  | e :: es => by
    have h1 := aP4 e
    have h2 := aTQ es
    simp -implicitDefEqProofs only [nE, tE, List.length_cons]
    omega
end
theorem aRf : ∀ {es : List El} {e : El}, e ∈ es → 1 + qH e ≤ nE es
  | x :: es, e, h => by
    simp -implicitDefEqProofs only [nE]
    rcases List.mem_cons.1 h with rfl | h
    · omega
    · have := aRf h; omega
theorem aPB {β : Type} {es : List El} {A : Int → Int → Option β} {fin : Int → Option β} (hend : ∀ n, A n es.length = fin n) (hneg : ∀ (n : Int) (i : Nat), n < 0 → A n i = fin n)
    (hstep : ∀ (i : Nat) (hi : i < es.length) (n : Int), 0 ≤ n → n ≤ 120 → ∃ r : Int, A n i = A r ((i + 1 : Nat) : Int) ∧ -1 ≤ r ∧ r ≤ 120 ∧ (((1 + qH es[i] : Nat) : Int) ≤ n → r = n - (1 + qH es[i] : Nat)) ∧ (n < ((1 + qH es[i] : Nat) : Int) → r < 0)) :
    ∀ i : Nat, i ≤ es.length → ∀ n : Int, -1 ≤ n → n ≤ 120 → ∃ r : Int, A n i = fin r ∧ -1 ≤ r ∧ r ≤ 120 ∧ (0 ≤ n → ((nE (es.drop i) : Nat) : Int) ≤ n → r = n - (nE (es.drop i) : Nat)) ∧ (0 ≤ n → n < ((nE (es.drop i) : Nat) : Int) → r < 0) ∧ (n < 0 → r < 0) := by
  refine cF ?_ ?_
  · intro n h1 h2
    refine ⟨n, hend n, h1, h2, ?_, ?_, fun h => h⟩
    · intro _ _; rw [List.drop_length]; simp [nE]
    · intro h0 h; rw [List.drop_length] at h; simp [nE] at h; omega
  · intro i hi ih n h1 h2
    by_cases hn : n < 0
    · exact ⟨n, hneg n i hn, h1, h2, fun h => by omega, fun h => by omega, fun _ => hn⟩
    · obtain ⟨r, e1, r1, r2, r3, r4⟩ := hstep i hi n (by omega) h2
      obtain ⟨q, e2, q1, q2, q3, q4, q5⟩ := ih r r1 r2
      have hd : nE (es.drop i) = 1 + qH es[i] + nE (es.drop (i + 1)) := by rw [gS hi, nE]
      refine ⟨q, by rw [e1]; exact e2, q1, q2, fun _ hle => ?_, fun _ hlt => ?_, fun h => absurd h hn⟩
      · rw [hd] at hle ⊢
        have a1 := r3 (by omega)
        have a2 := q3 (by omega) (by omega)
        omega
      · rw [hd] at hlt
        by_cases hc : ((1 + qH es[i] : Nat) : Int) ≤ n
        · have a1 := r3 hc
          by_cases h0 : 0 ≤ r
          · exact q4 h0 (by omega)
          · exact q5 (by omega)
        · exact q5 (r4 (by omega))
theorem aRk {e : El} (h : eC e) : ∀ n : Int, 0 ≤ n → n ≤ 120 → ∃ r : Int, Dn F.aXS [.agg e, aI n] [] = some (aI r, []) ∧ -1 ≤ r ∧ r ≤ 120 ∧ (((1 + qH e : Nat) : Int) ≤ n → r = n - (1 + qH e : Nat)) ∧ (n < ((1 + qH e : Nat) : Int) → r < 0) := by
  induction h with
  | mk i0 s1 s2 s3 e4 e5 e6 h1 h2 h3 h4 q4 h5 q5 h6 q6 ih6 =>
    intro n h0 hn
    have hw : IntKind.i64.wrap (n - 1) = n - 1 := nS (by omega) (by omega)
    have step := aPB (es := e6) (A := fun n i => eE Dn (sN n i ⟨i0, s1, s2, s3, e4, e5, e6⟩)) (fin := fun n => some (aI n, []))
      (fun n => by rw [tJ]; simp -implicitDefEqProofs only [Int.lt_irrefl, decide_false, bT, aD, sY])
      (fun n i hn => by rw [tJ]; simp -implicitDefEqProofs only [sY, show ¬ (n ≥ 0) by omega, decide_false, aD, xP])
      (fun i hi n h0 hn => by
        obtain ⟨r, hr, b1, b2, b3, b4⟩ := ih6 _ (List.getElem_mem hi) n h0 hn
        obtain ⟨y, hy, iy⟩ := (q6 _ (List.getElem_mem hi)).st
        refine ⟨r, ?_, b1, b2, b3, b4⟩
        rw [hy] at hr
        rw [tJ]
        simp -implicitDefEqProofs only [inI, hi, bT, sY, show n ≥ 0 from h0, aN (fun e he => (q6 e he).len), bI hi, hy, bC.rd_l, hr, mN, aV (Nat.lt_of_lt_of_le hi h6)])
      0 (Nat.zero_le _) (n - 1) (by omega) (by omega)
    obtain ⟨r, hr, r1, r2, r3, r4, r5⟩ := step
    rw [List.drop_zero] at r3 r4
    have hl : qH [.int .i64 i0, .str s1, .str s2, .str s3, .sl fP e4, .sl fP e5, .sl fP e6] = nE e6 := aCZ ⟨i0, s1, s2, s3, e4, e5, e6⟩
    refine ⟨r, ?_, r1, r2, fun hle => ?_, fun hlt => ?_⟩
    · refine aP ?_
      have := aI2 (D := Dn) (x0 := ⟨i0, s1, s2, s3, e4, e5, e6⟩) (i1 := n)
      rw [hw] at this
      exact this.trans hr
    · rw [hl] at hle ⊢
      have := r3 (by omega) (by omega)
      omega
    · rw [hl] at hlt
      by_cases hc : 0 ≤ n - 1
      · exact r4 hc (by omega)
      · exact r5 (by omega)
section
variable {es : List El}
theorem aMQ (hl : es.length ≤ maxLen) (hq : ∀ e ∈ es, eC e) : Dn F.aYh [vsl es] [] = some (aH (decide (120 < nE es)), []) := by
  have step := aPB (es := es) (A := fun n i => eT Dn (uZ es n i)) (fin := fun n => some (aH (decide (n < 0)), []))
    (fun n => by rw [vH]; simp -implicitDefEqProofs only [Int.lt_irrefl, decide_false, bT, aD, vB])
    (fun n i hn => by rw [vH]; simp -implicitDefEqProofs only [vB, show ¬ (n ≥ 0) by omega, decide_false, aD, xP])
    (fun i hi n h0 hn => by
      obtain ⟨r, hr, b1, b2, b3, b4⟩ := aRk (hq _ (List.getElem_mem hi)) n h0 hn
      obtain ⟨y, hy, iy⟩ := (hq _ (List.getElem_mem hi)).st
      refine ⟨r, ?_, b1, b2, b3, b4⟩
      rw [hy] at hr
      rw [vH]
      simp -implicitDefEqProofs only [inI, hi, bT, vB, show n ≥ 0 from h0, aN (fun e he => (hq e he).len), bI hi, hy, bC.rd_l, hr, mN, aV (Nat.lt_of_lt_of_le hi hl)])
    0 (Nat.zero_le _) 120 (by decide) (by decide)
  obtain ⟨r, hr, r1, r2, r3, r4, r5⟩ := step
  rw [List.drop_zero] at r3 r4
  refine aP ?_
  rw [aKj]
  refine hr.trans ?_
  congr 3
  have : decide (r < 0) = decide (120 < nE es) := by
    rw [decide_eq_decide]
    by_cases h : 120 < nE es
    · have := r4 (by decide) (by omega)
      exact ⟨fun _ => h, fun _ => this⟩
    · have := r3 (by decide) (by omega)
      exact ⟨fun h => by omega, fun h' => absurd h' h⟩
  rw [this]
def aRT (es : List El) : Prop := nE es ≤ 1048576 → ∀ n : Int, 0 ≤ n → n ≤ 120 → ∃ r : Int, Dn F.aXs [vsl es, .ptr 0 0, .kfn F.aXs [some (0, 0), none]] [[aI n]] = some (.tup [], [[aI r]]) ∧ n - (nE es : Nat) ≤ r ∧ (((nE es : Nat) : Int) ≤ n → r = n - (nE es : Nat)) ∧ (n < ((nE es : Nat) : Int) → r < 0)
theorem aMD (hl : es.length ≤ maxLen) (hq : ∀ e ∈ es, eC e) (hk : ∀ e ∈ es, aRT (mQ e 6)) : aRT es := by
  intro hN n0 h0 hn0
  have loop : ∀ i : Nat, i ≤ es.length → ∀ n : Int, n ≤ 120 → -1048577 - (1048576 - (nE (es.drop i) : Nat)) ≤ n → ∃ r : Int, dE Dn (nM es es.length i n) = some (.tup [], [[aI r]]) ∧ n - (nE (es.drop i) : Nat) ≤ r ∧ (0 ≤ n → ((nE (es.drop i) : Nat) : Int) ≤ n → r = n - (nE (es.drop i) : Nat)) ∧ (0 ≤ n → n < ((nE (es.drop i) : Nat) : Int) → r < 0) ∧ (n < 0 → r < 0) := by
    refine cF ?_ ?_
    · intro n hn1 hn2
      refine ⟨n, ?_, ?_, ?_, ?_, fun h => h⟩
      · rw [uW]; simp -implicitDefEqProofs only [Int.lt_irrefl, decide_false, aD]
      · rw [List.drop_length]; simp [nE]
      · intro _ _; rw [List.drop_length]; simp [nE]
      · intro h0 h; rw [List.drop_length] at h; simp [nE] at h; omega
    · intro i hi ih n hn1 hn2
      obtain ⟨y, hy, iy⟩ := (hq _ (List.getElem_mem hi)).st
      have hki := hk _ (List.getElem_mem hi)
      have hmem := aRf (List.getElem_mem hi)
      rw [hy] at hki hmem
      rw [aCZ] at hmem
      have hki : aRT y.a6 := hki
      have hd : nE (es.drop i) = 1 + nE y.a6 + nE (es.drop (i + 1)) := by rw [gS hi, nE, hy, aCZ]
      have hle : nE (es.drop i) ≤ 1048576 := by
        have : ∀ (l : List El) (k : Nat), nE (l.drop k) ≤ nE l := fun l k => by
          induction l generalizing k with
          | nil => simp [nE]
          | cons e l ihl => cases k with
            | zero => exact Nat.le_refl _
            | succ k => have := ihl k; simp -implicitDefEqProofs only [List.drop_succ_cons, nE]; omega
        have := this es i
        omega
      have hw : IntKind.i64.wrap (n - 1) = n - 1 := nS (by omega) (by omega)
      have hwi := aV (Nat.lt_of_lt_of_le hi hl)
      rw [uW]
      simp -implicitDefEqProofs only [inI, hi, aN (fun e he => (hq e he).len), bI hi, hy, bC.rd_l, hw]
      by_cases h1 : n - 1 ≥ 0
      · obtain ⟨q, hq1, q2, q3, q4⟩ := hki (by omega) (n - 1) h1 (by omega)
        have hq1 : Dn F.aXs [.leaf (.sl fP y.a6), .ptr 0 0, .kfn F.aXs [some (0, 0), none]] [[.leaf (.int .i64 (n - 1))]] = some (.tup [], [[aI q]]) := hq1
        have hqle : q ≤ n - 1 := by
          by_cases hc : ((nE y.a6 : Nat) : Int) ≤ n - 1
          · have := q3 hc; omega
          · have := q4 (by omega); omega
        obtain ⟨r, hr, r1, r2, r3, r4⟩ := ih q (by omega) (by omega)
        refine ⟨r, ?_, by omega, fun _ hle => ?_, fun _ hlt => ?_, fun h => by omega⟩
        · rw [show decide (n - 1 ≥ 0) = true from decide_eq_true h1, aE]
          refine Eq.trans ?_ hr
          refine (congrArg (fun z => Option.bind z _) hq1).trans ?_
          simp -implicitDefEqProofs only [Option.bind_some, aCV, qC, aRW, tO, aBI, qB, uO, hwi]
        · rw [hd] at hle ⊢
          have a1 := q3 (by omega)
          have a2 := r2 (by omega) (by omega)
          omega
        · rw [hd] at hlt
          by_cases hc : ((nE y.a6 : Nat) : Int) ≤ n - 1
          · have a1 := q3 hc
            by_cases h0 : 0 ≤ q
            · exact r3 h0 (by omega)
            · exact r4 (by omega)
          · exact r4 (q4 (by omega))
      · obtain ⟨r, hr, r1, r2, r3, r4⟩ := ih (n - 1) (by omega) (by omega)
        refine ⟨r, ?_, by omega, fun _ hle => ?_, fun _ hlt => r4 (by omega), fun h => r4 (by omega)⟩
        · rw [show decide (n - 1 ≥ 0) = false from decide_eq_false h1, aD, uO, hwi]
          exact hr
        · rw [hd] at hle; omega
  obtain ⟨r, hr, r1, r2, r3, r4⟩ := loop 0 (Nat.zero_le _) n0 hn0 (by rw [List.drop_zero]; omega)
  rw [List.drop_zero] at r1 r2 r3
  refine ⟨r, ?_, r1, r2 h0, r3 h0⟩
  refine aP ?_
  exact Eq.trans (aDO Dn es n0) hr
theorem aSs {e : El} (h : eC e) : aRT (mQ e 6) := by
  induction h with
  | mk i0 s1 s2 s3 e4 e5 e6 h1 h2 h3 h4 q4 h5 q5 h6 q6 ih6 => exact aMD (es := e6) h6 q6 ih6
theorem aL2 (hl : es.length ≤ maxLen) (hq : ∀ e ∈ es, eC e) (hN : nE es ≤ 1048576) : Dn F.aYf [vsl es] [] = some (aH (decide (120 < nE es)), []) := by
  obtain ⟨r, hr, r1, r2, r3⟩ := aMD hl hq (fun e he => aSs (hq e he)) hN 120 (by decide) (by decide)
  refine aP ?_
  rw [aKm]
  refine (congrArg (fun z => Option.bind z _) hr).trans ?_
  simp -implicitDefEqProofs only [Option.bind_some, aCV, qC, aRW, tO, aBI, qB]
  have : decide (r < 0) = decide (120 < nE es) := by
    rw [decide_eq_decide]
    by_cases h : 120 < nE es
    · have := r3 (by omega)
      exact ⟨fun _ => h, fun _ => this⟩
    · have := r2 (by omega)
      exact ⟨fun h => by omega, fun h' => absurd h' h⟩
  rw [this]
end
end Go.Vs
end
section
open Go Go.Vs Go.Proofs
set_option linter.unusedVariables false
set_option linter.unusedSimpArgs false
namespace Go.Vs
section
variable {s : bU}
open Classical in
noncomputable def aBE (s : bU) (e : El) (t : eM) : Bool := decide (Dn F.aZs [.agg s.l, .agg e, .agg t.l] [] = some (aH true, []))
def aCW (s : bU) (e : El) (t : eM) : Prop := Dn F.aZs [.agg s.l, .agg e, .agg t.l] [] = some (aH (aBE s e t), []) ∧ Dn F.aZq [.agg s.l, .agg e, .agg t.l] [] = some (aH (aBE s e t), [])
theorem aF0 {e : El} {t : eM} {b : Bool} (h1 : Dn F.aZs [.agg s.l, .agg e, .agg t.l] [] = some (aH b, [])) (h2 : Dn F.aZq [.agg s.l, .agg e, .agg t.l] [] = some (aH b, [])) : aCW s e t := by
  have : aBE s e t = b := by
    unfold aBE
    rw [h1]
    cases b
    · simp
    · simp
  unfold aCW
  rw [this]
  exact ⟨h1, h2⟩
theorem aRs {es : List El} {t : eM} (hl : es.length ≤ maxLen) (hq : ∀ e ∈ es, cS e) (ht : t.a1.size ≤ maxLen) (H : ∀ e ∈ es, aCW s e (inn t)) :
    Dn F.aWu [vsl es, .fn F.aYD [.ptr 0 0, .ptr 1 0]] [[vsl s.a0, vsl s.a1, vsl s.a2], [.leaf (.str t.a0), .leaf (.str t.a1)]] =
      some (aH (es.any fun e => !aBE s e (inn t)), [[vsl s.a0, vsl s.a1, vsl s.a2], [.leaf (.str t.a0), .leaf (.str t.a1)]]) := by
  have key : Dn F.aWw [vsl es, .fn F.aYD [.ptr 0 0, .ptr 1 0]] [[vsl s.a0, vsl s.a1, vsl s.a2], [.leaf (.str t.a0), .leaf (.str t.a1)]] =
      some (aI (fI (fun e => !aBE s e (inn t)) 0 es), [[vsl s.a0, vsl s.a1, vsl s.a2], [.leaf (.str t.a0), .leaf (.str t.a1)]]) := by
    refine aP ?_
    rw [mB]
    refine pI (es := es) (A := fun i => bG Dn (dJ es F.aYD es.length i s t)) (by rw [gF]; simp) fun i hi => ?_
    have hf := H _ (List.getElem_mem hi)
    obtain ⟨x, hx, _⟩ := (hq _ (List.getElem_mem hi)).st
    rw [hx] at hf
    have hc : Dn F.aYD [.agg x.l, .ptr 0 0, .ptr 1 0] [[vsl s.a0, vsl s.a1, vsl s.a2], [.leaf (.str t.a0), .leaf (.str t.a1)]] = some (aH (!aBE s x.l (inn t)), [[vsl s.a0, vsl s.a1, vsl s.a2], [.leaf (.str t.a0), .leaf (.str t.a1)]]) := by
      refine aP ?_
      rw [aLo]
      have h1 := aIQ ht
      have h2 := hf.2
      simp -implicitDefEqProofs only [h1, rdR, pH, beq_self_eq_true, Bool.not_true, Bool.not_false, Bool.and_true, Bool.true_and, bT, bF, eM.va_l, h2]
    rw [gF]
    simp -implicitDefEqProofs only [inI, hi, aV (Nat.lt_of_lt_of_le hi hl), aN (fun e he => (hq e he).len), bI hi, hx, cG.rd_l, hc, rdR, pH, beq_self_eq_true, Bool.not_true, Bool.not_false, Bool.and_true, Bool.true_and, bT, bF]
  refine aP ?_
  rw [kZ, key]
  simp -implicitDefEqProofs only [rdR, pH, beq_self_eq_true, Bool.not_true, Bool.not_false, Bool.and_true, Bool.true_and, bT, bF, ← uI _ es 0 (by omega)]
theorem aQL {es : List El} {x : cG} (hl : es.length ≤ maxLen) (hq : ∀ e ∈ es, cX e) :
    Dn F.aWr [vsl es, .fn F.aXq [.ptr 0 0]] [[aI x.a0, .leaf (.str x.a1), vsl x.a2, vsl x.a3]] = some (aH (es.any (at0 x.a1)), [[aI x.a0, .leaf (.str x.a1), vsl x.a2, vsl x.a3]]) := by
  have key : Dn F.aWt [vsl es, .fn F.aXq [.ptr 0 0]] [[aI x.a0, .leaf (.str x.a1), vsl x.a2, vsl x.a3]] = some (aI (fI (at0 x.a1) 0 es), [[aI x.a0, .leaf (.str x.a1), vsl x.a2, vsl x.a3]]) := by
    refine aP ?_
    rw [kP]
    refine pI (es := es) (A := fun i => bB Dn (dA es F.aXq es.length i x)) (by rw [fF]; simp) fun i hi => ?_
    obtain ⟨y, hy, _⟩ := (hq _ (List.getElem_mem hi)).st
    have hc : Dn F.aXq [.agg y.l, .ptr 0 0] [[aI x.a0, .leaf (.str x.a1), vsl x.a2, vsl x.a3]] = some (aH (y.a0.toList == x.a1.toList), [[aI x.a0, .leaf (.str x.a1), vsl x.a2, vsl x.a3]]) := aP (aGo ..)
    rw [fF]
    simp -implicitDefEqProofs only [inI, hi, aV (Nat.lt_of_lt_of_le hi hl), aN (fun e he => (hq e he).len), bI hi, hy, lX.rd_l, hc, rdR, pH, beq_self_eq_true, Bool.not_true, Bool.not_false, Bool.and_true, Bool.true_and, bT, bF]
    rfl
  refine aP ?_
  rw [kA, key]
  simp -implicitDefEqProofs only [rdR, pH, beq_self_eq_true, Bool.not_true, Bool.not_false, Bool.and_true, Bool.true_and, bT, bF, ← uI _ es 0 (by omega)]
theorem aQF {es : List El} {x : cG} (hl : es.length ≤ maxLen) (hq : ∀ e ∈ es, jS e) (hx : cS x.l) :
    Dn F.aWD [vsl es, .fn F.aW4 [.ptr 0 0]] [[aI x.a0, .leaf (.str x.a1), vsl x.a2, vsl x.a3]] = some (aH (es.any fun e => !x.a3.any (at0 (cR e 0))), [[aI x.a0, .leaf (.str x.a1), vsl x.a2, vsl x.a3]]) := by
  have key : Dn F.aWE [vsl es, .fn F.aW4 [.ptr 0 0]] [[aI x.a0, .leaf (.str x.a1), vsl x.a2, vsl x.a3]] = some (aI (fI (fun e => !x.a3.any (at0 (cR e 0))) 0 es), [[aI x.a0, .leaf (.str x.a1), vsl x.a2, vsl x.a3]]) := by
    refine aP ?_
    rw [pE]
    refine pI (es := es) (A := fun i => cA Dn (eD es F.aW4 es.length i x)) (by rw [iQ]; simp) fun i hi => ?_
    obtain ⟨u, hu, _⟩ := hq _ (List.getElem_mem hi)
    have hc : Dn F.aW4 [.leaf (.str u), .ptr 0 0] [[aI x.a0, .leaf (.str x.a1), vsl x.a2, vsl x.a3]] = some (aH (!x.a3.any (at0 u)), [[aI x.a0, .leaf (.str x.a1), vsl x.a2, vsl x.a3]]) := by
      refine aP ?_
      rw [aEq, vA (s := u) hx.p.2.2.2.1 hx.p.2.2.2.2, dO]
    rw [iQ]
    simp -implicitDefEqProofs only [inI, hi, aV (Nat.lt_of_lt_of_le hi hl), aN (fun e he => (hq e he).len), bI hi, hu, aEV, hc, rdR, pH, beq_self_eq_true, Bool.not_true, Bool.not_false, Bool.and_true, Bool.true_and, bT, bF]
    rfl
  refine aP ?_
  rw [nP, key]
  simp -implicitDefEqProofs only [rdR, pH, beq_self_eq_true, Bool.not_true, Bool.not_false, Bool.and_true, Bool.true_and, bT, bF, ← uI _ es 0 (by omega)]
theorem aVL {n : ByteArray} {B : Nat} (hs : bM s.l) (bs : bdL B s.l) : (lU s n).a6.length ≤ B ∧ bdE B (lU s n).a6 := by
  by_cases h : rO s n < 0
  · have : lU s n = aDm := by unfold lU; rw [if_pos h]
    rw [this]
    exact ⟨Nat.zero_le _, trivial⟩
  · obtain ⟨j, hj, y, hi, hy, iy⟩ := wH hs h
    rw [aAM hi hy]
    have b0 : bdE B s.a0 := bs.1.2
    have b1 : bdL B y.l := hy ▸ lA b0 _ (List.getElem_mem hj)
    exact ⟨b1.2.2.2.2.2.2.1.1, b1.2.2.2.2.2.2.1.2⟩
theorem aUd {d : aJ} {x : cG} (hs : bM s.l) (hd : fC d.l) (bd : d.a6.length ≤ 1048576) (hx : cS x.l) (H : ∀ e ∈ x.a2, ∀ t : eM, t.a1.size ≤ maxLen → aCW s e t) :
    ∃ b, Dn F.aXR [.agg s.l, vsl d.a6, .agg x.l] [] = some (aH b, []) ∧ Dn F.aXC [.agg s.l, .agg x.l, .agg d.l] [] = some (aH b, []) := by
  have hml : (1048576 : Nat) ≤ maxLen := by decide
  obtain ⟨_, l2, q2, l3, q3⟩ := hx.p
  have qd : ∀ e ∈ d.a6, dB e := hd.p.2.2.2.2.2.2.2.1
  have ld : d.a6.length ≤ maxLen := Nat.le_trans bd hml
  have S := aIY Dn s d.a6 x
  have I := aHF Dn s x d
  suffices h : x.a0 = 8 → x.a3.length = x.a2.length → x.a3.length ≤ 100 → ∃ b, bL Dn (mJ d.a6 0 s x) = some (aH b, []) ∧ bZ Dn (jP x.a3 x.a3.length 0 s x d) = some (aH b, []) by
    simp -implicitDefEqProofs only [bF, aAn] at S I
    by_cases h8 : x.a0 = 8
    · have e8 : (x.a0 != 8) = false := by simp [h8]
      simp -implicitDefEqProofs only [e8, aD] at S I
      by_cases hl : x.a3.length = x.a2.length
      · have el : (((x.a3.length : Nat) : Int) != ((x.a2.length : Nat) : Int)) = false := by simp [hl]
        simp -implicitDefEqProofs only [el, aD, tC, rE] at S I
        by_cases h100 : x.a3.length ≤ 100
        · have g1 : ¬ ((x.a3.length : Nat) : Int) > 100 := by omega
          have g2 : ¬ ((x.a2.length : Nat) : Int) > 100 := by omega
          simp -implicitDefEqProofs only [g1, g2, decide_false, aD] at S I
          obtain ⟨b, k1, k2⟩ := h h8 hl h100
          exact ⟨b, aP (S.trans k1), aP (I.trans k2)⟩
        · have g1 : ((x.a3.length : Nat) : Int) > 100 := by omega
          have g2 : ((x.a2.length : Nat) : Int) > 100 := by omega
          simp -implicitDefEqProofs only [g1, g2, decide_true, aE] at S I
          exact ⟨false, aP S, aP I⟩
      · have el : (((x.a3.length : Nat) : Int) != ((x.a2.length : Nat) : Int)) = true := by simp; omega
        simp -implicitDefEqProofs only [el, aE, tC, rE] at S I
        exact ⟨false, aP S, aP I⟩
    · have e8 : (x.a0 != 8) = true := by simp [h8]
      simp -implicitDefEqProofs only [e8, aE, tC, rE] at S I
      exact ⟨false, aP S, aP I⟩
  intro _ hlen _
  clear S I
  have key : ∀ i : Nat, i ≤ x.a3.length → ∃ b, bL Dn (mJ d.a6 i s x) = some (aH b, []) ∧ bZ Dn (jP x.a3 x.a3.length i s x d) = some (aH b, []) := by
    refine cF ?_ ?_
    · refine ⟨!(vN d.a6).any fun e => !x.a3.any (at0 (cR e 0)), ?_, ?_⟩
      · rw [aAw]
        simp -implicitDefEqProofs only [Int.lt_irrefl, decide_false, aD, aA4 bd qd, kT]
        have := aNg (es := vN d.a6) (p := fun e => !x.a3.any (at0 (cR e 0))) (A := fun i => bL Dn (sD (vN d.a6) i x)) (yes := some (aH false, [])) (no := some (aH true, [])) (by rw [aAj]; simp) fun i hi => by
          obtain ⟨u, hu, _⟩ := wN qd _ (List.getElem_mem hi)
          rw [aAj]
          simp -implicitDefEqProofs only [inI, hi, aV (Nat.lt_of_lt_of_le hi (Nat.le_trans (aBX d.a6) ld)), aN (fun e he => (wN qd e he).len), bI hi, hu, aEV, pJ (s := u) l3 q3, dO]
          rfl
        rw [this]
        cases (vN d.a6).any fun e => !x.a3.any (at0 (cR e 0)) <;> rfl
      · rw [zK]
        have h1 := aQF (x := x) (Nat.le_trans (aBX d.a6) ld) (wN qd) hx
        simp -implicitDefEqProofs only [Int.lt_irrefl, decide_false, aD, aA0 bd qd, kT, h1, rdR, pH, beq_self_eq_true, Bool.not_true, Bool.not_false, Bool.and_true, Bool.true_and, bT, bF]
    · intro i hi ⟨b, k1, k2⟩
      obtain ⟨u, hu, _⟩ := q3 _ (List.getElem_mem hi)
      have hw := aV (Nat.lt_of_lt_of_le hi l3)
      have hle : i ≤ x.a3.length := by omega
      have hi2 : i < x.a2.length := by omega
      have S : bL Dn (mJ d.a6 i s x) = _ := aAw ..
      have I : bZ Dn (jP x.a3 x.a3.length i s x d) = _ := zK ..
      have z3 : sized 1 x.a3 = true := aN (fun e he => (q3 e he).len)
      have z2 : sized 4 x.a2 = true := aN (fun e he => (q2 e he).len)
      have zd : sized 10 d.a6 = true := aN (fun e he => (qd e he).len)
      have sS : ∀ b', bL Dn (pG d.a6 i b' s x) = some (aH (if b' = true then false else b), []) := fun b' => by
        rw [aHk]
        cases b' <;> simp -implicitDefEqProofs only [aE, aD, hw, k1, if_true, Bool.false_eq_true, if_false]
      have sI : ∀ b', bZ Dn (nT x.a3 x.a3.length i b' s x d) = some (aH (if b' = true then false else b), []) := fun b' => by
        rw [aGm]
        cases b' <;> simp -implicitDefEqProofs only [aE, aD, hw, k2, if_true, Bool.false_eq_true, if_false]
      have qt : ∀ e ∈ x.a3.take i, jS e := fun e he => q3 e (List.mem_of_mem_take he)
      have lt : (x.a3.take i).length ≤ maxLen := by rw [List.length_take]; omega
      simp -implicitDefEqProofs only [inI, hi, z3, bI hi, hu, aEV, aKU (s := u) ld qd, aKK (s := u) ld qd, mN, bF, hle, List.drop_zero, pJ (s := u) lt qt, vA (s := u) lt qt, dO, sS, sI] at S I
      rw [S, I]
      by_cases hn : fI (at0 u) 0 d.a6 < 0
      · simp -implicitDefEqProofs only [hn, decide_true, Bool.not_true, aD]
        exact ⟨_, rfl, rfl⟩
      · obtain ⟨j, hj, hij, _⟩ := rX hn
        obtain ⟨y, hy, iy⟩ := (qd _ (List.getElem_mem hj)).st
        have nj : ¬ ((j : Nat) : Int) < 0 := by omega
        simp -implicitDefEqProofs only [hij, nj, decide_false, Bool.not_false, aE]
        cases (x.a3.take i).any (at0 u) with
        | true => simp -implicitDefEqProofs only [Bool.not_true, aD]; exact ⟨_, rfl, rfl⟩
        | false =>
          obtain ⟨v, hv, iv⟩ := (q2 _ (List.getElem_mem hi2)).st
          have hf := H _ (List.getElem_mem hi2) ⟨y.a2, y.a3⟩ iy.p.2.2.2.1
          rw [hv] at hf
          have h1 := hf.1
          have h2 := hf.2
          simp -implicitDefEqProofs only [Bool.not_false, aE, inI, hi2, z2, bI hi2, hv, cG.rd_l, hj, zd, bI hj, hy, dV, atP, h1, h2, dO, sS, sI]
          exact ⟨_, rfl, rfl⟩
  exact key 0 (Nat.zero_le _)
end
end Go.Vs
end
section
open Go Go.Vs Go.Proofs
set_option linter.unusedVariables false
set_option linter.unusedSimpArgs false
namespace Go.Vs
section
variable {s : bU}
theorem aTv {x : cG} : Dn F.aYZ [.agg x.l] [] = some (aH (x.a0 == 5 && (x.a1.toList == (ByteArray.mk #[110, 117, 108, 108]).toList)), []) := by
  refine aP ?_
  rw [aLq]
  cases (x.a0 == 5) <;> simp -implicitDefEqProofs only [bT, aE, aD, Bool.true_and, Bool.false_and]
theorem aUt {x : cG} {n : ByteArray} (hs : bM s.l) (bs : bdL 1048576 s.l) (hx : cS x.l) (bx : x.a1.size ≤ 1048576) (H : ∀ e ∈ x.a2, ∀ t : eM, t.a1.size ≤ maxLen → aCW s e t) (w : ByteArray) (hw : w.size = 0) :
    ∃ b, bW Dn (tZ false s x ⟨n, w⟩) = some (aH b, []) ∧ Dn F.aXV [.agg s.l, .agg x.l, .leaf (.str n)] [] = some (aH b, []) := by
  have hml : (1048576 : Nat) ≤ maxLen := by decide
  have S := aAP Dn false s x ⟨n, w⟩
  have I := aIt Dn s x n
  have w0 : ¬ ((w.size : Nat) : Int) > 0 := by omega
  have id := (aLR (n := n) hs)
  have ce := aQL (x := x) id.p.2.2.2.2.2.2.2.2.1 id.p.2.2.2.2.2.2.2.2.2.1
  simp -implicitDefEqProofs only [aD, w0, decide_false, aBs hs, mN, aFC, dO, aJS (n := n) hx.p.1] at S
  simp -implicitDefEqProofs only [aAL hs, rdR, pH, beq_self_eq_true, Bool.not_true, Bool.not_false, Bool.and_true, Bool.true_and, bT, bF, aJ.va_l, aEd, aHQ (n := n) bx, ce] at I
  rw [S]
  by_cases h : rO s n < 0
  · simp -implicitDefEqProofs only [h, decide_true, aE, Bool.not_true, aD, Bool.not_false] at I ⊢
    cases hb : aFb n with
    | false => simp -implicitDefEqProofs only [hb, bT, aD] at I ⊢; exact ⟨_, rfl, aP I⟩
    | true => simp -implicitDefEqProofs only [hb, bT, aE] at I ⊢; exact ⟨_, rfl, aP I⟩
  · obtain ⟨j, hj, y, hi, hy, iy⟩ := wH hs h
    have hd := aAM hi hy
    rw [hd] at I id
    have nj : ¬ ((j : Nat) : Int) < 0 := by omega
    have hbd := aVL (n := n) hs bs
    rw [hd] at hbd
    obtain ⟨bi, k1, k2⟩ := aUd hs iy hbd.1 hx H
    simp -implicitDefEqProofs only [h, hi, nj, decide_false, aD, Bool.not_false, aE, Bool.not_true, inI, hj, aN (fun e he => (hs.p.2.1 e he).len), bI hj, hy, aJ.rd_l, k1, k2, dO] at I ⊢
    cases h1 : (y.a0 == 1) with
    | true => simp -implicitDefEqProofs only [h1, aE] at I ⊢; exact ⟨_, rfl, aP I⟩
    | false =>
      simp -implicitDefEqProofs only [h1, aD] at I ⊢
      cases h5 : (y.a0 == 5) with
      | true =>
        simp -implicitDefEqProofs only [h5, aE] at I ⊢
        obtain ⟨_, _, _, _, _, _, _, _, l7, q7, _⟩ := iy.p
        have := aNg (es := y.a7) (p := fun e => x.a0 == 6 && at0 x.a1 e) (A := fun i => bW Dn (aAV i x y)) (yes := some (aH true, [])) (no := some (aH false, [])) (by rw [aEm]; simp [aFz]) fun i hi => by
          obtain ⟨z, hz, _⟩ := (q7 _ (List.getElem_mem hi)).st
          rw [aEm]
          simp -implicitDefEqProofs only [inI, hi, bT, aV (Nat.lt_of_lt_of_le hi l7), aN (fun e he => (q7 e he).len), bI hi, hz, atP, aME]
          cases (x.a0 == 6) <;> simp -implicitDefEqProofs only [aE, aD, Bool.true_and, Bool.false_and] <;> rfl
        rw [this]
        cases h6 : (x.a0 == 6) with
        | true =>
          simp -implicitDefEqProofs only [h6, bT, aE] at I
          simp -implicitDefEqProofs only [Bool.true_and]
          refine ⟨y.a7.any (at0 x.a1), ?_, aP I⟩
          cases y.a7.any (at0 x.a1) <;> rfl
        | false =>
          simp -implicitDefEqProofs only [h6, bT, aD] at I
          refine ⟨false, ?_, aP I⟩
          simp
      | false =>
        simp -implicitDefEqProofs only [h5, aD] at I ⊢
        cases h6 : (y.a0 == 6) with
        | true => simp -implicitDefEqProofs only [h6, aE] at I ⊢; exact ⟨_, rfl, aP I⟩
        | false => simp -implicitDefEqProofs only [h6, aD, aFz] at I ⊢; exact ⟨_, rfl, aP I⟩
theorem aRA (hs : bM s.l) (bs : bdL 1048576 s.l) : ∀ e, cS e → bdL 1048576 e → ∀ t : eM, t.a1.size ≤ maxLen → aCW s e t := by
  intro e he
  induction he with
  | mk i0 s1 e2 e3 h1 h2 q2 h3 q3 ih =>
    intro be
    have hx : cS (cG.l ⟨i0, s1, e2, e3⟩) := .mk i0 s1 e2 e3 h1 h2 q2 h3 q3
    obtain ⟨_, b1, b2, _⟩ := be
    have H : ∀ e ∈ e2, ∀ t : eM, t.a1.size ≤ maxLen → aCW s e t := fun e he => ih e he (lA b2.2 e he)
    generalize hxx : (⟨i0, s1, e2, e3⟩ : cG) = x at hx
    have ex : [.int .i64 i0, .str s1, .sl fP e2, .sl fP e3] = x.l := by rw [← hxx]; rfl
    have b1 : x.a1.size ≤ 1048576 := by rw [← hxx]; exact b1
    have H : ∀ e ∈ x.a2, ∀ t : eM, t.a1.size ≤ maxLen → aCW s e t := by rw [← hxx]; exact H
    rw [ex]
    clear ex hxx b2 ih q2 q3 h1 h2 h3
    intro t
    induction hk : t.a1.size using Nat.strongRecOn generalizing t with
    | ind k ih =>
      intro ht
      subst hk
      have S := aNw Dn s x t
      have I := aNj Dn s x t
      have hf := Nat.le_trans (aII t) ht
      have hn1 := aBp ht
      have hn2 := aGx ht
      have hf1 := aIq ht
      have hf2 := aIR ht
      simp -implicitDefEqProofs only [aTv, hn2, hf2, rdR, pH, beq_self_eq_true, Bool.not_true, Bool.not_false, Bool.and_true, Bool.true_and, bT, bF, eM.va_l, yX (c := 93) hf, aVz] at I
      simp -implicitDefEqProofs only [aM6, hn1, hf1, rdR, pH, beq_self_eq_true, Bool.not_true, Bool.not_false, Bool.and_true, Bool.true_and, bT, bF, eM.va_l] at S
      cases a1 : (x.a0 == 1) with
      | true => simp -implicitDefEqProofs only [a1, aE] at S I; exact aF0 (aP S) (aP I)
      | false =>
        simp -implicitDefEqProofs only [a1, aD] at S I
        have hN : ∀ q : Bool, q = (x.a0 == 5 && (x.a1.toList == (ByteArray.mk #[110, 117, 108, 108]).toList)) → q = true → aCW s x.l t := fun q hq hq' => by
          rw [hq'] at hq
          have h2 : (x.a0 == 5) = true ∧ (x.a1.toList == (ByteArray.mk #[110, 117, 108, 108]).toList) = true := by
            rw [← Bool.and_eq_true]; exact hq.symm
          simp -implicitDefEqProofs only [h2.1, h2.2, aE, Bool.and_self] at S I
          exact aF0 (aP S) (aP I)
        cases hnul : (x.a0 == 5 && (x.a1.toList == (ByteArray.mk #[110, 117, 108, 108]).toList)) with
        | true => exact hN _ hnul.symm rfl
        | false =>
          have S1 : aT Tryz.prog Dn Hs bA F.aZs [.agg s.l, .agg x.l, .agg t.l] [] = bW Dn (tZ (mG (few t).a1 93) s x (few t)) := by
            have l := aU7 hf 93 (by omega) (fun b => bW Dn (tZ b s x (few t)))
            rw [show ((93 : Nat) : Int) = 93 from rfl] at l
            rw [S]
            cases h5 : (x.a0 == 5) with
            | false => simp -implicitDefEqProofs only [aD]; exact l
            | true =>
              rw [h5, Bool.true_and] at hnul
              simp -implicitDefEqProofs only [aE, hnul, aD]; exact l
          simp -implicitDefEqProofs only [hnul, aD] at I
          cases he : mG (few t).a1 93 with
          | true =>
            have hlt := aUQ he
            have hin := Nat.le_trans (Nat.le_of_lt hlt) ht
            rw [he, aAP] at S1
            simp -implicitDefEqProofs only [aE, aO8 hf, rdR, pH, beq_self_eq_true, Bool.not_true, Bool.not_false, Bool.and_true, Bool.true_and, bT, bF, eM.va_l] at S1
            simp -implicitDefEqProofs only [he, aE, aIQ hf, rdR, pH, beq_self_eq_true, Bool.not_true, Bool.not_false, Bool.and_true, Bool.true_and, bT, bF, eM.va_l] at I
            cases h7 : (x.a0 != 7) with
            | true =>
              have hr := ih _ hlt (inn (few t)) rfl hin
              have r1 := hr.1
              have r2 := hr.2
              simp -implicitDefEqProofs only [h7, aE, r1, dO] at S1
              simp -implicitDefEqProofs only [h7, aE, r2, dO] at I
              exact aF0 (aP S1) (aP I)
            | false =>
              obtain ⟨_, l2, q2, _⟩ := hx.p
              have hl := aRs (s := s) (t := few t) l2 q2 hf fun e he => H e he _ hin
              simp -implicitDefEqProofs only [h7, aD] at S1
              simp -implicitDefEqProofs only [h7, aD, hl, rdR, pH, beq_self_eq_true, Bool.not_true, Bool.not_false, Bool.and_true, Bool.true_and, bT, bF] at I
              have := aNg (es := x.a2) (p := fun e => !aBE s e (inn (few t))) (A := fun i => bW Dn (aA9 i s x (inn (few t)))) (yes := some (aH false, [])) (no := some (aH true, [])) (by rw [aEf]; simp) fun i hi => by
                have hf := H _ (List.getElem_mem hi) (inn (few t)) hin
                obtain ⟨y, hy, _⟩ := (q2 _ (List.getElem_mem hi)).st
                rw [hy] at hf
                have r1 := hf.1
                rw [aEf]
                simp -implicitDefEqProofs only [inI, hi, aV (Nat.lt_of_lt_of_le hi l2), aN (fun e he => (q2 e he).len), bI hi, hy, cG.rd_l, r1, dO]
              rw [this] at S1
              refine aF0 (aP (S1.trans ?_)) (aP I)
              cases x.a2.any fun e => !aBE s e (inn (few t)) <;> rfl
          | false =>
            rw [he] at S1
            simp -implicitDefEqProofs only [he, aD] at I
            by_cases h0 : (few t).a1.size = 0
            · obtain ⟨b, k1, k2⟩ := aUt (n := (few t).a0) hs bs hx b1 H (few t).a1 h0
              have e0 : ((((few t).a1.size : Nat) : Int) == 0) = true := by rw [beq_iff_eq]; omega
              simp -implicitDefEqProofs only [e0, Bool.not_true, aD, k2, dO] at I
              exact aF0 (aP (S1.trans k1)) (aP I)
            · have e0 : ((((few t).a1.size : Nat) : Int) == 0) = false := by rw [beq_eq_false_iff_ne]; omega
              have g0 : (((few t).a1.size : Nat) : Int) > 0 := by omega
              rw [aAP] at S1
              simp -implicitDefEqProofs only [e0, Bool.not_false, aE] at I
              simp -implicitDefEqProofs only [g0, decide_true, aD, aE] at S1
              exact aF0 (aP S1) (aP I)
theorem aQc {x : cG} {t : eM} (hs : bM s.l) (bs : bdL 1048576 s.l) (hx : cS x.l) (bx : bdL 1048576 x.l) (ht : t.a1.size ≤ maxLen) : Dn F.aZs [.agg s.l, .agg x.l, .agg t.l] [] = some (aH (aBE s x.l t), []) := (aRA hs bs _ hx bx t ht).1
theorem aPr {x : cG} {t : eM} (hs : bM s.l) (bs : bdL 1048576 s.l) (hx : cS x.l) (bx : bdL 1048576 x.l) (ht : t.a1.size ≤ maxLen) : Dn F.aZq [.agg s.l, .agg x.l, .agg t.l] [] = some (aH (aBE s x.l t), []) := (aRA hs bs _ hx bx t ht).2
end
end Go.Vs
end
section
open Go Go.Vs Go.Proofs
set_option linter.unusedVariables false
set_option linter.unusedSimpArgs false
namespace Go.Vs
end Go.Vs
end
section
open Go Go.Vs Go.Proofs
set_option linter.unusedVariables false
set_option linter.unusedSimpArgs false
namespace Go.Vs
theorem aGW {es : List El} {s : ByteArray} (hl : es.length ≤ maxLen) (hq : ∀ e ∈ es, gO e) : Dn F.aYX [vsl es, .leaf (.str s)] [] = some (aH (es.any (at0 s)), []) := by
  have key : Dn F.aWA [vsl es, .fn F.aX0 [.ptr 0 0]] [[.leaf (.str s)]] = some (aI (fI (at0 s) 0 es), [[.leaf (.str s)]]) := by
    refine aP ?_
    rw [nI]
    refine pI (es := es) (A := fun i => bP Dn (dT es F.aX0 es.length i s)) (by rw [hY]; simp) fun i hi => ?_
    obtain ⟨x, hx, _⟩ := (hq _ (List.getElem_mem hi)).st
    have hc : Dn F.aX0 [.agg x.l, .ptr 0 0] [[.leaf (.str s)]] = some (aH (x.a0.toList == s.toList), [[.leaf (.str s)]]) := aP (aIm ..)
    rw [hY]
    simp -implicitDefEqProofs only [inI, hi, aV (Nat.lt_of_lt_of_le hi hl), aN (fun e he => (hq e he).len), bI hi, hx, dL.rd_l, hc, zX]
    rfl
  have k2 : Dn F.aWy [vsl es, .fn F.aX0 [.ptr 0 0]] [[.leaf (.str s)]] = some (aH (es.any (at0 s)), [[.leaf (.str s)]]) := by
    refine aP ?_
    rw [mH, key, aE9, uI _ _ _ (by omega)]
  refine aP ?_
  rw [aLe, k2, zX]
def nms (es : List El) : List El := es.map fun e => [.str (cR e 0)]
theorem aR3 {es : List El} {s : ByteArray} : (nms es).any (at0 s) = es.any (at0 s) := by unfold nms; rw [List.any_map]; rfl
theorem aR4 {es : List El} : (nms es).length = es.length := List.length_map ..
theorem aRH {es : List El} (hq : ∀ e ∈ es, gO e) : ∀ e ∈ nms es, jS e := by
  intro e he
  obtain ⟨x, hx, rfl⟩ := List.mem_map.1 he
  obtain ⟨y, rfl, iy⟩ := (hq x hx).st
  exact ⟨y.a0, rfl, iy.p.1⟩
theorem aTz {es : List El} {i : Nat} (hi : i < es.length) : nms (es.take i) ++ [[.str (cR es[i] 0)]] = nms (es.take (i + 1)) := by
  unfold nms; rw [List.take_succ_eq_append_getElem hi, List.map_append]; rfl
section
variable {s : bU} {o : ByteArray} {list args : List El}
noncomputable def aQo (s : bU) (list : List El) (x : dL) : Bool :=
  if fI (at0 x.a0) 0 list < 0 then false else !aBE s (cG.l ⟨x.a1, x.a2, x.a3, x.a4⟩) ⟨cR (list.getD (fI (at0 x.a0) 0 list).toNat []) 2, cR (list.getD (fI (at0 x.a0) 0 list).toNat []) 3⟩
noncomputable def aEN (s : bU) (o : ByteArray) (list args : List El) (i : Nat) (e : El) : List El :=
  ifP ((args.take i).any (at0 (cR e 0))) (pb 27 o (cR e 0)) ++ (ifP (decide (fI (at0 (cR e 0)) 0 list < 0)) (pb 26 o (cR e 0)) ++ ifP (aQo s list (.of e)) (pb 28 o (cR e 0)))
def aC2 (o : ByteArray) (args : List El) (e : El) : List El := ifP (!args.any (at0 (cR e 0))) (pb 29 o (cR e 0))
noncomputable def uM (s : bU) (o : ByteArray) (list args : List El) : List El :=
  if (decide ((args.length : Int) > 100) || decide ((list.length : Int) > 100)) = true then [pb 5 o nul] else nW (aEN s o list args) 0 args ++ nW (fun _ => aC2 o args) 0 (vN list)
theorem aHi {i : Nat} {e : El} : (aEN s o list args i e).length ≤ 3 := by
  unfold aEN
  have h1 := lZ ((args.take i).any (at0 (cR e 0))) (pb 27 o (cR e 0))
  have h2 := lZ (decide (fI (at0 (cR e 0)) 0 list < 0)) (pb 26 o (cR e 0))
  have h3 := lZ (aQo s list (.of e)) (pb 28 o (cR e 0))
  rw [List.length_append, List.length_append]; omega
theorem aAd : (uM s o list args).length ≤ 400 := by
  unfold uM
  split
  · simp
  · rename_i h
    simp -implicitDefEqProofs only [Bool.or_eq_true, decide_eq_true_eq] at h
    have h1 := zY (g := aEN s o list args) (c := 3) args 0 fun j hj => aHi
    have h2 := zY (g := fun _ => aC2 o args) (c := 1) (vN list) 0 fun j hj => lZ _ _
    have h3 := aBX list
    rw [List.length_append]; omega
theorem aAc : ∀ e ∈ uM s o list args, dP e := by
  unfold uM
  split
  · intro e he; rw [List.mem_singleton.1 he]; exact aUD
  · exact aFQ (aJe fun j x => aFQ aR7 (aFQ aR7 aR7)) (aJe fun j x => aR7)
theorem aTP {x : dL} {B : Nat} (h : bdL B x.l) : bdL B (cG.l ⟨x.a1, x.a2, x.a3, x.a4⟩) := by
  obtain ⟨_, h1, h2, h3, h4, _⟩ := h
  exact ⟨h1, h2, h3, h4, trivial⟩
theorem aTN {x : dL} (h : gO x.l) : cS (cG.l ⟨x.a1, x.a2, x.a3, x.a4⟩) := by
  obtain ⟨_, h2, h3, q3, h4, q4⟩ := h.p
  exact .mk _ _ _ _ h2 h3 q3 h4 q4
theorem aAR (hs : bM s.l) (bs : bdL 1048576 s.l) (ll : list.length ≤ 1048576) (ql : ∀ e ∈ list, dB e) (la : args.length ≤ maxLen) (qa : ∀ e ∈ args, gO e) (ba : bdE 1048576 args) :
    Dn F.aW5 [.agg s.l, .leaf (.str o), vsl list, vsl args] [] = some (.own (some T.aYr) (uM s o list args), []) := by
  have hml : (1048576 : Nat) ≤ maxLen := by decide
  refine aP ?_
  rw [aFa]
  have e0 : ∀ p q : Bool, aB (p == false) (aO Dn (jQ o list args q s)) (aO Dn (jQ o list args true s)) = aO Dn (jQ o list args (p || q) s) := fun p q => by
    cases p
    · rw [show (false == false) = true from rfl, aE, Bool.false_or]
    · rw [show (true == false) = false from rfl, aD, Bool.true_or]
  rw [e0, aEa]
  unfold uM
  cases hb : decide ((args.length : Int) > 100) || decide ((list.length : Int) > 100)
  · rw [if_neg (by decide), aD]
    simp -implicitDefEqProofs only [Bool.or_eq_false_iff, decide_eq_false_iff_not] at hb
    refine uA (es := args) (g := aEN s o list args) (c := 3) (N := 1000) (A := fun out i => aO Dn (jO o list args out (nms (args.take i.toNat)) i s))
      (fin := fun out => some (.own (some T.aYr) (out ++ nW (fun _ => aC2 o args) 0 (vN list)), [])) (fun j hj => aHi) (fun out1 ho1 => ?_) (fun i hi out1 ho1 => ?_) (by omega)
    · rw [vT]
      have lreq := aBX list
      simp -implicitDefEqProofs only [Int.lt_irrefl, decide_false, aD, aA4 ll ql, kT, Int.toNat_natCast, List.take_length]
      refine aKu (es := vN list) (g := fun _ => aC2 o args) (c := 1) (N := 5000000) (A := fun out i => aO Dn (oE o out (nms args) (vN list) i))
        (fin := fun out => some (.own (some T.aYr) out, [])) (fun j hj => lZ _ _) (fun out2 ho2 => by rw [vY]; simp) (fun i hi out2 ho2 => ?_) (by omega)
      obtain ⟨u, hu, _⟩ := wN ql _ (List.getElem_mem hi)
      have hw := aV (Nat.lt_of_lt_of_le hi (Nat.le_trans lreq (Nat.le_trans ll hml)))
      rw [vY, hu]
      simp -implicitDefEqProofs only [inI, hi, aN (fun e he => (wN ql e he).len), bI hi, hu, aEV, pJ (s := u) (es := nms args) (by rw [aR4]; exact la) (aRH qa), dO, aR3]
      unfold aC2
      rw [show cR [aC.str u] 0 = u from rfl]
      cases args.any (at0 u) <;> simp -implicitDefEqProofs only [Bool.not_true, Bool.not_false, aE, aD, rM, pL, List.append_nil, aK2 (z := 40) (show out2.length + 1 ≤ 1000000000 by omega) (by decide), Bool.and_true, aG, aDT, hw] <;> rfl
    · obtain ⟨a, ha, ia⟩ := (qa _ (List.getElem_mem hi)).st
      have bx : bdL 1048576 a.l := ha ▸ lA ba _ (List.getElem_mem hi)
      have hw := aV (Nat.lt_of_lt_of_le hi la)
      have ln : (nms (args.take i)).length ≤ 100 := by rw [aR4, List.length_take]; omega
      have hn := pJ (s := a.a0) (es := nms (args.take i)) (by simp -implicitDefEqProofs only [maxLen]; omega) (aRH fun e he => qa e (List.mem_of_mem_take he))
      rw [aR3] at hn
      have nt := aTz hi
      rw [ha] at nt
      have s4 : ∀ q : List El, aO Dn (lP o list args q (nms (args.take i)) i s a) = aO Dn (jO o list args q (nms (args.take (i + 1))) ((i + 1 : Nat) : Int) s) := fun q => by
        rw [aDI, aOY (z := 16) (n := (nms (args.take i)).length) (k := 1) (by omega) (by decide), Bool.and_true, aG, hw, ← nt]; rfl
      have s2 : ∀ q : List El, q.length ≤ 1000 → aO Dn (oR o list args q (nms (args.take i)) i s a) = aO Dn (jO o list args (q ++ ifP (decide (fI (at0 a.a0) 0 list < 0)) (pb 26 o a.a0) ++ ifP (aQo s list a) (pb 28 o a.a0)) (nms (args.take (i + 1))) ((i + 1 : Nat) : Int) s) := fun q hq => by
        rw [aD3, aKU (s := a.a0) (Nat.le_trans ll hml) ql, mN]
        unfold aQo
        by_cases h : fI (at0 a.a0) 0 list < 0
        · simp -implicitDefEqProofs only [h, decide_true, aE, if_true, rM, pL, List.append_nil, aK2 (z := 40) (show q.length + 1 ≤ 1000000000 by omega) (by decide), Bool.and_true, aG, s4]; rfl
        · obtain ⟨j, hj, hi2, _⟩ := rX h
          obtain ⟨y, hy, iy⟩ := (ql _ (List.getElem_mem hj)).st
          have hf := aQc (x := ⟨a.a1, a.a2, a.a3, a.a4⟩) (t := ⟨y.a2, y.a3⟩) hs bs (aTN ia) (aTP bx) iy.p.2.2.2.1
          have hn : ¬ ((j : Int) < 0) := by omega
          rw [hi2]
          simp -implicitDefEqProofs only [hn, decide_false, aD, if_false, pL, List.append_nil, inI, hj, aN (fun e he => (ql e he).len), bI hj, hy, dV, atP, hf, dO]
          rw [show cR y.l 2 = y.a2 from rfl, show cR y.l 3 = y.a3 from rfl]
          cases aBE s (cG.l ⟨a.a1, a.a2, a.a3, a.a4⟩) ⟨y.a2, y.a3⟩ <;> simp -implicitDefEqProofs only [Bool.not_true, Bool.not_false, aE, aD, rM, pL, List.append_nil, aK2 (z := 40) (show q.length + 1 ≤ 1000000000 by omega) (by decide), Bool.and_true, aG, s4] <;> rfl
      rw [vT, ha]
      unfold aEN
      rw [show cR a.l 0 = a.a0 from rfl, dL.of_l, ← List.append_assoc, ← List.append_assoc]
      have e1 := s2 (out1 ++ ifP ((args.take i).any (at0 a.a0)) (pb 27 o a.a0)) (by have := lZ ((args.take i).any (at0 a.a0)) (pb 27 o a.a0); rw [List.length_append]; omega)
      rw [Int.toNat_natCast, Int.toNat_natCast, ← e1]
      simp -implicitDefEqProofs only [inI, hi, aN (fun e he => (qa e he).len), bI hi, ha, dL.rd_l, hn, dO]
      cases (args.take i).any (at0 a.a0) <;> simp -implicitDefEqProofs only [aE, aD, rM, pL, List.append_nil, aK2 (z := 40) (show out1.length + 1 ≤ 1000000000 by omega) (by decide), Bool.and_true, aG] <;> rfl
  · rw [if_pos rfl, aE]; rfl
theorem aAl (hs : bM s.l) (bs : bdL 1048576 s.l) (ll : list.length ≤ 1048576) (ql : ∀ e ∈ list, dB e) (la : args.length ≤ maxLen) (qa : ∀ e ∈ args, gO e) (ba : bdE 1048576 args) :
    Dn F.aXc [.agg s.l, .leaf (.str o), vsl list, vsl args] [] = some (.own (some T.aYr) (uM s o list args), []) := by
  have hml : (1048576 : Nat) ≤ maxLen := by decide
  refine aP ?_
  rw [aE6]
  have e0 : ∀ p q : Bool, aB (p == false) (aZ Dn (jN o list args q s)) (aZ Dn (jN o list args true s)) = aZ Dn (jN o list args (p || q) s) := fun p q => by
    cases p
    · rw [show (false == false) = true from rfl, aE, Bool.false_or]
    · rw [show (true == false) = false from rfl, aD, Bool.true_or]
  rw [e0, aDK]
  unfold uM
  cases hb : decide ((args.length : Int) > 100) || decide ((list.length : Int) > 100)
  · rw [if_neg (by decide), aD]
    simp -implicitDefEqProofs only [Bool.or_eq_false_iff, decide_eq_false_iff_not] at hb
    refine uA (es := args) (g := aEN s o list args) (c := 3) (N := 1000) (A := fun out i => aZ Dn (oW o list args args args.length i s out))
      (fin := fun out => some (.own (some T.aYr) (out ++ nW (fun _ => aC2 o args) 0 (vN list)), [])) (fun j hj => aHi) (fun out1 ho1 => ?_) (fun i hi out1 ho1 => ?_) (by omega)
    · rw [vP]
      have lreq := aBX list
      simp -implicitDefEqProofs only [Int.lt_irrefl, decide_false, aD, aA0 ll ql, kT]
      refine aKu (es := vN list) (g := fun _ => aC2 o args) (c := 1) (N := 5000000) (A := fun out i => aZ Dn (oH o args (vN list) (vN list).length i out))
        (fin := fun out => some (.own (some T.aYr) out, [])) (fun j hj => lZ _ _) (fun out2 ho2 => by rw [wB]; simp) (fun i hi out2 ho2 => ?_) (by omega)
      obtain ⟨u, hu, _⟩ := wN ql _ (List.getElem_mem hi)
      have hw := aV (Nat.lt_of_lt_of_le hi (Nat.le_trans lreq (Nat.le_trans ll hml)))
      rw [wB, hu]
      simp -implicitDefEqProofs only [inI, hi, aN (fun e he => (wN ql e he).len), bI hi, hu, aEV, aGW (s := u) la qa, dO, aQf (out := out2) (show out2.length + 1 ≤ 1000000000 by omega), xJ, hw]
      rfl
    · obtain ⟨a, ha, ia⟩ := (qa _ (List.getElem_mem hi)).st
      have bx : bdL 1048576 a.l := ha ▸ lA ba _ (List.getElem_mem hi)
      have hw := aV (Nat.lt_of_lt_of_le hi la)
      have hle : i ≤ args.length := by omega
      have hh := aGW (s := a.a0) (es := args.take i) (by rw [List.length_take]; omega) (fun e he => qa e (List.mem_of_mem_take he))
      have add : ∀ (q : Bool) (c : Int) (z : List El), z.length ≤ 100000 → Dn F.aWU [.ptr 0 0, .leaf (.bool q), aI c, .leaf (.str o), .leaf (.str a.a0)] [[.own (some T.aYr) z]] = some (.tup [], [[.own (some T.aYr) (z ++ ifP q (pb c o a.a0))]]) := fun q c z hz => aQf (by omega)
      have l1 := lZ ((args.take i).any (at0 a.a0)) (pb 27 o a.a0)
      have a1 := add ((args.take i).any (at0 a.a0)) 27 out1 (by omega)
      have a2 := fun q => add q 26 (out1 ++ ifP ((args.take i).any (at0 a.a0)) (pb 27 o a.a0)) (by rw [List.length_append]; omega)
      have a3 := fun q q' => add q 28 (out1 ++ ifP ((args.take i).any (at0 a.a0)) (pb 27 o a.a0) ++ ifP q' (pb 26 o a.a0)) (by have := lZ q' (pb 26 o a.a0); rw [List.length_append, List.length_append]; omega)
      rw [vP, ha]
      unfold aEN aQo
      rw [show cR a.l 0 = a.a0 from rfl, dL.of_l, ← List.append_assoc, ← List.append_assoc]
      simp -implicitDefEqProofs only [inI, hi, aN (fun e he => (qa e he).len), bI hi, ha, dL.rd_l, hle, List.drop_zero, hh, dO, a1, xJ, aKK (s := a.a0) (Nat.le_trans ll hml) ql, mN, a2, bT]
      by_cases h : fI (at0 a.a0) 0 list < 0
      · have h' : ¬ fI (at0 a.a0) 0 list ≥ 0 := by omega
        simp -implicitDefEqProofs only [h, h', decide_true, decide_false, aD, a3, xJ, vV, hw, if_true]
      · obtain ⟨j, hj, hi2, _⟩ := rX h
        obtain ⟨y, hy, iy⟩ := (ql _ (List.getElem_mem hj)).st
        have hf := aPr (x := ⟨a.a1, a.a2, a.a3, a.a4⟩) (t := ⟨y.a2, y.a3⟩) hs bs (aTN ia) (aTP bx) iy.p.2.2.2.1
        have hn : ¬ ((j : Int) < 0) := by omega
        have hg : ((j : Int) ≥ 0) := by omega
        have hmx : (if 0 < (j : Int) then (j : Int) else 0) = (j : Int) := by split <;> omega
        rw [hi2]
        simp -implicitDefEqProofs only [hn, hg, decide_true, decide_false, aE, if_true, if_false, hmx, inI, hj, aN (fun e he => (ql e he).len), bI hj, hy, dV, atP, hf, dO, a3, xJ, vV, hw]
        rfl
  · rw [if_pos rfl, aE]
    simp -implicitDefEqProofs only [aQf (q := true) (c := 5) (o := o) (p := ByteArray.mk #[]) (out := []) (by simp), xJ]
    rfl
end
end Go.Vs
end
section
open Go Go.Vs Go.Proofs
set_option linter.unusedVariables false
set_option linter.unusedSimpArgs false
namespace Go.Vs
def wJ (es : List El) (n : ByteArray) : Int := if es.length > 60 then -1 else fI (at3 n) 0 es
theorem aH7 {es : List El} {n : ByteArray} (hl : es.length ≤ maxLen) (hq : ∀ e ∈ es, fC e) : Dn F.aZm [vsl es, .leaf (.str n)] [] = some (aI (wJ es n), []) := by
  have key : Dn F.aWz [vsl es, .fn F.aYg [.ptr 0 0]] [[.leaf (.str n)]] = some (aI (fI (at3 n) 0 es), [[.leaf (.str n)]]) := by
    refine aP ?_
    rw [iF]
    refine pI (es := es) (A := fun i => bE Dn (cZ es F.aYg es.length i n)) (by rw [dN]; simp) fun i hi => ?_
    obtain ⟨x, hx, _⟩ := (hq _ (List.getElem_mem hi)).st
    have hc : Dn F.aYg [.agg x.l, .ptr 0 0] [[.leaf (.str n)]] = some (aH (x.a3.toList == n.toList), [[.leaf (.str n)]]) := aP (aB3 ..)
    rw [dN]
    simp -implicitDefEqProofs only [inI, hi, aV (Nat.lt_of_lt_of_le hi hl), aN (fun e he => (hq e he).len), bI hi, hx, aJ.rd_l, hc, zX]
    rfl
  refine aP ?_
  rw [aEU, key, aE9, lR]
  unfold wJ
  by_cases h60 : es.length > 60
  · rw [if_pos h60, if_pos (by simp; omega)]
  · rw [if_neg h60, if_neg (by simp; omega)]
def aU9 : List El := [[.str (ByteArray.mk #[70, 73, 69, 76, 68])], [.str (ByteArray.mk #[70, 82, 65, 71, 77, 69, 78, 84, 95, 83, 80, 82, 69, 65, 68])], [.str (ByteArray.mk #[73, 78, 76, 73, 78, 69, 95, 70, 82, 65, 71, 77, 69, 78, 84])]]
def ifL : List El := [[.str (ByteArray.mk #[105, 102]), .str (ByteArray.mk #[]), .str (ByteArray.mk #[66, 111, 111, 108, 101, 97, 110]), .str (ByteArray.mk #[33]), .bool false, .int .i64 0, .str (ByteArray.mk #[]), .sl fP [], .sl fP [], .sl fP []]]
def aP3 (n : ByteArray) : aJ := ⟨7, false, ByteArray.mk #[], n, aU9, [], ifL, [], [], false, []⟩
def aVE : aJ := ⟨7, false, ByteArray.mk #[], ByteArray.mk #[100, 101, 112, 114, 101, 99, 97, 116, 101, 100], [[.str (ByteArray.mk #[70, 73, 69, 76, 68, 95, 68, 69, 70, 73, 78, 73, 84, 73, 79, 78])], [.str (ByteArray.mk #[65, 82, 71, 85, 77, 69, 78, 84, 95, 68, 69, 70, 73, 78, 73, 84, 73, 79, 78])], [.str (ByteArray.mk #[73, 78, 80, 85, 84, 95, 70, 73, 69, 76, 68, 95, 68, 69, 70, 73, 78, 73, 84, 73, 79, 78])], [.str (ByteArray.mk #[69, 78, 85, 77, 95, 86, 65, 76, 85, 69])]], [],
  [[.str (ByteArray.mk #[114, 101, 97, 115, 111, 110]), .str (ByteArray.mk #[]), .str (ByteArray.mk #[83, 116, 114, 105, 110, 103]), .str (ByteArray.mk #[]), .bool true, .int .i64 4, .str (ByteArray.mk #[78, 111, 32, 108, 111, 110, 103, 101, 114, 32, 115, 117, 112, 112, 111, 114, 116, 101, 100]), .sl fP [], .sl fP [], .sl fP []]], [], [], false, []⟩
def iG : List El := [aVE.l, (aP3 (ByteArray.mk #[105, 110, 99, 108, 117, 100, 101])).l, (aP3 (ByteArray.mk #[115, 107, 105, 112])).l]
theorem aRN {l : List ByteArray} (h : ∀ s ∈ l, s.size ≤ maxLen) : ∀ e ∈ l.map (fun s => [aC.str s]), jS e := fun e he => by
  obtain ⟨s, hs, rfl⟩ := List.mem_map.1 he
  exact ⟨s, rfl, h s hs⟩
theorem aVe {a b c d e : ByteArray} {q : Bool} {k : Int} (h0 : a.size ≤ 100) (h1 : b.size ≤ 100) (h2 : c.size ≤ 100) (h3 : d.size ≤ 100) (h4 : e.size ≤ 100) : ∀ x ∈ ([[.str a, .str b, .str c, .str d, .bool q, .int .i64 k, .str e, .sl fP [], .sl fP [], .sl fP []]] : List El), dB x := fun x hx => by
  have hm : maxLen = 9223372036854775807 := rfl
  rw [List.mem_singleton.1 hx]
  exact .mk a b c d q k e [] [] [] (by omega) (by omega) (by omega) (by omega) (by omega) (by decide) (fun _ h => by cases h) (by decide) (fun _ h => by cases h) (by decide) (fun _ h => by cases h)
theorem aPU {x : aJ} (h2 : x.a2.size ≤ 100) (h3 : x.a3.size ≤ 100) (l4 : x.a4.length ≤ 100) (q4 : ∀ e ∈ x.a4, jS e) (h5 : x.a5 = []) (l6 : x.a6.length ≤ 100) (q6 : ∀ e ∈ x.a6, dB e) (h7 : x.a7 = []) (h8 : x.a8 = []) (h10 : x.a10 = []) : fC x.l := by
  have hm : maxLen = 9223372036854775807 := rfl
  obtain ⟨a0, a1, a2, a3, a4, a5, a6, a7, a8, a9, a10⟩ := x
  simp only at h2 h3 l4 q4 h5 l6 q6 h7 h8 h10
  subst h5 h7 h8 h10
  exact .mk a0 a1 a2 a3 a4 [] a6 [] [] a9 [] (by omega) (by omega) (by omega) q4 (by decide) (fun _ h => by cases h) (by omega) q6 (by decide) (fun _ h => by cases h) (by decide) (fun _ h => by cases h) (by decide) (fun _ h => by cases h)
theorem aTy {n : ByteArray} (h : n.size ≤ 100) : fC (aP3 n).l :=
  aPU (show (ByteArray.mk #[]).size ≤ 100 by decide) h (show aU9.length ≤ 100 by decide) (aRN (l := [ByteArray.mk #[70, 73, 69, 76, 68], ByteArray.mk #[70, 82, 65, 71, 77, 69, 78, 84, 95, 83, 80, 82, 69, 65, 68], ByteArray.mk #[73, 78, 76, 73, 78, 69, 95, 70, 82, 65, 71, 77, 69, 78, 84]]) (by decide)) rfl (show ifL.length ≤ 100 by decide)
    (aVe (by decide) (by decide) (by decide) (by decide) (by decide)) rfl rfl rfl
theorem aVR : fC aVE.l :=
  aPU (by decide) (by decide) (by decide) (aRN (l := [ByteArray.mk #[70, 73, 69, 76, 68, 95, 68, 69, 70, 73, 78, 73, 84, 73, 79, 78], ByteArray.mk #[65, 82, 71, 85, 77, 69, 78, 84, 95, 68, 69, 70, 73, 78, 73, 84, 73, 79, 78], ByteArray.mk #[73, 78, 80, 85, 84, 95, 70, 73, 69, 76, 68, 95, 68, 69, 70, 73, 78, 73, 84, 73, 79, 78], ByteArray.mk #[69, 78, 85, 77, 95, 86, 65, 76, 85, 69]]) (by decide)) rfl (by decide)
    (aVe (by decide) (by decide) (by decide) (by decide) (by decide)) rfl rfl rfl
theorem aFO : ∀ e ∈ iG, fC e := fun e he => by
  simp -implicitDefEqProofs only [iG, List.mem_cons, List.not_mem_nil, or_false] at he
  rcases he with rfl | rfl | rfl
  · exact aVR
  · exact aTy (by decide)
  · exact aTy (by decide)
theorem aUN : ∀ e ∈ iG, (mQ e 6).length ≤ 1 := fun e he => by
  simp -implicitDefEqProofs only [iG, List.mem_cons, List.not_mem_nil, or_false] at he
  rcases he with rfl | rfl | rfl <;> decide
theorem aJs : Dn F.aXx [] [] = some (.own (some T.aZx) iG, []) := by
  have fl : ∀ n : ByteArray, Dn F.aYp [.leaf (.str n)] [] = some (.agg (aP3 n).l, []) := fun n => aP (aKp ..)
  refine aP ?_
  rw [aHC, fl, fl]
  simp -implicitDefEqProofs only [rdR, pH, beq_self_eq_true, Bool.not_true, Bool.not_false, Bool.and_true, Bool.true_and, bT, bF, aJ.va_l]
  rfl
theorem aJD : Dn F.aXG [] [] = some (.own (some T.aZx) iG, []) := by
  refine aP ?_
  have step : ∀ (e : List El) (i : Int) (n : ByteArray), e.length ≤ 10 → 0 ≤ i → i < 2 → ([[.str (ByteArray.mk #[105, 110, 99, 108, 117, 100, 101])], [.str (ByteArray.mk #[115, 107, 105, 112])]] : List El).getD i.toNat [] = [.str n] →
      fK Dn (lN e i) = fK Dn (lN (e ++ [(aP3 n).l]) (IntKind.i64.wrap (i + 1))) := fun e i n he h0 h2 hg => by
    rw [zD, decide_eq_true h2, aE, hg]
    have hr : decide ((e.length + 1) * 200 ≤ aK) = true := decide_eq_true (by have hb : aK = 140737488355328 := rfl; omega)
    rw [show (decide (0 ≤ i) && true && true) = true by simp [h0], aG, aEV, hr, Bool.and_true, aG]
    rfl
  have e1 : aT Tryz.prog Dn Hs bA F.aXG [] [] = fK Dn (lN [aVE.l] 0) := aHE Dn
  rw [e1, step _ 0 _ (by decide) (by decide) (by decide) rfl, step _ (IntKind.i64.wrap (0 + 1)) _ (by simp) (by decide) (by decide) rfl, zD]
  rw [show decide (IntKind.i64.wrap (IntKind.i64.wrap (0 + 1) + 1) < 2) = false by decide, aD]
  rfl
section
variable {s : bU} {n : ByteArray}
def aHT (s : bU) (n : ByteArray) : Bool := if wJ s.a1 n < 0 then !decide (fI (at3 n) 0 iG < 0) else true
def kD (s : bU) (n : ByteArray) : aJ :=
  if wJ s.a1 n < 0 then (if fI (at3 n) 0 iG < 0 then aDm else .of (iG.getD (fI (at3 n) 0 iG).toNat [])) else .of (s.a1.getD (wJ s.a1 n).toNat [])
theorem aMW {es : List El} (hq : ∀ e ∈ es, fC e) (h : ¬ wJ es n < 0) : ∃ (j : Nat) (hj : j < es.length) (y : aJ), wJ es n = (j : Int) ∧ es[j] = y.l ∧ fC y.l := by
  unfold wJ at h ⊢
  split at h
  · omega
  · rename_i h60
    obtain ⟨j, hj, hi, _⟩ := rX h
    obtain ⟨y, hy, iy⟩ := (hq _ (List.getElem_mem hj)).st
    exact ⟨j, hj, y, by rw [if_neg h60, hi], hy, iy⟩
theorem aRO (hs : bM s.l) (bs : bdL 1048576 s.l) : fC (kD s n).l ∧ (kD s n).a6.length ≤ 1048576 := by
  have hm : maxLen = 9223372036854775807 := rfl
  unfold kD
  split
  · split
    · exact ⟨aRz, by decide⟩
    · rename_i h
      obtain ⟨j, hj, hi, _⟩ := rX h
      have hb := aUN _ (List.getElem_mem hj)
      obtain ⟨y, hy, iy⟩ := (aFO _ (List.getElem_mem hj)).st
      rw [hi, Int.toNat_natCast, bI hj, hy]
      rw [hy] at hb
      have hb : y.a6.length ≤ 1 := hb
      exact ⟨iy, by show y.a6.length ≤ _; omega⟩
  · rename_i h
    obtain ⟨_, ⟨_, bs1⟩, _⟩ := bs
    obtain ⟨j, hj, y, hi, hy, iy⟩ := aMW hs.p.2.2.2.1 h
    have by' : bdL 1048576 y.l := hy ▸ lA bs1 _ (List.getElem_mem hj)
    obtain ⟨_, _, _, _, _, _, ⟨b6, _⟩, _⟩ := by'
    rw [hi, Int.toNat_natCast, bI hj, hy]
    exact ⟨iy, b6⟩
theorem aNo (hs : bM s.l) : Dn F.aYR [.agg s.l, .leaf (.str n)] [] = some (.tup [.agg (kD s n).l, aH (aHT s n)], []) := by
  have l3 : iG.length = 3 := rfl
  have nb : wJ iG n = fI (at3 n) 0 iG := by unfold wJ; rw [if_neg (by rw [l3]; omega)]
  refine aP ?_
  rw [aLz, aH7 hs.p.2.2.1 hs.p.2.2.2.1, mN, aJD, kT, aH7 (by rw [l3]; decide) aFO, mN, nb]
  unfold kD aHT
  by_cases h : wJ s.a1 n < 0
  · have h' : ¬ wJ s.a1 n ≥ 0 := by omega
    rw [if_pos h, if_pos h]
    simp -implicitDefEqProofs only [h', decide_false, aD]
    by_cases k : fI (at3 n) 0 iG < 0
    · have k' : ¬ fI (at3 n) 0 iG ≥ 0 := by omega
      simp -implicitDefEqProofs only [k, k', decide_true, decide_false, aD, if_true, Bool.not_true]
      rfl
    · obtain ⟨j, hj, hi, _⟩ := rX k
      obtain ⟨y, hy, iy⟩ := (aFO _ (List.getElem_mem hj)).st
      have hn : ¬ ((j : Int) < 0) := by omega
      have hg : (j : Int) ≥ 0 := by omega
      rw [hi]
      simp -implicitDefEqProofs only [hn, hg, decide_true, decide_false, aE, if_false, Bool.not_false, inI, hj, aN (fun e he => (aFO e he).len), bI hj, hy, aJ.rd_l, aJ.of_l]
  · obtain ⟨j, hj, y, hi, hy, iy⟩ := aMW hs.p.2.2.2.1 h
    have hn : ¬ ((j : Int) < 0) := by omega
    have hg : (j : Int) ≥ 0 := by omega
    rw [hi]
    simp -implicitDefEqProofs only [hn, hg, decide_true, aE, if_false, inI, hj, aN (fun e he => (hs.p.2.2.2.1 e he).len), bI hj, hy, aJ.rd_l, aJ.of_l]
theorem aNk (hs : bM s.l) : Dn F.aYC [.agg s.l, .leaf (.str n)] [] = some (.tup [.agg (kD s n).l, aH (aHT s n)], []) := by
  obtain ⟨_, _, hl, hq, _⟩ := hs.p
  have l3 : iG.length = 3 := rfl
  refine aP ?_
  rw [aLI]
  have tail : dD Dn (rQ n iG 0) = if fI (at3 n) 0 iG < 0 then some (.tup [.agg aDm.l, aH false], []) else some (.tup [.agg (aJ.of (iG.getD (fI (at3 n) 0 iG).toNat [])).l, aH true], []) := by
    refine wK (es := iG) (p := at3 n) (A := fun i => dD Dn (rQ n iG i)) (yes := fun i => some (.tup [.agg (aJ.of (iG.getD i.toNat [])).l, aH true], [])) (no := some (.tup [.agg aDm.l, aH false], [])) (by rw [aBP]; simp -implicitDefEqProofs only [Int.lt_irrefl, decide_false, aD]; rfl) fun i hi => ?_
    obtain ⟨y, hy, _⟩ := (aFO _ (List.getElem_mem hi)).st
    have hw := aUw (i := i) (by rw [l3] at hi; omega)
    rw [aBP]
    simp -implicitDefEqProofs only [inI, hi, aN (fun e he => (aFO e he).len), bI hi, hy, atP, aJ.rd_l, aJ.of_l, hw]
    rfl
  have bu : ∀ i : Int, dD Dn (xF n i false s) = if fI (at3 n) 0 iG < 0 then some (.tup [.agg aDm.l, aH false], []) else some (.tup [.agg (aJ.of (iG.getD (fI (at3 n) 0 iG).toNat [])).l, aH true], []) := fun i => by
    rw [aCt, aD, aJs, kT, tail]
  unfold kD aHT wJ
  by_cases h60 : s.a1.length > 60
  · rw [if_pos h60]
    have e6 : ¬ ((s.a1.length : Int) ≤ 60) := by omega
    rw [wP, decide_eq_false e6, xP, bu]
    by_cases k : fI (at3 n) 0 iG < 0
    · simp [k]
    · simp [k]
  · rw [if_neg h60]
    have e6 : ((s.a1.length : Int) ≤ 60) := by omega
    have := wK (es := s.a1) (p := at3 n) (A := fun i => dD Dn (wV n i s)) (yes := fun i => some (.tup [.agg (aJ.of (s.a1.getD i.toNat [])).l, aH true], []))
      (no := if fI (at3 n) 0 iG < 0 then some (.tup [.agg aDm.l, aH false], []) else some (.tup [.agg (aJ.of (iG.getD (fI (at3 n) 0 iG).toNat [])).l, aH true], []))
      (by rw [wP]; simp -implicitDefEqProofs only [Int.lt_irrefl, decide_false, show (false == true) = false from rfl, aD, bu]) fun i hi => by
        obtain ⟨y, hy, _⟩ := (hq _ (List.getElem_mem hi)).st
        have hw := aV (Nat.lt_of_lt_of_le hi hl)
        rw [wP]
        simp -implicitDefEqProofs only [inI, hi, beq_self_eq_true, e6, aCt, aN (fun e he => (hq e he).len), bI hi, hy, atP, aJ.rd_l, aJ.of_l, hw]
        rfl
    rw [this]
    by_cases h : fI (at3 n) 0 s.a1 < 0
    · simp -implicitDefEqProofs only [h, if_true]
      by_cases k : fI (at3 n) 0 iG < 0
      · simp [k]
      · simp [k]
    · simp -implicitDefEqProofs only [h, if_false]
end
theorem aTA {B : Nat} : ∀ {es : List El}, (∀ e ∈ es, bdL B e) → bdE B es
  | [], _ => by rw [bdE]; trivial
  | e :: r, h => by rw [bdE]; exact ⟨h e (by simp), aTA fun x hx => h x (by simp [hx])⟩
abbrev atS : ByteArray := ByteArray.mk #[64]
theorem aVX (a b : ByteArray) : ((atS ++ a).toList == (atS ++ b).toList) = (a.toList == b.toList) := by
  have h : ∀ x : ByteArray, (atS ++ x).toList = 64 :: x.toList := fun x => by
    rw [tl, tl, ByteArray.data_append, Array.toList_append]; rfl
  rw [h, h, Bool.eq_iff_iff, beq_iff_eq, beq_iff_eq]
  simp
def ats (es : List El) : List El := es.map fun e => [.str (atS ++ cR e 0)]
theorem aU0 {es : List El} {s : ByteArray} : (ats es).any (at0 (atS ++ s)) = es.any (at0 s) := by
  unfold ats; rw [List.any_map]
  congr 1
  funext e
  exact aVX _ _
theorem aUB {es : List El} : (ats es).length = es.length := List.length_map ..
theorem aTU {es : List El} {i : Nat} (hi : i < es.length) : ats (es.take i) ++ [[.str (atS ++ cR es[i] 0)]] = ats (es.take (i + 1)) := by
  unfold ats; rw [List.take_succ_eq_append_getElem hi, List.map_append]; rfl
theorem aUY {es : List El} (bq : bdE 1048576 es) (hq : ∀ e ∈ es, eQ e) : ∀ e ∈ ats es, jS e := by
  intro e he
  obtain ⟨x, hx, rfl⟩ := List.mem_map.1 he
  have hb := lA bq x hx
  obtain ⟨y, rfl, iy⟩ := (hq x hx).st
  refine ⟨atS ++ y.a0, rfl, ?_⟩
  have h1 : y.a0.size ≤ 1048576 := hb.1
  have h2 : atS.size = 1 := rfl
  have hm : maxLen = 9223372036854775807 := rfl
  rw [ByteArray.size_append]; omega
section
variable {s : bU} {p : ByteArray} {dirs : List El}
noncomputable def aCL (s : bU) (p : ByteArray) (dirs : List El) (i : Nat) (e : El) : List El :=
  if aHT s (cR e 0) = true then
    ifP (!(kD s (cR e 0)).a4.any (at0 p)) (pb 31 (atS ++ cR e 0) p) ++ (ifP (!(kD s (cR e 0)).a9 && (dirs.take i).any (at0 (cR e 0))) (pb 27 (atS ++ cR e 0) p) ++ uM s (atS ++ cR e 0) (kD s (cR e 0)).a6 (mQ e 1))
  else [pb 30 (atS ++ cR e 0) p]
noncomputable def aA2 (s : bU) (p : ByteArray) (dirs : List El) : List El := if dirs.length > 100 then [pb 5 nul p] else nW (aCL s p dirs) 0 dirs
theorem aHB {i : Nat} {e : El} : (aCL s p dirs i e).length ≤ 402 := by
  unfold aCL
  split
  · have h1 := lZ (!(kD s (cR e 0)).a4.any (at0 p)) (pb 31 (atS ++ cR e 0) p)
    have h2 := lZ (!(kD s (cR e 0)).a9 && (dirs.take i).any (at0 (cR e 0))) (pb 27 (atS ++ cR e 0) p)
    have h3 := aAd (s := s) (o := atS ++ cR e 0) (list := (kD s (cR e 0)).a6) (args := mQ e 1)
    rw [List.length_append, List.length_append]; omega
  · simp
theorem aKl : (aA2 s p dirs).length ≤ 40200 := by
  unfold aA2
  split
  · simp
  · have := zY (g := aCL s p dirs) (c := 402) dirs 0 fun j hj => aHB
    omega
theorem aJH : ∀ e ∈ aA2 s p dirs, dP e := by
  unfold aA2
  split
  · intro e he; rw [List.mem_singleton.1 he]; exact aUD
  · refine aJe fun j x => ?_
    unfold aCL
    split
    · exact aFQ aR7 (aFQ aR7 aAc)
    · intro e he; rw [List.mem_singleton.1 he]; exact aUD
theorem aV5 {a : ByteArray} (ha : a.size ≤ 1048576) : decide ((ByteArray.mk #[64]).size + a.size ≤ 140737488355328) = true := by
  have h1 : (ByteArray.mk #[64]).size = 1 := rfl
  exact decide_eq_true (by omega)
theorem aHz (hs : bM s.l) (bs : bdL 1048576 s.l) (hl : dirs.length ≤ maxLen) (hq : ∀ e ∈ dirs, eQ e) (bq : bdE 1048576 dirs) :
    Dn F.aW9 [.agg s.l, .leaf (.str p), vsl dirs] [] = some (.own (some T.aYr) (aA2 s p dirs), []) := by
  have hm : maxLen = 9223372036854775807 := rfl
  refine aP ?_
  rw [aFH]
  unfold aA2
  by_cases h : dirs.length > 100
  · have h1 : ((dirs.length : Nat) : Int) > 100 := by omega
    rw [if_pos h]
    simp -implicitDefEqProofs only [h1, decide_true, aE]
    rfl
  have h1 : ¬ ((dirs.length : Nat) : Int) > 100 := by omega
  rw [if_neg h]
  simp -implicitDefEqProofs only [h1, decide_false, aD]
  refine uA (es := dirs) (g := aCL s p dirs) (c := 402) (N := 50000) (A := fun out i => aS Dn (fZ p dirs out (ats (dirs.take i.toNat)) i s))
    (fin := fun out => some (.own (some T.aYr) out, [])) (fun j hj => aHB) (fun o _ => by rw [vW]; simp) (fun i hi o ho => ?_) (by omega)
  obtain ⟨x, hx, ix⟩ := (hq _ (List.getElem_mem hi)).st
  have bx : bdL 1048576 x.l := hx ▸ lA bq _ (List.getElem_mem hi)
  obtain ⟨bx0, ⟨bx1l, bx1⟩, _⟩ := bx
  obtain ⟨_, nx1, qx1⟩ := ix.p
  have hw := aV (Nat.lt_of_lt_of_le hi hl)
  obtain ⟨iy, ly⟩ := aRO (n := x.a0) hs bs
  obtain ⟨_, _, l4, q4, _, _, l6, q6, _⟩ := iy.p
  have nt := aTU hi
  rw [hx] at nt
  have nt : ats (dirs.take i) ++ [[.str (atS ++ x.a0)]] = ats (dirs.take (i + 1)) := nt
  have ln : (ats (dirs.take i)).length ≤ 100 := by rw [aUB, List.length_take]; omega
  have bt : bdE 1048576 (dirs.take i) := aTA fun e he => lA bq e (List.mem_of_mem_take he)
  have hh := pJ (s := atS ++ x.a0) (es := ats (dirs.take i)) (by omega) (aUY bt fun e he => hq e (List.mem_of_mem_take he))
  rw [aU0] at hh
  have hf := pJ (s := p) l4 q4
  have s1 : ∀ q : List El, aS Dn (oK p dirs q (ats (dirs.take (i + 1))) i s) = aS Dn (fZ p dirs q (ats (dirs.take (i + 1))) ((i + 1 : Nat) : Int) s) := fun q => by
    rw [aD8, hw]
  have s4 : ∀ q : List El, q.length ≤ 60000 → aS Dn (oQ p dirs q (ats (dirs.take (i + 1))) i (atS ++ x.a0) s (kD s x.a0)) = aS Dn (fZ p dirs (q ++ uM s (atS ++ x.a0) (kD s x.a0).a6 x.a1) (ats (dirs.take (i + 1))) ((i + 1 : Nat) : Int) s) := fun q hq' => by
    have al := aAd (s := s) (o := atS ++ x.a0) (list := (kD s x.a0).a6) (args := x.a1)
    rw [aD7]
    simp -implicitDefEqProofs only [inI, hi, aN (fun e he => (hq e he).len), bI hi, hx, atP, aAR (o := atS ++ x.a0) hs bs ly q6 nx1 qx1 bx1, kT, aOY (z := 40) (n := q.length) (k := (uM s (atS ++ x.a0) (kD s x.a0).a6 x.a1).length) (by omega) (by decide), aN (fun e he => (aAc (s := s) (o := atS ++ x.a0) (list := (kD s x.a0).a6) (args := x.a1) e he).len), s1]
  have s3 : ∀ (q : List El) (b : Bool), q.length ≤ 50000 → aS Dn (oT p dirs q (ats (dirs.take (i + 1))) i (atS ++ x.a0) b s (kD s x.a0)) = aS Dn (fZ p dirs (q ++ (ifP b (pb 27 (atS ++ x.a0) p) ++ uM s (atS ++ x.a0) (kD s x.a0).a6 x.a1)) (ats (dirs.take (i + 1))) ((i + 1 : Nat) : Int) s) := fun q b hq' => by
    rw [aDL, ← List.append_assoc, ← s4 _ (by have := lZ b (pb 27 (atS ++ x.a0) p); rw [List.length_append]; omega)]
    cases b <;> simp -implicitDefEqProofs only [aE, aD, rM, pL, List.append_nil, aK2 (z := 40) (show q.length + 1 ≤ 1000000000 by omega) (by decide), Bool.and_true, aG] <;> rfl
  have s2 : ∀ (q : List El) (b : Bool), q.length ≤ 50000 → aS Dn (oJ p dirs q (ats (dirs.take (i + 1))) i (atS ++ x.a0) b s (kD s x.a0)) = aS Dn (fZ p dirs (q ++ (ifP (!(kD s x.a0).a9 && b) (pb 27 (atS ++ x.a0) p) ++ uM s (atS ++ x.a0) (kD s x.a0).a6 x.a1)) (ats (dirs.take (i + 1))) ((i + 1 : Nat) : Int) s) := fun q b hq' => by
    rw [aDQ]
    cases (kD s x.a0).a9 <;> simp -implicitDefEqProofs only [Bool.not_true, Bool.not_false, show (true == true) = true from rfl, show (false == true) = false from rfl, aE, aD, Bool.true_and, Bool.false_and, s3 _ _ hq']
  rw [vW, hx]
  unfold aCL
  rw [show cR x.l 0 = x.a0 from rfl, show mQ x.l 1 = x.a1 from rfl, Int.toNat_natCast]
  simp -implicitDefEqProofs only [inI, hi, aN (fun e he => (hq e he).len), bI hi, hx, atP, aV5 bx0, aNk hs, rdR, pH, beq_self_eq_true, Bool.not_true, Bool.not_false, Bool.and_true, Bool.true_and, bT, bF, aJ.va_l, hh, hf, aOY (z := 16) (n := (ats (dirs.take i)).length) (k := 1) (by omega) (by decide), nt]
  cases aHT s x.a0 with
  | false => simp -implicitDefEqProofs only [Bool.not_false, aE, aK2 (z := 40) (show o.length + 1 ≤ 1000000000 by omega) (by decide), Bool.and_true, aG, s1, Bool.false_eq_true, if_false]; rfl
  | true =>
    simp -implicitDefEqProofs only [Bool.not_true, aD, if_true]
    rw [← List.append_assoc, ← List.append_assoc, List.append_assoc (o ++ _), ← s2 _ _ (by have := lZ (!(kD s x.a0).a4.any (at0 p)) (pb 31 (atS ++ x.a0) p); rw [List.length_append]; omega)]
    cases (kD s x.a0).a4.any (at0 p) <;> simp -implicitDefEqProofs only [Bool.not_true, Bool.not_false, aE, aD, rM, pL, List.append_nil, aK2 (z := 40) (show o.length + 1 ≤ 1000000000 by omega) (by decide), Bool.and_true, aG] <;> rfl
theorem aSJ {es : List El} {x : pF} (hl : es.length ≤ maxLen) (hq : ∀ e ∈ es, eQ e) :
    Dn F.aWx [vsl es, .fn F.aWO [.ptr 0 0]] [[.leaf (.str x.a0), vsl x.a1]] = some (aH (es.any (at0 x.a0)), [[.leaf (.str x.a0), vsl x.a1]]) := by
  have key : Dn F.aWB [vsl es, .fn F.aWO [.ptr 0 0]] [[.leaf (.str x.a0), vsl x.a1]] = some (aI (fI (at0 x.a0) 0 es), [[.leaf (.str x.a0), vsl x.a1]]) := by
    refine aP ?_
    rw [nJ]
    refine pI (es := es) (A := fun i => bO Dn (dU es F.aWO es.length i x)) (by rw [iB]; simp) fun i hi => ?_
    obtain ⟨y, hy, _⟩ := (hq _ (List.getElem_mem hi)).st
    have hc : Dn F.aWO [.agg y.l, .ptr 0 0] [[.leaf (.str x.a0), vsl x.a1]] = some (aH (y.a0.toList == x.a0.toList), [[.leaf (.str x.a0), vsl x.a1]]) := aP (aC8 ..)
    rw [iB]
    simp -implicitDefEqProofs only [inI, hi, aV (Nat.lt_of_lt_of_le hi hl), aN (fun e he => (hq e he).len), bI hi, hy, pF.rd_l, hc, rdR, pH, beq_self_eq_true, Bool.not_true, Bool.not_false, Bool.and_true, Bool.true_and, bT, bF]
    rfl
  refine aP ?_
  rw [mI, key]
  simp -implicitDefEqProofs only [rdR, pH, beq_self_eq_true, Bool.not_true, Bool.not_false, Bool.and_true, Bool.true_and, bT, bF, ← uI _ es 0 (by omega)]
theorem aHo (hs : bM s.l) (bs : bdL 1048576 s.l) (hl : dirs.length ≤ maxLen) (hq : ∀ e ∈ dirs, eQ e) (bq : bdE 1048576 dirs) :
    Dn F.aW7 [.agg s.l, .leaf (.str p), vsl dirs] [] = some (.own (some T.aYr) (aA2 s p dirs), []) := by
  have hm : maxLen = 9223372036854775807 := rfl
  refine aP ?_
  rw [aFD]
  unfold aA2
  by_cases h : dirs.length > 100
  · have h1 : ((dirs.length : Nat) : Int) > 100 := by omega
    rw [if_pos h]
    simp -implicitDefEqProofs only [h1, decide_true, aE, aQf (q := true) (c := 5) (o := ByteArray.mk #[]) (p := p) (out := []) (by simp), xJ]
    rfl
  have h1 : ¬ ((dirs.length : Nat) : Int) > 100 := by omega
  rw [if_neg h]
  simp -implicitDefEqProofs only [h1, decide_false, aD]
  refine uA (es := dirs) (g := aCL s p dirs) (c := 402) (N := 50000) (A := fun out i => bY Dn (lQ p dirs dirs dirs.length i s out))
    (fin := fun out => some (.own (some T.aYr) out, [])) (fun j hj => aHB) (fun o _ => by rw [vQ]; simp) (fun i hi o ho => ?_) (by omega)
  obtain ⟨x, hx, ix⟩ := (hq _ (List.getElem_mem hi)).st
  have bx : bdL 1048576 x.l := hx ▸ lA bq _ (List.getElem_mem hi)
  obtain ⟨bx0, ⟨bx1l, bx1⟩, _⟩ := bx
  obtain ⟨_, nx1, qx1⟩ := ix.p
  have hw := aV (Nat.lt_of_lt_of_le hi hl)
  have hle : i ≤ dirs.length := by omega
  obtain ⟨iy, ly⟩ := aRO (n := x.a0) hs bs
  obtain ⟨_, _, l4, q4, _, _, l6, q6, _⟩ := iy.p
  have hf := vA (s := p) l4 q4
  have ha := aSJ (x := x) (es := dirs.take i) (by rw [List.length_take]; omega) (fun e he => hq e (List.mem_of_mem_take he))
  have add : ∀ (q : Bool) (c : Int) (z : List El), z.length ≤ 100000 → Dn F.aWU [.ptr 0 0, .leaf (.bool q), aI c, .leaf (.str (atS ++ x.a0)), .leaf (.str p)] [[.own (some T.aYr) z]] = some (.tup [], [[.own (some T.aYr) (z ++ ifP q (pb c (atS ++ x.a0) p))]]) := fun q c z hz => aQf (by omega)
  have s2 : ∀ q : List El, q.length ≤ 60000 → bY Dn (oN p dirs (atS ++ x.a0) dirs dirs.length i s x (kD s x.a0) q) = bY Dn (lQ p dirs dirs dirs.length ((i + 1 : Nat) : Int) s (q ++ uM s (atS ++ x.a0) (kD s x.a0).a6 x.a1)) := fun q hq' => by
    have al := aAd (s := s) (o := atS ++ x.a0) (list := (kD s x.a0).a6) (args := x.a1)
    rw [aDU, aAl (o := atS ++ x.a0) hs bs ly q6 nx1 qx1 bx1, kT, aTL aAc (by omega), xJ, vZ, hw]
  have l1 := lZ (!(kD s x.a0).a4.any (at0 p)) (pb 31 (atS ++ x.a0) p)
  have a1 := add true 30 o (by omega)
  have a2 := add (!(kD s x.a0).a4.any (at0 p)) 31 o (by omega)
  have a3 := fun q => add q 27 (o ++ ifP (!(kD s x.a0).a4.any (at0 p)) (pb 31 (atS ++ x.a0) p)) (by rw [List.length_append]; omega)
  rw [vQ, hx]
  unfold aCL
  rw [show cR x.l 0 = x.a0 from rfl, show mQ x.l 1 = x.a1 from rfl]
  simp -implicitDefEqProofs only [inI, hi, hle, aN (fun e he => (hq e he).len), bI hi, hx, pF.rd_l, aV5 bx0, aNo hs, rdR, pH, beq_self_eq_true, Bool.not_true, Bool.not_false, Bool.and_true, Bool.true_and, bT, bF, aJ.va_l, List.drop_zero, hf, ha, a1, a2, a3]
  cases aHT s x.a0 with
  | false => simp -implicitDefEqProofs only [Bool.not_false, aE, rM, vZ, hw, Bool.false_eq_true, if_false]
  | true =>
    simp -implicitDefEqProofs only [Bool.not_true, aD, if_true]
    rw [← List.append_assoc, ← List.append_assoc]
    have s2' := fun b => s2 (o ++ ifP (!(kD s x.a0).a4.any (at0 p)) (pb 31 (atS ++ x.a0) p) ++ ifP b (pb 27 (atS ++ x.a0) p)) (by have := lZ b (pb 27 (atS ++ x.a0) p); rw [List.length_append, List.length_append]; omega)
    cases (kD s x.a0).a9 <;> simp -implicitDefEqProofs only [Bool.not_true, Bool.not_false, aE, aD, Bool.true_and, Bool.false_and, s2']
end
end Go.Vs
end
section
open Go Go.Vs Go.Proofs
set_option linter.unusedVariables false
set_option linter.unusedSimpArgs false
namespace Go.Vs
set_option maxRecDepth 100000
theorem aFS {β : Type} {es : List El} {A : List El → Int → Option β} {fin : Option β} (hend : A es es.length = fin) (hstep : ∀ (i : Nat) (hi : i < es.length), A (es.take i) i = A (es.take i ++ [es[i]]) ((i + 1 : Nat) : Int)) : A [] 0 = fin := by
  have : ∀ i : Nat, i ≤ es.length → A (es.take i) i = fin := by
    refine cF ?_ ?_
    · rw [List.take_length]; exact hend
    · intro i hi ih
      rw [hstep i hi, ← List.take_succ_eq_append_getElem hi]; exact ih
  simpa using this 0 (Nat.zero_le _)
theorem aRX {es : List El} {i z : Nat} (hl : es.length ≤ 1048576) (hz : z ≤ 200) : decide (((es.take i).length + 1) * z ≤ aK) = true := by
  have hb : aK = 140737488355328 := rfl
  have h1 : (es.take i).length ≤ 1048576 := by rw [List.length_take]; omega
  have h2 : ((es.take i).length + 1) * z ≤ 1048577 * 200 := Nat.mul_le_mul (by omega) hz
  exact decide_eq_true (by omega)
theorem aRo {es : List El} (hl : es.length ≤ 1048576) (hq : ∀ e ∈ es, jS e) : Dn F.aWL [vsl es] [] = some (.own (some T.aZz) es, []) := by
  have hb : aK = 140737488355328 := rfl
  refine aLT (T := aSo) (t := aJE Tryz.prog T.aZz iSt false) (by unfold aSo; rw [if_neg (by decide)]; exact if_pos rfl) ?_
  show (if es.length * iSt.bytes ≤ aK ∧ sized iSt.size es = true then some (SV.mkO (m := false) false (some T.aZz) es, []) else none) = _
  rw [if_pos ⟨by rw [aWd]; omega, by rw [aVW]; exact aN fun e he => (hq e he).len⟩]
  rfl
theorem aPf {e : El} (h : cS e) : bdL 1048576 e → Dn F.aXm [.agg e] [] = some (.agg e, []) := by
  induction h with
  | mk i0 s1 e2 e3 h1 h2 q2 h3 q3 ih2 =>
    intro hb
    obtain ⟨_, _, ⟨b2, b2'⟩, ⟨b3, _⟩, _⟩ := hb
    have hml : (1048576 : Nat) ≤ maxLen := by decide
    have loop : fU Dn (mR e2 e2.length 0 ⟨i0, s1, [], e3⟩) = some (.agg (cG.l ⟨i0, s1, e2, e3⟩), []) := by
      refine aFS (es := e2) (A := fun out i => fU Dn (mR e2 e2.length i ⟨i0, s1, out, e3⟩)) ?_ fun i hi => ?_
      · rw [xY]; simp -implicitDefEqProofs only [Int.lt_irrefl, decide_false, aD]
      · obtain ⟨y, hy, iy⟩ := (q2 _ (List.getElem_mem hi)).st
        have c := ih2 _ (List.getElem_mem hi) (lA b2' _ (List.getElem_mem hi))
        rw [hy] at c
        rw [xY, hy]
        simp -implicitDefEqProofs only [inI, hi, aN (fun e he => (q2 e he).len), bI hi, hy, cG.rd_l, c, Option.bind_some, cG.va_l, aRX (i := i) (z := 72) b2 (by decide), aV (Nat.lt_of_lt_of_le hi (Nat.le_trans b2 hml))]
        rfl
    refine aP ?_
    have r := aGe (D := Dn) (x0 := ⟨i0, s1, e2, e3⟩)
    simp -implicitDefEqProofs only [aRo b3 q3, kT] at r
    exact r.trans loop
theorem aK8 {es : List El} (hl : es.length ≤ 1048576) (hq : ∀ e ∈ es, gO e) (hb : bdE 1048576 es) : Dn F.aXF [vsl es] [] = some (.own (some T.aZy) es, []) := by
  have hml : (1048576 : Nat) ≤ maxLen := by decide
  refine aP ?_
  rw [aHf]
  refine aFS (es := es) (A := fun out i => iI Dn (qO out es es.length i)) ?_ fun i hi => ?_
  · rw [zF]; simp -implicitDefEqProofs only [Int.lt_irrefl, decide_false, aD]
  · obtain ⟨y, hy, iy⟩ := (hq _ (List.getElem_mem hi)).st
    have by_ := lA hb _ (List.getElem_mem hi)
    rw [hy] at by_
    have iv : cS (cG.l ⟨y.a1, y.a2, y.a3, y.a4⟩) := by
      obtain ⟨_, g2, g3, p3, g4, p4⟩ := iy.p
      exact cS.mk _ _ _ _ g2 g3 p3 g4 p4
    have bv : bdL 1048576 (cG.l ⟨y.a1, y.a2, y.a3, y.a4⟩) := by_.2
    rw [zF, hy]
    simp -implicitDefEqProofs only [inI, hi, aN (fun e he => (hq e he).len), bI hi, hy, dL.rd_l, aPf iv bv, Option.bind_some, cG.va_l, aRX (i := i) (z := 88) hl (by decide), aV (Nat.lt_of_lt_of_le hi (Nat.le_trans hl hml))]
    rfl
theorem aPG {es : List El} (hl : es.length ≤ 1048576) (hq : ∀ e ∈ es, eQ e) (hb : bdE 1048576 es) : Dn F.aXu [vsl es] [] = some (.own (some T.aZw) es, []) := by
  have hml : (1048576 : Nat) ≤ maxLen := by decide
  refine aP ?_
  rw [aHR]
  refine aFS (es := es) (A := fun out i => iM Dn (qS out es es.length i)) ?_ fun i hi => ?_
  · rw [zL]; simp -implicitDefEqProofs only [Int.lt_irrefl, decide_false, aD]
  · obtain ⟨y, hy, iy⟩ := (hq _ (List.getElem_mem hi)).st
    have by_ := lA hb _ (List.getElem_mem hi)
    rw [hy] at by_
    obtain ⟨_, ⟨b1, b1'⟩, _⟩ := by_
    rw [zL, hy]
    simp -implicitDefEqProofs only [inI, hi, aN (fun e he => (hq e he).len), bI hi, hy, pF.rd_l, aK8 b1 iy.p.2.2 b1', kT, aRX (i := i) (z := 40) hl (by decide), aV (Nat.lt_of_lt_of_le hi (Nat.le_trans hl hml))]
    rfl
theorem aLL : Dn F.aXw [vsl []] [] = some (.own (some T.aZv) [], []) := by
  refine aP ?_
  rw [aAr, rF]
  rfl
theorem aRp {x : bC} (hx : eC x.l) (bx : bdL 1048576 x.l) (h6 : x.a6 = []) : Dn F.aXw [vsl [x.l]] [] = some (.own (some T.aZv) [x.l], []) := by
  obtain ⟨_, _, _, _, q4, _, q5, _⟩ := hx.p
  obtain ⟨_, _, _, _, ⟨b4, b4'⟩, ⟨b5, b5'⟩, _⟩ := bx
  refine aP ?_
  rw [aAr]
  refine aFS (es := [x.l]) (A := fun out i => gL Dn (nV out [x.l] ([x.l] : List El).length i)) ?_ fun i hi => ?_
  · rw [rF]; simp -implicitDefEqProofs only [Int.lt_irrefl, decide_false, aD]
  · have h0 : i = 0 := by simp at hi; exact hi
    subst h0
    have hw : IntKind.i64.wrap (((0 : Nat) : Int) + 1) = ((0 + 1 : Nat) : Int) := rfl
    have hq : ∀ e ∈ [x.l], eC e := fun e he => by rw [List.mem_singleton.1 he]; exact hx
    have hg : ([x.l] : List El).getD 0 [] = x.l := rfl
    rw [rF]
    simp -implicitDefEqProofs only [inI, hi, aN (fun e he => (hq e he).len), hg, bC.rd_l, h6, aK8 b4 q4 b4', aPG b5 q5 b5', aLL, kT, aRX (es := [x.l]) (i := 0) (z := 128) (by simp) (by decide), hw]
    rw [show ([x.l] : List El)[0] = x.l from rfl]
    show _ = gL Dn (nV (([x.l] : List El).take 0 ++ [x.l]) _ _ _)
    rw [show x.l = [.int .i64 x.a0, .str x.a1, .str x.a2, .str x.a3, .sl fP x.a4, .sl fP x.a5, .sl fP []] by rw [← h6]; rfl]
end Go.Vs
end
section
open Go Go.Vs Go.Proofs
set_option linter.unusedVariables false
set_option linter.unusedSimpArgs false
namespace Go.Vs
set_option maxRecDepth 100000
theorem aO4 {B : Nat} : ∀ {e : El} {p : Nat} {l : aC false}, bdL B e → e[p]? = some l → bdF B l
  | [], p, l, _, h => by simp at h
  | x :: e, 0, l, hb, h => by
    simp -implicitDefEqProofs only [bdL] at hb
    simp -implicitDefEqProofs only [List.getElem?_cons_zero, Option.some.injEq] at h
    subst h; exact hb.1
  | x :: e, p + 1, l, hb, h => by
    simp -implicitDefEqProofs only [bdL] at hb
    simp -implicitDefEqProofs only [List.getElem?_cons_succ] at h
    exact aO4 hb.2 h
theorem aVC {B : Nat} {e : El} (h : bdL B e) (p : Nat) : (cR e p).size ≤ B := by
  unfold cR
  split
  · rename_i s hs
    have := aO4 h hs
    simpa only [bdF] using this
  · exact Nat.zero_le _
theorem aT8 {B : Nat} {e : El} (h : bdL B e) (p : Nat) : bdE B (mQ e p) := by
  unfold mQ
  split
  · rename_i c es hs
    have := aO4 h hs
    simp -implicitDefEqProofs only [bdF] at this
    exact this.2
  · simp [bdE]
theorem aQv {m : Bool} {β : Type} {t : TypeId} {es : List (List (aC m))} (k : List (List (aC m)) → Option β) : aCU t (.raw (some t) es) k = k es := by simp [aCU]
theorem aOS {n : Nat} (h : n ≤ 1000000) : decide (n * 144 ≤ aK) = true := by
  have hb : aK = 140737488355328 := rfl
  exact decide_eq_true (by omega)
section
variable {s : bU}
def plc (o : ByteArray) (x : bC) : cD := ⟨o, x.a0, x.a1, x.a2, x.a3, x.a4, x.a5, []⟩
def aKL (p : cD) : bC := ⟨p.a1, p.a2, p.a3, p.a4, p.a5, p.a6, p.a7⟩
structure PlK (p : cD) : Prop where
  own : p.a0.size ≤ 1048576
  sel : eC (aKL p).l
  bd : bdL 1048576 (aKL p).l
  no : p.a7 = []
def aRw (e : El) : Prop := ∃ p : cD, e = p.l ∧ PlK p
theorem aRw.len {e : El} (h : aRw e) : e.length = 8 := by obtain ⟨p, rfl, _⟩ := h; rfl
theorem aVS {o : ByteArray} {x : bC} (ho : o.size ≤ 1048576) (hx : eC x.l) (bx : bdL 1048576 x.l) : PlK (plc o x) := by
  obtain ⟨p1, p2, p3, p4, q4, p5, q5, _, _⟩ := hx.p
  obtain ⟨b0, b1, b2, b3, b4, b5, _, _⟩ := bx
  refine ⟨ho, ?_, ?_, rfl⟩
  · exact eC.mk _ _ _ _ _ _ _ p1 p2 p3 p4 q4 p5 q5 (Nat.zero_le _) (fun e he => by cases he)
  · exact ⟨b0, b1, b2, b3, b4, b5, ⟨Nat.zero_le _, trivial⟩, trivial⟩
theorem aOC (hs : bM s.l) (bs : bdL 1048576 s.l) {n f : ByteArray} : (aAh s n f).a3.size ≤ 1048576 ∧ (aAh s n f).a2.length ≤ 1048576 := by
  unfold aAh
  split
  · exact ⟨by decide, by decide⟩
  · split
    · exact ⟨by decide, by decide⟩
    · unfold aCq
      split
      · exact ⟨by decide, by decide⟩
      · rename_i h
        obtain ⟨j, hj, hi, _⟩ := rX h
        by_cases ht : rO s n < 0
        · exfalso
          have : lU s n = aDm := by unfold lU; rw [if_pos ht]
          rw [this] at hj
          simp [aDm] at hj
        · obtain ⟨k, hk, y, h1, hy, iy⟩ := wH hs ht
          have hd := aAM h1 hy
          have b1 := lA (aT8 bs 0 : bdE 1048576 s.a0) _ (List.getElem_mem hk)
          rw [hy] at b1
          have b5 : bdE 1048576 y.a5 := aT8 b1 5
          have hm := List.getElem_mem hj
          obtain ⟨z, hz, _⟩ := ((aLR (n := n) hs).p.2.2.2.2.2.1 _ hm).st
          rw [hi, Int.toNat_natCast, bI hj]
          have bz : bdL 1048576 ((lU s n).a5[j]) := by
            have : bdE 1048576 (lU s n).a5 := by rw [hd]; exact b5
            exact lA this _ hm
          rw [hz] at bz ⊢
          obtain ⟨_, _, ⟨c2, _⟩, c3, _⟩ := bz
          exact ⟨c3, c2⟩
theorem aS0 {n f : ByteArray} (h : aGB s n f = false) : (aAh s n f).a3 = nul := by
  unfold aGB at h
  unfold aAh
  by_cases h1 : aUa s n f = true
  · rw [if_pos h1] at h; cases h
  · rw [if_neg h1] at h ⊢
    by_cases h2 : aNt s n = true
    · rw [if_pos h2]; rfl
    · rw [if_neg h2] at h ⊢
      have h3 : fI (at0 f) 0 (lU s n).a5 < 0 := by simpa using h
      unfold aCq
      rw [if_pos h3]; rfl
theorem aST (hs : bM s.l) (bs : bdL 1048576 s.l) {o : ByteArray} {x : bC} (ho : o.size ≤ 1048576) (bx : bdL 1048576 x.l) : (pM s o x).size ≤ 1048576 := by
  unfold pM
  split
  · exact (aOC hs bs).1
  · split
    · exact ho
    · exact aVC bx 3
def aTF (s : bU) (es : List El) : Prop := nE es ≤ 120 → ∀ o : ByteArray, o.size ≤ 1048576 → ∃ r : List El, r.length ≤ nE es ∧ (∀ e ∈ r, aRw e) ∧
  (∀ out : List El, out.length + nE es ≤ 1000000 → Dn F.aXv [.agg s.l, .leaf (.str o), vsl es, .own (some T.aZb) out] [] = some (.own (some T.aZb) (out ++ r), [])) ∧
  Dn F.aX5 [.agg s.l, .leaf (.str o), vsl es] [] = some (.raw (some T.aZb) r, [])
theorem aUG {β : Type} {es : List El} {g : Nat → El → List El} {w : El → Nat} {A : List El → Int → Option β} {fin : List El → Option β} {N : Nat} (hg : ∀ (j : Nat) (hj : j < es.length), (g j es[j]).length ≤ w es[j])
    (hend : ∀ out, A out es.length = fin out) (hstep : ∀ (i : Nat) (hi : i < es.length) (out : List El), out.length + w es[i] ≤ N → A out i = A (out ++ g i es[i]) ((i + 1 : Nat) : Int)) :
    ∀ i : Nat, i ≤ es.length → ∀ out : List El, out.length + ((es.drop i).map w).sum ≤ N → A out i = fin (out ++ nW g i (es.drop i)) := by
  refine cF ?_ ?_
  · intro out ho; rw [hend out]; simp [nW]
  · intro i hi ih out ho
    rw [gS hi, List.map_cons, List.sum_cons] at ho
    rw [hstep i hi out (by omega), ih _ (by have := hg i hi; rw [List.length_append]; omega), gS hi, nW, List.append_assoc]
theorem aVh : ∀ es : List El, (es.map fun e => 1 + qH e).sum = nE es
  | [] => rfl
  | e :: es => by rw [List.map_cons, List.sum_cons, aVh es, nE]
theorem aP1 {β : Type} {es : List El} {g : Nat → El → List El} {A : List El → Int → Option β} {fin : List El → Option β} {N : Nat} (hg : ∀ (j : Nat) (hj : j < es.length), (g j es[j]).length ≤ 1 + qH es[j])
    (hend : ∀ out, A out es.length = fin out) (hstep : ∀ (i : Nat) (hi : i < es.length) (out : List El), out.length + (1 + qH es[i]) ≤ N → A out i = A (out ++ g i es[i]) ((i + 1 : Nat) : Int))
    {out : List El} (ho : out.length + nE es ≤ N) : A out 0 = fin (out ++ nW g 0 es) := by
  have := aUG (w := fun e => 1 + qH e) hg hend hstep 0 (Nat.zero_le _) out (by rw [List.drop_zero, aVh]; exact ho)
  simpa using this
theorem aOe {g : El → List El} : ∀ {es : List El}, (∀ e ∈ es, (g e).length ≤ 1 + qH e) → (es.flatMap g).length ≤ nE es
  | [], _ => by simp
  | e :: es, h => by
    have h1 := h e (by simp)
    have h2 := aOe (es := es) fun x hx => h x (by simp [hx])
    rw [List.flatMap_cons, List.length_append, nE]; omega
theorem aMM (hs : bM s.l) (bs : bdL 1048576 s.l) {es : List El} (hl : es.length ≤ maxLen) (hq : ∀ e ∈ es, eC e) (bq : bdE 1048576 es) (hk : ∀ e ∈ es, aTF s (mQ e 6)) : aTF s es := by
  classical
  intro hN o hosz
  have hsm : ∀ e ∈ es, nE (mQ e 6) ≤ 119 := fun e he => by
    have h1 := aRf he
    obtain ⟨y, rfl, _⟩ := (hq e he).st
    rw [aCZ] at h1
    show nE y.a6 ≤ 119
    omega
  have hch : ∀ (e : El) (o' : ByteArray), ∃ r : List El, e ∈ es → o'.size ≤ 1048576 → (r.length ≤ nE (mQ e 6) ∧ (∀ e ∈ r, aRw e) ∧
      (∀ out : List El, out.length + nE (mQ e 6) ≤ 1000000 → Dn F.aXv [.agg s.l, .leaf (.str o'), vsl (mQ e 6), .own (some T.aZb) out] [] = some (.own (some T.aZb) (out ++ r), [])) ∧
      Dn F.aX5 [.agg s.l, .leaf (.str o'), vsl (mQ e 6)] [] = some (.raw (some T.aZb) r, [])) := fun e o' => by
    by_cases he : e ∈ es
    · by_cases ho : o'.size ≤ 1048576
      · obtain ⟨r, hr⟩ := hk e he (by have := hsm e he; omega) o' ho
        exact ⟨r, fun _ _ => hr⟩
      · exact ⟨[], fun _ h => absurd h ho⟩
    · exact ⟨[], fun h => absurd h he⟩
  obtain ⟨k, hk0⟩ := Classical.axiomOfChoice (fun e => Classical.axiomOfChoice (hch e))
  let g : El → List El := fun e => (plc o (.of e)).l :: k e (pM s o (.of e))
  have bel : ∀ e ∈ es, (pM s o (.of e)).size ≤ 1048576 := fun e he => by
    have b := lA bq e he
    obtain ⟨y, rfl, _⟩ := (hq e he).st
    exact aST hs bs hosz b
  have gl : ∀ e ∈ es, (g e).length ≤ 1 + qH e := fun e he => by
    have := (hk0 e _ he (bel e he)).1
    obtain ⟨y, rfl, _⟩ := (hq e he).st
    rw [aCZ]
    have e1 : mQ y.l 6 = y.a6 := rfl
    rw [e1] at this
    show (k y.l (pM s o (.of y.l))).length + 1 ≤ _
    omega
  have ga : ∀ e ∈ es, ∀ p ∈ g e, aRw p := fun e he p hp => by
    rcases List.mem_cons.1 hp with rfl | hp
    · have b := lA bq e he
      have i := hq e he
      obtain ⟨y, rfl, iy⟩ := i.st
      exact ⟨_, rfl, aVS hosz iy b⟩
    · exact (hk0 e _ he (bel e he)).2.1 p hp
  refine ⟨nW (fun _ => g) 0 es, ?_, ?_, fun out ho => ?_, ?_⟩
  · rw [aFs]; exact aOe gl
  · intro p hp
    obtain ⟨j, hj, hx⟩ := aKn es 0 hp
    exact ga _ (List.getElem_mem hj) p hx
  · refine aP ?_
    rw [aD6]
    refine aP1 (es := es) (g := fun _ => g) (N := 1000000) (A := fun out i => cH Dn (kN o es out i s)) (fin := fun out => some (.own (some T.aZb) out, []))
      (fun j hj => gl _ (List.getElem_mem hj)) (fun out1 => by rw [vL]; simp -implicitDefEqProofs only [Int.lt_irrefl, decide_false, aD]) (fun i hi out1 ho1 => ?_) ho
    obtain ⟨x, hx, ix⟩ := (hq _ (List.getElem_mem hi)).st
    have hw := aV (Nat.lt_of_lt_of_le hi hl)
    have kb := bel _ (List.getElem_mem hi)
    obtain ⟨_, ka, kse, _⟩ := hk0 _ _ (List.getElem_mem hi) kb
    rw [hx] at kse ho1 kb ka
    rw [aCZ] at ho1
    have kse : ∀ out : List El, out.length + nE x.a6 ≤ 1000000 → Dn F.aXv [.agg s.l, .leaf (.str (pM s o x)), vsl x.a6, .own (some T.aZb) out] [] = some (.own (some T.aZb) (out ++ k x.l (pM s o x)), []) := kse
    have one : cH Dn (iY o es out1 i (pM s o x) s x) = cH Dn (kN o es (out1 ++ g x.l) ((i + 1 : Nat) : Int) s) := by
      have kk := kse (out1 ++ [(plc o x).l]) (by rw [List.length_append, List.length_singleton]; omega)
      have kk : Dn F.aXv [.agg s.l, .leaf (.str (pM s o x)), vsl x.a6, .own (some T.aZb) (out1 ++ [[.str o, .int .i64 x.a0, .str x.a1, .str x.a2, .str x.a3, .sl fP x.a4, .sl fP x.a5, .sl fP []]])] [] = some (.own (some T.aZb) (out1 ++ [(plc o x).l] ++ k x.l (pM s o x)), []) := kk
      rw [aC1, aOS (by omega), Bool.and_true, aG, kk, kT, hw, List.append_assoc]
      rfl
    rw [vL, hx]
    simp -implicitDefEqProofs only [inI, hi, aN (fun e he => (hq e he).len), bI hi, hx, bC.rd_l, aDr hs, Option.bind_some, qB, qC, bS.va_l, aBO, tO]
    refine Eq.trans ?_ one
    unfold pM
    cases h1 : x.a0 == 1
    · simp -implicitDefEqProofs only [aD, Bool.false_eq_true, if_false]
      cases x.a3.toList == (ByteArray.mk #[]).toList <;> simp -implicitDefEqProofs only [Bool.not_true, Bool.not_false, aE, aD, if_true, Bool.false_eq_true, if_false]
    · simp -implicitDefEqProofs only [aE, if_true]
      cases h2 : aGB s o x.a2
      · rw [aD, aS0 h2]
      · rw [aE]
  · refine aP ?_
    rw [aIu]
    refine (aP1 (es := es) (g := fun _ => g) (N := 900000) (out := []) (A := fun out i => jF Dn (sV o out es es.length i s)) (fin := fun out => some (.raw (some T.aZb) out, []))
      (fun j hj => gl _ (List.getElem_mem hj)) (fun out1 => by rw [aAv]; simp -implicitDefEqProofs only [Int.lt_irrefl, decide_false, aD]) (fun i hi out1 ho1 => ?_) (by simp -implicitDefEqProofs only [List.length_nil]; omega)).trans (by rw [List.nil_append])
    obtain ⟨x, hx, ix⟩ := (hq _ (List.getElem_mem hi)).st
    have hw := aV (Nat.lt_of_lt_of_le hi hl)
    have kb := bel _ (List.getElem_mem hi)
    have hse := hsm _ (List.getElem_mem hi)
    obtain ⟨kl, ka, _, kie⟩ := hk0 _ _ (List.getElem_mem hi) kb
    rw [hx] at kie ho1 kb ka kl hse
    rw [aCZ] at ho1
    have kie : Dn F.aX5 [.agg s.l, .leaf (.str (pM s o x)), vsl x.a6] [] = some (.raw (some T.aZb) (k x.l (pM s o x)), []) := kie
    have kl : (k x.l (pM s o x)).length ≤ nE (mQ x.l 6) := kl
    have r2 : decide (((out1 ++ ([[.str o, .int .i64 x.a0, .str x.a1, .str x.a2, .str x.a3, .sl fP x.a4, .sl fP x.a5, .sl fP []]] : LE)).length + (k x.l (pM s o x)).length) * 144 ≤ aK) = true := aOS (by rw [List.length_append, List.length_singleton]; omega)
    have s8 : sized 8 (k x.l (pM s o x)) = true := aN (fun e he => (ka e he).len)
    rw [aAv, hx]
    simp -implicitDefEqProofs only [inI, hi, aN (fun e he => (hq e he).len), bI hi, hx, bC.rd_l, aOS (n := out1.length + 1) (by omega), aOA hs, aCz, kie, Option.bind_some, aQv, r2, s8, hw]
    rw [List.append_assoc]
    rfl
theorem aSU (hs : bM s.l) (bs : bdL 1048576 s.l) {e : El} (h : eC e) : bdL 1048576 e → aTF s (mQ e 6) := by
  induction h with
  | mk i0 s1 s2 s3 e4 e5 e6 h1 h2 h3 h4 q4 h5 q5 h6 q6 ih6 =>
    intro hb
    have b6 : bdE 1048576 e6 := aT8 hb 6
    exact aMM hs bs (es := e6) h6 q6 b6 fun e he => ih6 e he (lA b6 e he)
end
end Go.Vs
end
section
open Go Go.Vs Go.Proofs
set_option linter.unusedVariables false
set_option linter.unusedSimpArgs false
namespace Go.Vs
set_option maxRecDepth 100000
theorem aSL {m : Bool} (P B Q : List (SV m)) {p : Nat} (hp : P.length = p) : gN (P ++ (B ++ Q)) p B = P ++ (B ++ Q) := by
  have : (P ++ (B ++ Q)).drop (P.length + B.length) = Q := by rw [← List.append_assoc, ← List.length_append, List.drop_left]
  unfold gN
  rw [← hp, this, List.take_left, List.append_assoc]
theorem aSy {z i p0 : Nat} {L : List El} (h : ∀ e ∈ L, e.length = z) (hi : i < L.length) {a b c : El} (he : L[i] = a ++ (b ++ c)) (ha : a.length = p0) : gN (kK L) (i * z + p0) (b.map SV.leaf) = kK L := by
  obtain ⟨h1, h2⟩ := aLX h (Nat.le_of_lt hi)
  have e : kK L = (kK (L.take i) ++ a.map SV.leaf) ++ (b.map SV.leaf ++ (c.map SV.leaf ++ kK (L.drop (i + 1)))) := by
    rw [h1, List.drop_eq_getElem_cons hi, aNL, he]
    simp -implicitDefEqProofs only [List.map_append, List.append_assoc]
  have q := aSL (kK (L.take i) ++ a.map SV.leaf) (b.map SV.leaf) (c.map SV.leaf ++ kK (L.drop (i + 1))) (p := i * z + p0) (by rw [List.length_append, h2, List.length_map, ha])
  rw [← e] at q
  exact q
section
variable {s : bU}
def aAK (k : Int) : ByteArray := if (k == 1) = true then ByteArray.mk #[70, 73, 69, 76, 68] else if (k == 2) = true then ByteArray.mk #[70, 82, 65, 71, 77, 69, 78, 84, 95, 83, 80, 82, 69, 65, 68] else if (k == 3) = true then ByteArray.mk #[73, 78, 76, 73, 78, 69, 95, 70, 82, 65, 71, 77, 69, 78, 84] else ByteArray.mk #[]
theorem aLJ {x : bC} : Dn F.aXX [.agg x.l] [] = some (.leaf (.str (aAK x.a0)), []) := by
  refine aP ?_
  rw [aIW]
  unfold aAK
  cases x.a0 == 1 <;> cases x.a0 == 2 <;> cases x.a0 == 3 <;> rfl
theorem aLK {x : bC} : Dn F.aXU [.agg x.l] [] = some (.leaf (.str (aAK x.a0)), []) := by
  refine aP ?_
  rw [aIo]
  unfold aAK
  cases x.a0 == 1 <;> cases x.a0 == 2 <;> cases x.a0 == 3 <;> rfl
def aUv : ByteArray := ByteArray.mk #[46]
noncomputable def aNy (s : bU) (p : cD) : List El :=
  (if (p.a1 == 1 && aGB s p.a0 p.a3) = true then uM s (p.a0 ++ aUv ++ p.a3) (aAh s p.a0 p.a3).a2 p.a5 else []) ++ aA2 s (aAK p.a1) p.a6
theorem aL3 {p : cD} : (aNy s p).length ≤ 40600 := by
  unfold aNy
  have h1 := aAd (s := s) (o := p.a0 ++ aUv ++ p.a3) (list := (aAh s p.a0 p.a3).a2) (args := p.a5)
  have h2 := aKl (s := s) (p := aAK p.a1) (dirs := p.a6)
  rw [List.length_append]
  split
  · omega
  · simp -implicitDefEqProofs only [List.length_nil]; omega
theorem aT1 {p : cD} : ∀ e ∈ aNy s p, dP e := by
  unfold aNy
  refine aFQ ?_ aJH
  split
  · exact aAc
  · intro e he; cases he
noncomputable def nK (s : bU) (o : ByteArray) (es : List El) : List El :=
  open Classical in if h : (aTF s es ∧ nE es ≤ 120) ∧ o.size ≤ 1048576 then Classical.choose (h.1.1 h.1.2 o h.2) else []
noncomputable def aBt (s : bU) (o : ByteArray) (es : List El) : List El := nW (fun _ e => aNy s (.of e)) 0 (nK s o es)
variable {o : ByteArray} {es : List El}
theorem aC0 (hs : bM s.l) (bs : bdL 1048576 s.l) (ho : o.size ≤ 1048576) (hl : es.length ≤ maxLen) (hq : ∀ e ∈ es, eC e) (bq : bdE 1048576 es) (hN : nE es ≤ 120) : (nK s o es).length ≤ nE es ∧ (∀ e ∈ nK s o es, aRw e) ∧
    (∀ out : List El, out.length + nE es ≤ 1000000 → Dn F.aXv [.agg s.l, .leaf (.str o), vsl es, .own (some T.aZb) out] [] = some (.own (some T.aZb) (out ++ nK s o es), [])) ∧
    Dn F.aX5 [.agg s.l, .leaf (.str o), vsl es] [] = some (.raw (some T.aZb) (nK s o es), []) := by
  have hsc : aTF s es := aMM hs bs hl hq bq fun e he => aSU hs bs (hq e he) (lA bq e he)
  have : nK s o es = Classical.choose (hsc hN o ho) := by unfold nK; exact dif_pos ⟨⟨hsc, hN⟩, ho⟩
  rw [this]
  exact Classical.choose_spec (hsc hN o ho)
theorem zS (hN : ¬ nE es ≤ 120) : nK s o es = [] := by unfold nK; exact dif_neg fun h => hN h.1.2
theorem aK6 (hs : bM s.l) (bs : bdL 1048576 s.l) (ho : o.size ≤ 1048576) (hl : es.length ≤ 1048576) (hq : ∀ e ∈ es, eC e) (bq : bdE 1048576 es) : (nK s o es).length ≤ 120 := by
  by_cases hN : nE es ≤ 120
  · have := (aC0 hs bs ho (Nat.le_trans hl (by decide)) hq bq hN).1
    omega
  · rw [zS hN]; exact Nat.zero_le _
theorem aQ5 (hs : bM s.l) (bs : bdL 1048576 s.l) (ho : o.size ≤ 1048576) (hl : es.length ≤ 1048576) (hq : ∀ e ∈ es, eC e) (bq : bdE 1048576 es) : (aBt s o es).length ≤ 4872000 := by
  have h1 := aK6 hs bs ho hl hq bq
  have := zY (g := fun _ e => aNy s (.of e)) (c := 40600) (nK s o es) 0 fun j hj => aL3
  unfold aBt
  omega
theorem aMS : ∀ e ∈ aBt s o es, dP e := aJe fun j x => aT1
theorem aLp (hs : bM s.l) (bs : bdL 1048576 s.l) (ho : o.size ≤ 1048576) (hl : es.length ≤ 1048576) (hq : ∀ e ∈ es, eC e) (bq : bdE 1048576 es) (ht : es.length + tE es ≤ 1048576) :
    Dn F.aXM [.agg s.l, .leaf (.str o), vsl es] [] = some (vsl (nK s o es), []) := by
  have hl' : es.length ≤ maxLen := Nat.le_trans hl (by decide)
  refine aP ?_
  rw [aJh, aL2 hl' hq (Nat.le_trans (aTQ es) ht), dO]
  by_cases hN : nE es ≤ 120
  · obtain ⟨l1, l2, _, l4⟩ := aC0 hs bs ho hl' hq bq hN
    rw [show decide (120 < nE es) = false from decide_eq_false (by omega), aD, l4, Option.bind_some]
    generalize nK s o es = r at l1 l2
    rw [aQv]
    have hall : ∀ e ∈ r, e.length = 8 := fun e he => (l2 e he).len
    have hlen := aQs hall
    have nb : (kK r).all (SV.noBox [9]) = true := aPK fun _ => rfl
    have fl : ([kK r].all fun (x : List (SV false)) => x.all SV.flat) = true := by
      simp -implicitDefEqProofs only [List.all_cons, List.all_nil, Bool.and_true, aPK (p := SV.flat) fun _ => rfl]
    have clip : Dn F.aWC [.bsl 0 8 0 r.length] [kK r] = some (.bsl 0 8 0 r.length, [kK r]) := by
      refine aP ?_
      rw [oL]
      simp -implicitDefEqProofs only [Int.toNat_natCast, Nat.le_refl, decide_true, Bool.and_self, aG, fl, Nat.sub_zero]
    have hc := fE hall
    have hg : cM ((kK r).take (r.length * 8)) = some r.flatten := by
      rw [List.take_of_length_le (by rw [hlen]; omega)]; exact zQ _
    have hm : (120 : Nat) ≤ maxLen := by decide
    have loop : ∀ i : Nat, i ≤ r.length → iE Dn (pA r.length r.length r.length i s (kK r)) = some (vsl r, []) := by
      refine cF ?_ ?_
      · rw [aAH]
        simp -implicitDefEqProofs only [nb, Bool.and_true, aG, Int.lt_irrefl, decide_false, aD, fl, clip, Option.bind_some, aCV, aBI]
        rw [show ∀ f : Nat → Nat → Ret false, aE1 0 8 (.bsl 0 8 0 r.length) f = f 0 r.length from fun f => by simp [aE1]]
        simp -implicitDefEqProofs only [beq_self_eq_true, Bool.and_true, aG, hlen, Nat.le_refl, decide_true, hg, Option.bind_some, hc]
      · intro i hi ih
        obtain ⟨p, hp, pk⟩ := l2 _ (List.getElem_mem hi)
        have hd8 : (i + 1) * 8 ≤ r.length * 8 := Nat.mul_le_mul_right 8 hi
        have h8 : i * 8 + 8 ≤ (kK r).length := by rw [hlen]; omega
        have h7 : i * 8 + 1 + 7 ≤ (kK r).length := by rw [hlen]; omega
        have hgi := aTS hall hi
        have hself := aSy (z := 8) (p0 := 1) hall hi (a := [.str p.a0]) (b := (aKL p).l) (c := []) (by rw [hp]; rfl) rfl
        have hself : gN (kK r) (i * 8 + 1) [.leaf (.int .i64 p.a1), .leaf (.str p.a2), .leaf (.str p.a3), .leaf (.str p.a4), .leaf (.sl fP p.a5), .leaf (.sl fP p.a6), .leaf (.sl fP p.a7)] = kK r := hself
        have cs : Dn F.aXw [vsl [[.int .i64 p.a1, .str p.a2, .str p.a3, .str p.a4, .sl fP p.a5, .sl fP p.a6, .sl fP p.a7]]] [] = some (.own (some T.aZv) [(aKL p).l], []) := aRp (x := aKL p) pk.sel pk.bd pk.no
        have hg0 : ([(aKL p).l] : List El).getD (Int.toNat 0) [] = (aKL p).l := rfl
        have hs7 : sized 7 ([(aKL p).l] : List El) = true := rfl
        rw [hp] at hgi
        rw [aAH]
        simp -implicitDefEqProofs only [nb, Bool.and_true, aG, Int.ofNat_lt, hi, decide_true, aE, Int.natCast_nonneg, Int.toNat_natCast, Nat.zero_add, h8, hgi, Option.bind_some, cD.rd_l, cs, kT, hs7, List.length_singleton, hg0, bC.rd_l, aV (show i < maxLen by omega)]
        show aA (decide (i * 8 + 1 + 7 ≤ (kK r).length)) (aA ((gN (kK r) (i * 8 + 1) [.leaf (.int .i64 p.a1), .leaf (.str p.a2), .leaf (.str p.a3), .leaf (.str p.a4), .leaf (.sl fP p.a5), .leaf (.sl fP p.a6), .leaf (.sl fP p.a7)]).all (SV.noBox [9])) (iE Dn (pA r.length r.length r.length ((i + 1 : Nat) : Int) s (gN (kK r) (i * 8 + 1) [.leaf (.int .i64 p.a1), .leaf (.str p.a2), .leaf (.str p.a3), .leaf (.str p.a4), .leaf (.sl fP p.a5), .leaf (.sl fP p.a6), .leaf (.sl fP p.a7)])))) = some (vsl r, [])
        rw [hself, decide_eq_true h7, aG, nb, aG]
        exact ih
    exact loop 0 (Nat.zero_le _)
  · rw [show decide (120 < nE es) = true from decide_eq_true (by omega), aE, zS hN]
theorem aTi {a b : ByteArray} (ha : a.size ≤ 1048576) (hb : b.size ≤ 1048576) : decide (a.size + (ByteArray.mk #[46]).size ≤ 140737488355328) = true ∧ decide ((a ++ ByteArray.mk #[46]).size + b.size ≤ 140737488355328) = true := by
  have h1 : (ByteArray.mk #[46]).size = 1 := rfl
  exact ⟨decide_eq_true (by omega), decide_eq_true (by rw [ByteArray.size_append]; omega)⟩
theorem aQa {p : cD} (h : PlK p) : p.a3.size ≤ 1048576 ∧ p.a5.length ≤ maxLen ∧ (∀ e ∈ p.a5, gO e) ∧ bdE 1048576 p.a5 ∧ p.a6.length ≤ maxLen ∧ (∀ e ∈ p.a6, eQ e) ∧ bdE 1048576 p.a6 := by
  obtain ⟨_, _, _, l4, q4, l5, q5, _⟩ := h.sel.p
  obtain ⟨_, _, b2, _, ⟨_, b4⟩, ⟨_, b5⟩, _⟩ := h.bd
  exact ⟨b2, l4, q4, b4, l5, q5, b5⟩
theorem aER (hs : bM s.l) (bs : bdL 1048576 s.l) (ho : o.size ≤ 1048576) (hl : es.length ≤ 1048576) (hq : ∀ e ∈ es, eC e) (bq : bdE 1048576 es) :
    Dn F.aWT [.agg s.l, .leaf (.str o), vsl es] [] = some (.own (some T.aYr) (aBt s o es), []) := by
  have hl' : es.length ≤ maxLen := Nat.le_trans hl (by decide)
  have hm : (120 : Nat) ≤ maxLen := by decide
  refine aP ?_
  rw [aCY, aMQ hl' hq, dO]
  unfold aBt
  by_cases hN : nE es ≤ 120
  · obtain ⟨l1, l2, l3, _⟩ := aC0 hs bs ho hl' hq bq hN
    rw [show decide (120 < nE es) = false from decide_eq_false (by omega), aD, l3 [] (by simp -implicitDefEqProofs only [List.length_nil]; omega), kT, List.nil_append]
    generalize nK s o es = r at l1 l2
    refine uA (es := r) (g := fun _ e => aNy s (.of e)) (c := 40600) (N := 10000000) (A := fun out i => cI Dn (jW out r i s)) (fin := fun out => some (.own (some T.aYr) out, []))
      (fun j hj => aL3) (fun out _ => by rw [uF]; simp -implicitDefEqProofs only [Int.lt_irrefl, decide_false, aD]) (fun i hi out ho1 => ?_) (by omega)
    obtain ⟨p, hp, pk⟩ := l2 _ (List.getElem_mem hi)
    obtain ⟨f3, f5, f5q, f5b, f6, f6q, f6b⟩ := aQa pk
    obtain ⟨g1, g2⟩ := aTi pk.own f3
    have hw := aV (show i < maxLen by omega)
    have fl := aOC (n := p.a0) (f := p.a3) hs bs
    have ca := aAR (o := p.a0 ++ ByteArray.mk #[46] ++ p.a3) hs bs fl.2 (aUh (n := p.a0) (f := p.a3) hs).p.2.2.2.1 f5 f5q f5b
    have al := aAd (s := s) (o := p.a0 ++ ByteArray.mk #[46] ++ p.a3) (list := (aAh s p.a0 p.a3).a2) (args := p.a5)
    have aq := aAc (s := s) (o := p.a0 ++ ByteArray.mk #[46] ++ p.a3) (list := (aAh s p.a0 p.a3).a2) (args := p.a5)
    have one : ∀ out : List El, out.length ≤ 9960000 → cI Dn (jZ out r i s ⟨p.a1, p.a2, p.a3, p.a4, p.a5, p.a6, p.a7⟩) = cI Dn (jW (out ++ aA2 s (aAK p.a1) p.a6) r ((i + 1 : Nat) : Int) s) := fun out h => by
      have dl := aKl (s := s) (p := aAK p.a1) (dirs := p.a6)
      have dq := aJH (s := s) (p := aAK p.a1) (dirs := p.a6)
      rw [aCg, aLJ, aCz]
      simp -implicitDefEqProofs only [aHz hs bs f6 f6q f6b, kT, aOY (z := 40) (show out.length + (aA2 s (aAK p.a1) p.a6).length ≤ 1000000000000 by omega) (by decide), aN (fun e he => (dq e he).len), Bool.and_self, aG, hw]
    rw [uF, hp]
    simp -implicitDefEqProofs only [inI, hi, aN (fun e he => (l2 e he).len), bI hi, hp, dV, atP, aDr hs, Option.bind_some, qB, qC, bS.va_l, aBO, tO, g1, g2, ca, kT, aOY (z := 40) (show out.length + (uM s (p.a0 ++ ByteArray.mk #[46] ++ p.a3) (aAh s p.a0 p.a3).a2 p.a5).length ≤ 1000000000000 by omega) (by decide), aN (fun e he => (aq e he).len), one out (by omega), one (out ++ uM s (p.a0 ++ ByteArray.mk #[46] ++ p.a3) (aAh s p.a0 p.a3).a2 p.a5) (by rw [List.length_append]; omega)]
    unfold aNy
    rw [cD.of_l, show aUv = ByteArray.mk #[46] from rfl]
    cases p.a1 == 1 <;> cases aGB s p.a0 p.a3 <;> simp -implicitDefEqProofs only [aE, aD, Bool.and_self, Bool.and_true, Bool.and_false, Bool.true_and, Bool.false_and, if_true, Bool.false_eq_true, if_false, List.nil_append, List.append_assoc]
  · rw [show decide (120 < nE es) = true from decide_eq_true (by omega), aE, zS hN]
    rfl
theorem aEv (hs : bM s.l) (bs : bdL 1048576 s.l) (ho : o.size ≤ 1048576) (hl : es.length ≤ 1048576) (hq : ∀ e ∈ es, eC e) (bq : bdE 1048576 es) (ht : es.length + tE es ≤ 1048576) :
    Dn F.aWR [.agg s.l, .leaf (.str o), vsl es] [] = some (.own (some T.aYr) (aBt s o es), []) := by
  have hm : (120 : Nat) ≤ maxLen := by decide
  have l1 := aK6 hs bs ho hl hq bq
  have l2 : ∀ e ∈ nK s o es, aRw e := by
    by_cases hN : nE es ≤ 120
    · exact (aC0 hs bs ho (Nat.le_trans hl (by decide)) hq bq hN).2.1
    · rw [zS hN]; intro e he; cases he
  refine aP ?_
  rw [aCB, aLp hs bs ho hl hq bq ht, aVO]
  unfold aBt
  generalize nK s o es = r at l1 l2
  refine uA (es := r) (g := fun _ e => aNy s (.of e)) (c := 40600) (N := 10000000) (A := fun out i => bD Dn (iJ r r.length i s out)) (fin := fun out => some (.own (some T.aYr) out, []))
    (fun j hj => aL3) (fun out _ => by rw [tV]; simp -implicitDefEqProofs only [Int.lt_irrefl, decide_false, aD]) (fun i hi out ho1 => ?_) (by omega)
  obtain ⟨p, hp, pk⟩ := l2 _ (List.getElem_mem hi)
  obtain ⟨f3, f5, f5q, f5b, f6, f6q, f6b⟩ := aQa pk
  obtain ⟨g1, g2⟩ := aTi pk.own f3
  have hw := aV (show i < maxLen by omega)
  have fl := aOC (n := p.a0) (f := p.a3) hs bs
  have ca := aAl (o := p.a0 ++ ByteArray.mk #[46] ++ p.a3) hs bs fl.2 (aUh (n := p.a0) (f := p.a3) hs).p.2.2.2.1 f5 f5q f5b
  have al := aAd (s := s) (o := p.a0 ++ ByteArray.mk #[46] ++ p.a3) (list := (aAh s p.a0 p.a3).a2) (args := p.a5)
  have aq := aAc (s := s) (o := p.a0 ++ ByteArray.mk #[46] ++ p.a3) (list := (aAh s p.a0 p.a3).a2) (args := p.a5)
  have two : ∀ out : List El, out.length ≤ 9960000 → bD Dn (mY r r.length i s p out) = bD Dn (iJ r r.length ((i + 1 : Nat) : Int) s (out ++ aA2 s (aAK p.a1) p.a6)) := fun out h => by
    have dl := aKl (s := s) (p := aAK p.a1) (dirs := p.a6)
    have dq := aJH (s := s) (p := aAK p.a1) (dirs := p.a6)
    rw [aCp, aLK, aCz]
    simp -implicitDefEqProofs only [aHo hs bs f6 f6q f6b, kT, aTL (l := aA2 s (aAK p.a1) p.a6) (out := out) dq (by omega), xJ, hw]
  have one : ∀ b : Bool, bD Dn (mU r r.length i b s p (aAh s p.a0 p.a3) out) = bD Dn (iJ r r.length ((i + 1 : Nat) : Int) s (out ++ ((if b = true then uM s (p.a0 ++ ByteArray.mk #[46] ++ p.a3) (aAh s p.a0 p.a3).a2 p.a5 else []) ++ aA2 s (aAK p.a1) p.a6))) := fun b => by
    rw [aCk]
    cases b
    · rw [aD, two out (by omega)]; rfl
    · rw [aE, g1, aG, g2, aG]
      simp -implicitDefEqProofs only [ca, kT, aTL (l := uM s (p.a0 ++ ByteArray.mk #[46] ++ p.a3) (aAh s p.a0 p.a3).a2 p.a5) (out := out) aq (by omega), xJ, if_true]
      rw [two _ (by rw [List.length_append]; omega), List.append_assoc]
  rw [tV, hp]
  simp -implicitDefEqProofs only [inI, hi, aN (fun e he => (l2 e he).len), bI hi, hp, cD.rd_l, aDd hs, Option.bind_some, qB, qC, bS.va_l, aBO, tO, bT, one]
  unfold aNy
  rw [cD.of_l, show aUv = ByteArray.mk #[46] from rfl]
  cases p.a1 == 1 <;> cases aGB s p.a0 p.a3 <;> simp -implicitDefEqProofs only [aE, aD, Bool.and_self, Bool.and_true, Bool.and_false, Bool.true_and, Bool.false_and, Bool.false_eq_true, if_false]
end
end Go.Vs
end
section
open Go Go.Vs Go.Proofs
set_option linter.unusedVariables false
set_option linter.unusedSimpArgs false
namespace Go.Vs
section
variable {x0_0 : List (List (aC false))} {x0_1 : List (List (aC false))} {x0_2 : List (List (aC false))} {x1 : ByteArray} {x2 : List (List (aC false))}
theorem aWo (h : bM [.sl fP x0_0, .sl fP x0_1, .sl fP x0_2]) (c : Fl true) (n : Int) (hn : 0 ≤ n) : Dd F.aXW [.agg [.sl c (reE (fl c) x0_0), .sl c (reE (fl c) x0_1), .sl c (reE (fl c) x0_2)], .leaf (.int .i64 n)] [] = some (.leaf (.int .i64 (szL [.sl fP x0_0, .sl fP x0_1, .sl fP x0_2] n)), []) :=
  sK rfl (aLd h hn) (by
    have t0 := aI8 c [.sl fP x0_0, .sl fP x0_1, .sl fP x0_2]
    simp only [reL, reF] at t0
    rw [List.map_cons, t0]; rfl) rfl rfl
theorem aWp (h : bM [.sl fP x0_0, .sl fP x0_1, .sl fP x0_2]) (c c' : Fl true) : Dd F.aX6 [.agg [.sl c (reE (fl c) x0_0), .sl c (reE (fl c) x0_1), .sl c (reE (fl c) x0_2)], .agg [.sl c' (reE (fl c') x0_0), .sl c' (reE (fl c') x0_1), .sl c' (reE (fl c') x0_2)]] [] = some (.leaf (.bool true), []) :=
  sK rfl (aLa h) (by
    have t0 := aI8 c [.sl fP x0_0, .sl fP x0_1, .sl fP x0_2]
    simp only [reL, reF] at t0
    have t := aI8 c' [.sl fP x0_0, .sl fP x0_1, .sl fP x0_2]
    simp only [reL, reF] at t
    rw [List.map_cons, List.map_cons, t0, t]; rfl) rfl rfl
theorem aWj (h : bM [.sl fP x0_0, .sl fP x0_1, .sl fP x0_2]) (ht : tL [.sl fP x0_0, .sl fP x0_1, .sl fP x0_2] ≤ 1048576) (c : Fl true) : Dd F.aX1 [.agg [.sl c (reE (fl c) x0_0), .sl c (reE (fl c) x0_1), .sl c (reE (fl c) x0_2)]] [] = some (.agg [.sl aQ (reE (fl aQ) x0_0), .sl aQ (reE (fl aQ) x0_1), .sl aQ (reE (fl aQ) x0_2)], []) := by
  have := aLx (c := c) h ht
  simpa only [reL, reF] using this
theorem aWi (h : bM [.sl fP x0_0, .sl fP x0_1, .sl fP x0_2]) (k : Int) : Dd F.aXi [.agg [.sl fW (soE x0_0), .sl fW (soE x0_1), .sl fW (soE x0_2)], .leaf (.int .i64 k)] [] = some (.leaf (.int .i64 (msL [.sl fP x0_0, .sl fP x0_1, .sl fP x0_2] (k))), []) := by
  have := aIp h k
  simpa only [saL, saF] using this
theorem aWk (hl : x2.length ≤ maxLen) (h : ∀ e ∈ x2, eC e) (c : Fl true) (n : Int) (hn : 0 ≤ n) : Dd F.aYF [.leaf (.sl c (reE (fl c) x2)), .leaf (.int .i64 n)] [] = some (.leaf (.int .i64 (szF (.sl fP x2) n)), []) :=
  sK rfl (aNp hl h hn) (by
    rw [List.map_cons, aG5]; rfl) rfl rfl
theorem aWl (hl : x2.length ≤ maxLen) (h : ∀ e ∈ x2, eC e) (c c' : Fl true) : Dd F.aYL [.leaf (.sl c (reE (fl c) x2)), .leaf (.sl c' (reE (fl c') x2))] [] = some (.leaf (.bool true), []) :=
  sK rfl (aNq hl h) (by
    rw [List.map_cons, List.map_cons, aG5, aG5]; rfl) rfl rfl
theorem aWm (h : ∀ e ∈ x2, eC e) (ht : x2.length + tE x2 ≤ 1048576) (c : Fl true) : Dd F.aYu [.leaf (.sl c (reE (fl c) x2))] [] = some (.leaf (.sl aQ (reE (fl aQ) x2)), []) := aNz ht h
theorem aWn (hl : x2.length ≤ maxLen) (h : ∀ e ∈ x2, eC e) (k : Int) : Dd F.aX2 [.leaf (.sl fW (soE x2)), .leaf (.int .i64 k)] [] = some (.leaf (.int .i64 (mkE x2 (k))), []) := aLE hl h k
theorem spd (h0 : bM [.sl fP x0_0, .sl fP x0_1, .sl fP x0_2]) (B0 : bdL 1048576 [.sl fP x0_0, .sl fP x0_1, .sl fP x0_2]) (l1 : x1.size ≤ 1048576) (l2 : x2.length ≤ 1048576) (h2 : ∀ e ∈ x2, eC e) (B2 : bdE 1048576 x2) (s2 : x2.length + tE x2 ≤ 1048576) (c0 c2 : Fl true) : Dd F.aWT [.agg [.sl c0 (reE (fl c0) x0_0), .sl c0 (reE (fl c0) x0_1), .sl c0 (reE (fl c0) x0_2)], .leaf (.str x1), .leaf (.sl c2 (reE (fl c2) x2))] [] = some (.own (some T.aYr) (reE (fl dK) (aBt (⟨x0_0, x0_1, x0_2⟩ : bU) x1 x2)), []) :=
  sK rfl (aER (s := (⟨x0_0, x0_1, x0_2⟩ : bU)) (o := x1) (es := x2) h0 B0 l1 l2 h2 B2) (by
    have t0 := aI8 c0 [.sl fP x0_0, .sl fP x0_1, .sl fP x0_2]
    simp only [reL, reF] at t0
    rw [List.map_cons, t0, List.map_cons, List.map_cons, aG5]; rfl) rfl rfl
theorem imd (h0 : bM [.sl fP x0_0, .sl fP x0_1, .sl fP x0_2]) (B0 : bdL 1048576 [.sl fP x0_0, .sl fP x0_1, .sl fP x0_2]) (l1 : x1.size ≤ 1048576) (l2 : x2.length ≤ 1048576) (h2 : ∀ e ∈ x2, eC e) (B2 : bdE 1048576 x2) (s2 : x2.length + tE x2 ≤ 1048576) (c0 c2 : Fl true) : Dd F.aWR [.agg [.sl c0 (reE (fl c0) x0_0), .sl c0 (reE (fl c0) x0_1), .sl c0 (reE (fl c0) x0_2)], .leaf (.str x1), .leaf (.sl c2 (reE (fl c2) x2))] [] = some (.own (some T.aYr) (reE (fl dK) (aBt (⟨x0_0, x0_1, x0_2⟩ : bU) x1 x2)), []) :=
  sK rfl (aEv (s := (⟨x0_0, x0_1, x0_2⟩ : bU)) (o := x1) (es := x2) h0 B0 l1 l2 h2 B2 s2) (by
    have t0 := aI8 c0 [.sl fP x0_0, .sl fP x0_1, .sl fP x0_2]
    simp only [reL, reF] at t0
    rw [List.map_cons, t0, List.map_cons, List.map_cons, aG5]; rfl) rfl rfl
theorem aV2 (h0 : bM [.sl fP x0_0, .sl fP x0_1, .sl fP x0_2]) (hl2 : x2.length ≤ maxLen) (h2 : ∀ e ∈ x2, eC e) (q1 : x1.size ≤ 1048576) (q0 : 0 ≤ szL [.sl fP x0_0, .sl fP x0_1, .sl fP x0_2] 1048576) (q2 : 0 ≤ szF (.sl fP x2) (szL [.sl fP x0_0, .sl fP x0_1, .sl fP x0_2] 1048576)) : aQr x0_0 x0_1 x0_2 x1 x2 (aBt (⟨x0_0, x0_1, x0_2⟩ : bU) x1 x2) := by
  have hm : maxLen = 9223372036854775807 := rfl
  have t0 := aRD [.sl fP x0_0, .sl fP x0_1, .sl fP x0_2] 1048576 h0.ok (by omega) (by simp only [cap]; omega) q0
  have B0 := aQ2 (B := 1048576) (by simp only [cap]; omega) [.sl fP x0_0, .sl fP x0_1, .sl fP x0_2] 1048576 h0.ok (by omega) (by omega) q0
  have ok2 : okF 16 (.sl fP x2) := ⟨hl2, kL fun e he => ⟨by have := (h2 e he).len; omega, (h2 e he).ok⟩⟩
  have t2 := aTa (z := 16) (.sl fP x2) (szL [.sl fP x0_0, .sl fP x0_1, .sl fP x0_2] 1048576) ok2 q0 (by simp only [cap]; omega) q2
  have bb2 := aTV (z := 16) (B := 1048576) (by simp only [cap]; omega) (.sl fP x2) (szL [.sl fP x0_0, .sl fP x0_1, .sl fP x0_2] 1048576) ok2 q0 (by omega) q2
  obtain ⟨l2, B2⟩ : x2.length ≤ 1048576 ∧ bdE 1048576 x2 := bb2
  have tt2 : (tF (.sl fP x2) : Int) = x2.length + tE x2 := by simp [tF]
  have s2 : x2.length + tE x2 ≤ 1048576 := by omega
  have l1 := q1
  have len := aQ5 (s := (⟨x0_0, x0_1, x0_2⟩ : bU)) (o := x1) (es := x2) h0 B0 l1 l2 h2 B2
  have k0 := aMs [.sl fP x0_0, .sl fP x0_1, .sl fP x0_2] (1) h0.ok (by omega) (by simp only [cap]; omega)
  have k2 := aRS x2 (msL [.sl fP x0_0, .sl fP x0_1, .sl fP x0_2] (1)) ok2.2 (by omega) (by simp only [cap]; omega)
  exact { wl := by omega, wc := by simp only [cap]; omega, wq := aMS (s := (⟨x0_0, x0_1, x0_2⟩ : bU)) (o := x1) (es := x2), spc := fun c0 c2 => spd h0 B0 l1 l2 h2 B2 s2 c0 c2, imp := fun c0 c2 => by rw [imd h0 B0 l1 l2 h2 B2 s2 c0 c2, aTO (φ := fl dK) (ψ := fl aQ) (fun e he => ((aMS (s := (⟨x0_0, x0_1, x0_2⟩ : bU)) (o := x1) (es := x2)) e he).nosl)], mn := by omega,
           to0 := aWj h0 (by omega), eq0 := aWp h0, mk0 := aWi h0, to2 := aWm h2 (by omega), eq2 := aWl hl2 h2, mk2 := aWn hl2 h2 }
end
end Go.Vs
end
section
namespace Go.Vs
variable {m : Bool} {P : Program} {c : Fl m}
theorem aPi {n : Nat} {t : TypeId} {ls : List (aC m)} (hu : P.underlying t = some .bool) (h : fB P c n t ls) : ∃ b, ls = [.bool b] := by
  cases n with
  | zero => exact h.elim
  | succ n => unfold fB at h; simp only [hu] at h; exact h
theorem aOz {n : Nat} {t : TypeId} {k : IntKind} {ls : List (aC m)} (hu : P.underlying t = some (.int k)) (h : fB P c n t ls) : ∃ z, ls = [.int k z] := by
  cases n with
  | zero => exact h.elim
  | succ n =>
    unfold fB at h
    simp only [hu] at h
    obtain ⟨z, e, _⟩ := h
    exact ⟨z, e⟩
theorem oA {n : Nat} {t : TypeId} {ls : List (aC m)} (hu : P.underlying t = some .string) (h : fB P c n t ls) : ∃ s : ByteArray, ls = [.str s] ∧ s.size ≤ maxLen := by
  cases n with
  | zero => exact h.elim
  | succ n => unfold fB at h; simp only [hu] at h; exact h
theorem tR {n : Nat} {t e : TypeId} {ls : List (aC m)} (hu : P.underlying t = some (.slice e)) (h : fB P c n t ls) : ∃ k es, n = k + 1 ∧ ls = [.sl c es] ∧ es.length ≤ maxLen ∧ ∀ x ∈ es, fB P c k e x := by
  cases n with
  | zero => exact h.elim
  | succ n =>
    unfold fB at h
    simp only [hu] at h
    obtain ⟨es, e1, e2, e3⟩ := h
    exact ⟨n, es, rfl, e1, e2, e3⟩
theorem nZ {n : Nat} {t : TypeId} {fs : Array Field} {ts : List TypeId} {ls : List (aC m)} (hu : P.underlying t = some (.struct fs)) (hts : fs.toList.map Field.type = ts) (h : fB P c n t ls) : ∃ k, n = k + 1 ∧ zC (fB P c k) ts ls := by
  subst hts
  cases n with
  | zero => exact h.elim
  | succ n =>
    unfold fB at h
    simp only [hu] at h
    exact ⟨n, rfl, h⟩
end Go.Vs
end
section
open Go Go.Vs Go.Proofs
set_option linter.unusedVariables false
set_option linter.unusedSimpArgs false
namespace Go.Vs
theorem aN0 {n : Nat} {ls : List (aC false)} (h : fB Tryz.prog fP n 196 ls) : nD ls := by
  obtain ⟨k, rfl, hh⟩ := nZ Tryz.underlying196 (ts := [9, 9]) (by kernel_rfl) h
  simp only [zC] at hh
  obtain ⟨a0, _, rfl, g0, a1, _, rfl, g1, rfl⟩ := hh
  obtain ⟨s0, rfl, h0⟩ := oA Tryz.underlying9 g0
  obtain ⟨s1, rfl, h1⟩ := oA Tryz.underlying9 g1
  exact .mk s0 s1 h0 h1
theorem aMv {n : Nat} {ls : List (aC false)} (h : fB Tryz.prog fP n 152 ls) : cS ls := by
  induction n using Nat.strongRecOn generalizing ls with
  | ind n ih =>
    obtain ⟨k, rfl, hh⟩ := nZ Tryz.underlying152 (ts := [3, 9, 150, 91]) (by kernel_rfl) h
    simp only [zC] at hh
    obtain ⟨a0, _, rfl, g0, a1, _, rfl, g1, a2, _, rfl, g2, a3, _, rfl, g3, rfl⟩ := hh
    obtain ⟨i0, rfl⟩ := aOz Tryz.underlying3 g0
    obtain ⟨s1, rfl, h1⟩ := oA Tryz.underlying9 g1
    obtain ⟨k2, e2, hk2, rfl, h2, g2⟩ := tR Tryz.underlying150 g2
    have q2 : ∀ e ∈ e2, cS e := fun e he => ih k2 (by omega) (g2 e he)
    obtain ⟨k3, e3, hk3, rfl, h3, g3⟩ := tR Tryz.underlying91 g3
    have q3 : ∀ e ∈ e3, jS e := fun e he => oA Tryz.underlying9 (g3 e he)
    exact .mk i0 s1 e2 e3 h1 h2 q2 h3 q3
theorem aPH {n : Nat} {ls : List (aC false)} (h : fB Tryz.prog fP n 154 ls) : gO ls := by
  obtain ⟨k, rfl, hh⟩ := nZ Tryz.underlying154 (ts := [9, 152]) (by kernel_rfl) h
  simp only [zC] at hh
  obtain ⟨a0, _, rfl, g0, a1, _, rfl, g1, rfl⟩ := hh
  obtain ⟨s0, rfl, h0⟩ := oA Tryz.underlying9 g0
  obtain ⟨i1, s2, e3, e4, rfl, h2, h3, q3, h4, q4⟩ := (aMv g1).ex
  exact .mk s0 i1 s2 e3 e4 h0 h2 h3 q3 h4 q4
theorem aED {n : Nat} {ls : List (aC false)} (h : fB Tryz.prog fP n 157 ls) : eQ ls := by
  obtain ⟨k, rfl, hh⟩ := nZ Tryz.underlying157 (ts := [9, 48]) (by kernel_rfl) h
  simp only [zC] at hh
  obtain ⟨a0, _, rfl, g0, a1, _, rfl, g1, rfl⟩ := hh
  obtain ⟨s0, rfl, h0⟩ := oA Tryz.underlying9 g0
  obtain ⟨k1, e1, hk1, rfl, h1, g1⟩ := tR Tryz.underlying48 g1
  have q1 : ∀ e ∈ e1, gO e := fun e he => aPH (g1 e he)
  exact .mk s0 e1 h0 h1 q1
theorem aMt {n : Nat} {ls : List (aC false)} (h : fB Tryz.prog fP n 201 ls) : dB ls := by
  obtain ⟨k, rfl, hh⟩ := nZ Tryz.underlying201 (ts := [9, 9, 196, 4, 152, 49]) (by kernel_rfl) h
  simp only [zC] at hh
  obtain ⟨a0, _, rfl, g0, a1, _, rfl, g1, a2, _, rfl, g2, a3, _, rfl, g3, a4, _, rfl, g4, a5, _, rfl, g5, rfl⟩ := hh
  obtain ⟨s0, rfl, h0⟩ := oA Tryz.underlying9 g0
  obtain ⟨s1, rfl, h1⟩ := oA Tryz.underlying9 g1
  obtain ⟨s2, s3, rfl, h2, h3⟩ := (aN0 g2).ex
  obtain ⟨b4, rfl⟩ := aPi Tryz.underlying4 g3
  obtain ⟨i5, s6, e7, e8, rfl, h6, h7, q7, h8, q8⟩ := (aMv g4).ex
  obtain ⟨k9, e9, hk9, rfl, h9, g5⟩ := tR Tryz.underlying49 g5
  have q9 : ∀ e ∈ e9, eQ e := fun e he => aED (g5 e he)
  exact .mk s0 s1 s2 s3 b4 i5 s6 e7 e8 e9 h0 h1 h2 h3 h6 h7 q7 h8 q8 h9 q9
theorem aNn {n : Nat} {ls : List (aC false)} (h : fB Tryz.prog fP n 198 ls) : cC ls := by
  obtain ⟨k, rfl, hh⟩ := nZ Tryz.underlying198 (ts := [9, 9, 93, 196, 49]) (by kernel_rfl) h
  simp only [zC] at hh
  obtain ⟨a0, _, rfl, g0, a1, _, rfl, g1, a2, _, rfl, g2, a3, _, rfl, g3, a4, _, rfl, g4, rfl⟩ := hh
  obtain ⟨s0, rfl, h0⟩ := oA Tryz.underlying9 g0
  obtain ⟨s1, rfl, h1⟩ := oA Tryz.underlying9 g1
  obtain ⟨k2, e2, hk2, rfl, h2, g2⟩ := tR Tryz.underlying93 g2
  have q2 : ∀ e ∈ e2, dB e := fun e he => aMt (g2 e he)
  obtain ⟨s3, s4, rfl, h3, h4⟩ := (aN0 g3).ex
  obtain ⟨k5, e5, hk5, rfl, h5, g4⟩ := tR Tryz.underlying49 g4
  have q5 : ∀ e ∈ e5, eQ e := fun e he => aED (g4 e he)
  exact .mk s0 s1 e2 s3 s4 e5 h0 h1 h2 q2 h3 h4 h5 q5
theorem aOo {n : Nat} {ls : List (aC false)} (h : fB Tryz.prog fP n 204 ls) : cX ls := by
  obtain ⟨k, rfl, hh⟩ := nZ Tryz.underlying204 (ts := [9, 9, 49]) (by kernel_rfl) h
  simp only [zC] at hh
  obtain ⟨a0, _, rfl, g0, a1, _, rfl, g1, a2, _, rfl, g2, rfl⟩ := hh
  obtain ⟨s0, rfl, h0⟩ := oA Tryz.underlying9 g0
  obtain ⟨s1, rfl, h1⟩ := oA Tryz.underlying9 g1
  obtain ⟨k2, e2, hk2, rfl, h2, g2⟩ := tR Tryz.underlying49 g2
  have q2 : ∀ e ∈ e2, eQ e := fun e he => aED (g2 e he)
  exact .mk s0 s1 e2 h0 h1 h2 q2
theorem aNI {n : Nat} {ls : List (aC false)} (h : fB Tryz.prog fP n 99 ls) : eV ls := by
  obtain ⟨k, rfl, hh⟩ := nZ Tryz.underlying99 (ts := [3, 9]) (by kernel_rfl) h
  simp only [zC] at hh
  obtain ⟨a0, _, rfl, g0, a1, _, rfl, g1, rfl⟩ := hh
  obtain ⟨i0, rfl⟩ := aOz Tryz.underlying3 g0
  obtain ⟨s1, rfl, h1⟩ := oA Tryz.underlying9 g1
  exact .mk i0 s1 h1
theorem aPq {n : Nat} {ls : List (aC false)} (h : fB Tryz.prog fP n 96 ls) : fC ls := by
  obtain ⟨k, rfl, hh⟩ := nZ Tryz.underlying96 (ts := [3, 4, 9, 9, 91, 92, 93, 94, 23, 4, 49]) (by kernel_rfl) h
  simp only [zC] at hh
  obtain ⟨a0, _, rfl, g0, a1, _, rfl, g1, a2, _, rfl, g2, a3, _, rfl, g3, a4, _, rfl, g4, a5, _, rfl, g5, a6, _, rfl, g6, a7, _, rfl, g7, a8, _, rfl, g8, a9, _, rfl, g9, a10, _, rfl, g10, rfl⟩ := hh
  obtain ⟨i0, rfl⟩ := aOz Tryz.underlying3 g0
  obtain ⟨b1, rfl⟩ := aPi Tryz.underlying4 g1
  obtain ⟨s2, rfl, h2⟩ := oA Tryz.underlying9 g2
  obtain ⟨s3, rfl, h3⟩ := oA Tryz.underlying9 g3
  obtain ⟨k4, e4, hk4, rfl, h4, g4⟩ := tR Tryz.underlying91 g4
  have q4 : ∀ e ∈ e4, jS e := fun e he => oA Tryz.underlying9 (g4 e he)
  obtain ⟨k5, e5, hk5, rfl, h5, g5⟩ := tR Tryz.underlying92 g5
  have q5 : ∀ e ∈ e5, cC e := fun e he => aNn (g5 e he)
  obtain ⟨k6, e6, hk6, rfl, h6, g6⟩ := tR Tryz.underlying93 g6
  have q6 : ∀ e ∈ e6, dB e := fun e he => aMt (g6 e he)
  obtain ⟨k7, e7, hk7, rfl, h7, g7⟩ := tR Tryz.underlying94 g7
  have q7 : ∀ e ∈ e7, cX e := fun e he => aOo (g7 e he)
  obtain ⟨k8, e8, hk8, rfl, h8, g8⟩ := tR Tryz.underlying23 g8
  have q8 : ∀ e ∈ e8, eV e := fun e he => aNI (g8 e he)
  obtain ⟨b9, rfl⟩ := aPi Tryz.underlying4 g9
  obtain ⟨k10, e10, hk10, rfl, h10, g10⟩ := tR Tryz.underlying49 g10
  have q10 : ∀ e ∈ e10, eQ e := fun e he => aED (g10 e he)
  exact .mk i0 b1 s2 s3 e4 e5 e6 e7 e8 b9 e10 h2 h3 h4 q4 h5 q5 h6 q6 h7 q7 h8 q8 h10 q10
theorem aPI {n : Nat} {ls : List (aC false)} (h : fB Tryz.prog fP n 25 ls) : bM ls := by
  obtain ⟨k, rfl, hh⟩ := nZ Tryz.underlying25 (ts := [22, 22, 23]) (by kernel_rfl) h
  simp only [zC] at hh
  obtain ⟨a0, _, rfl, g0, a1, _, rfl, g1, a2, _, rfl, g2, rfl⟩ := hh
  obtain ⟨k0, e0, hk0, rfl, h0, g0⟩ := tR Tryz.underlying22 g0
  have q0 : ∀ e ∈ e0, fC e := fun e he => aPq (g0 e he)
  obtain ⟨k1, e1, hk1, rfl, h1, g1⟩ := tR Tryz.underlying22 g1
  have q1 : ∀ e ∈ e1, fC e := fun e he => aPq (g1 e he)
  obtain ⟨k2, e2, hk2, rfl, h2, g2⟩ := tR Tryz.underlying23 g2
  have q2 : ∀ e ∈ e2, eV e := fun e he => aNI (g2 e he)
  exact .mk e0 e1 e2 h0 q0 h1 q1 h2 q2
theorem aT2 {n : Nat} {ls : List (aC false)} (h : fB Tryz.prog fP n 51 ls) : eC ls := by
  induction n using Nat.strongRecOn generalizing ls with
  | ind n ih =>
    obtain ⟨k, rfl, hh⟩ := nZ Tryz.underlying51 (ts := [3, 9, 9, 9, 48, 49, 26]) (by kernel_rfl) h
    simp only [zC] at hh
    obtain ⟨a0, _, rfl, g0, a1, _, rfl, g1, a2, _, rfl, g2, a3, _, rfl, g3, a4, _, rfl, g4, a5, _, rfl, g5, a6, _, rfl, g6, rfl⟩ := hh
    obtain ⟨i0, rfl⟩ := aOz Tryz.underlying3 g0
    obtain ⟨s1, rfl, h1⟩ := oA Tryz.underlying9 g1
    obtain ⟨s2, rfl, h2⟩ := oA Tryz.underlying9 g2
    obtain ⟨s3, rfl, h3⟩ := oA Tryz.underlying9 g3
    obtain ⟨k4, e4, hk4, rfl, h4, g4⟩ := tR Tryz.underlying48 g4
    have q4 : ∀ e ∈ e4, gO e := fun e he => aPH (g4 e he)
    obtain ⟨k5, e5, hk5, rfl, h5, g5⟩ := tR Tryz.underlying49 g5
    have q5 : ∀ e ∈ e5, eQ e := fun e he => aED (g5 e he)
    obtain ⟨k6, e6, hk6, rfl, h6, g6⟩ := tR Tryz.underlying26 g6
    have q6 : ∀ e ∈ e6, eC e := fun e he => ih k6 (by omega) (g6 e he)
    exact .mk i0 s1 s2 s3 e4 e5 e6 h1 h2 h3 h4 q4 h5 q5 h6 q6
theorem aVv {n : Nat} {ls : List (aC false)} (h : fB Tryz.prog fP n 26 ls) : ∃ x : List El, ls = [.sl fP x] ∧ x.length ≤ maxLen ∧ ∀ e ∈ x, eC e := by
  obtain ⟨k, x, hk, rfl, h1, g⟩ := tR Tryz.underlying26 h
  exact ⟨x, rfl, h1, fun e he => aT2 (g e he)⟩
end Go.Vs
end
section
set_option linter.unusedVariables false
namespace Go.Vs
theorem aRd {H : Type} {enc : TypeId × Value → H} {P : Program} {w : World} {base : Nat} {spare : Nat → Bool} {held : Bool} {fuel : Nat} {t : TypeId} {cs : List Value} {x : DataW H × List MemPlace} {ms : Array (String × TypeId)}
    (ht : P.underlying t = some (.interface ms)) (h : DataW.trod enc P w base spare held fuel t cs = some x) : cs = [.nilIface] ∨ ∃ u v, cs = [.iface u v] := by
  cases fuel with
  | zero => simp [DataW.trod] at h
  | succ n =>
    unfold DataW.trod at h
    rw [ht] at h
    split at h <;> simp_all
theorem aMC {P : Program} {w : World} {n : String} {d : DataW Unit} {g t : Nat} {ms : Array (String × TypeId)} (hg : P.globalNamed n = some g) (ht : (P.globals[g]?).map (·.type) = some t) (hu : P.underlying t = some (.interface ms)) :
    ∀ {l : List (String × DataW Unit)} {ps : List MemPlace}, DataW.LaidVars P w l ps → (n, d) ∈ l → ∃ ev, w.cell? ⟨g, 0, none⟩ = some ev ∧ (ev = .nilIface ∨ ∃ te pe, ev = .iface te pe)
  | [], _, _, hm => by cases hm
  | (n', d') :: r, ps, h, hm => by
    obtain ⟨g', t', cs, fuel, p, q, hg', ht', hv, hd, hr, _⟩ := h
    rcases List.mem_cons.1 hm with e | hm
    · obtain ⟨rfl, rfl⟩ := Prod.mk.inj e
      obtain rfl := Option.some.inj (hg.symm.trans hg')
      obtain rfl := Option.some.inj (ht.symm.trans ht')
      have hc := World.var?_cell hg hv 0
      obtain ⟨l⟩ := cs
      rcases aRd hu hd with e | ⟨u, v, e⟩
      · simp at e; subst e
        exact ⟨_, hc, .inl rfl⟩
      · simp at e; subst e
        exact ⟨_, hc, .inr ⟨u, v, rfl⟩⟩
    · exact aMC hg ht hu hr hm
end Go.Vs
end
