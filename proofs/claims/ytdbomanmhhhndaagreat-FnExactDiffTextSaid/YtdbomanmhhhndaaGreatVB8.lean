/- What the program's functions compute, read off their text by the shadow runner (VOj, VOk, VOn, VOo, VOp, VOq, VOu, VOl, VOv, VOw, VsOnce, VOs, VOx, VOy, VOz); no condition. -/
import Derived.Lib.SlicesCompact
import Derived.Test.YtdbomanmhhhndaaGreatVB7
section
open Go Go.Vs Go.Proofs
set_option linter.unusedVariables false
set_option linter.unusedSimpArgs false
namespace Go.Vs.Old
open Classical in
noncomputable def yY (n1 w1 n2 w2 : ByteArray) : Bool := if h : w1.size ≤ maxLen ∧ w2.size ≤ maxLen then Classical.choose (aHp n1 n2 _ w1 w2 rfl h.1 h.2) else false
theorem aGh {n1 w1 n2 w2 : ByteArray} (h1 : w1.size ≤ maxLen) (h2 : w2.size ≤ maxLen) : Dn F.aSS [.agg [.str n1, .str w1], .agg [.str n2, .str w2]] [] = some (aN (yY n1 w1 n2 w2), []) := by
  have h : w1.size ≤ maxLen ∧ w2.size ≤ maxLen := ⟨h1, h2⟩
  refine aW ?_
  rw [aDx]
  unfold yY
  rw [dif_pos h]
  exact (Classical.choose_spec (aHp n1 n2 _ w1 w2 rfl h.1 h.2)).1
theorem aFV {n1 w1 n2 w2 : ByteArray} (h1 : w1.size ≤ maxLen) (h2 : w2.size ≤ maxLen) : Dn F.aSZ [.agg [.str n1, .str w1], .agg [.str n2, .str w2]] [] = some (aN (yY n1 w1 n2 w2), []) := by
  have h : w1.size ≤ maxLen ∧ w2.size ≤ maxLen := ⟨h1, h2⟩
  unfold yY
  rw [dif_pos h]
  exact (Classical.choose_spec (aHp n1 n2 _ w1 w2 rfl h.1 h.2)).2
def dJ (s : ByteArray) : Int → List (List (aA false)) → Int
  | _, [] => -1
  | i, e :: es => if ((aY e 0).toList == s.toList) = true then i else dJ s (i + 1) es
theorem aJA {es : List (List (aA false))} {s : ByteArray} (hl : es.length ≤ maxLen) (hq : ∀ e ∈ es, cI e) : ∀ i : Nat, i ≤ es.length →
    mU Dn (uK es s i) = some (aG (dJ s i (es.drop i)), []) := by
  refine cC ?_ ?_
  · rw [aBD]; simp [dJ]
  · intro i hi ih
    obtain ⟨s0, s1, s2, s3, b4, i5, s6, e7, e8, e9, he, h0, h1, h2, h3, h6, h7, q7, h8, q8, h9, q9⟩ := (hq _ (List.getElem_mem hi)).ex
    rw [aBD, dG hi]
    simp only [Int.ofNat_lt, hi, decide_true, aF, Int.natCast_nonneg, Bool.and_true, Int.toNat_natCast, aC, bC (Nat.lt_of_lt_of_le hi hl), aQ (fun e he => (hq e he).len), aZ hi]
    rw [he]
    simp only [bY, bX, bO, dJ, aY, List.getElem?_cons_zero, ih]
    by_cases hx : (s0.toList == s.toList) = true <;> simp [hx]
theorem aH3 {es : List (List (aA false))} {s : ByteArray} (hl : es.length ≤ maxLen) (hq : ∀ e ∈ es, cI e) : Dn F.aUE [vsl es, .leaf (.str s)] [] = some (aG (dJ s 0 es), []) := by
  refine aW ?_
  rw [aKs]
  exact aJA hl hq 0 (Nat.zero_le _)
theorem aKq {e : List (aA false)} {s : ByteArray} (h : cI e) : Dn F.aT3 [.agg e, .ptr 0 0] [[.leaf (.str s)]] = some (aN ((aY e 0).toList == s.toList), [[.leaf (.str s)]]) := by
  cases h
  refine aW ?_
  rw [aIo]
  rfl
theorem aLI {es : List (List (aA false))} {s : ByteArray} (hl : es.length ≤ maxLen) (hq : ∀ e ∈ es, cI e) : ∀ i : Nat, i ≤ es.length →
    bP Dn (cL es F.aT3 es.length i s) = some (aG (dJ s i (es.drop i)), [[.leaf (.str s)]]) := by
  refine cC ?_ ?_
  · rw [fF]; simp [dJ]
  · intro i hi ih
    have hci := aKq (s := s) (hq _ (List.getElem_mem hi))
    obtain ⟨s0, s1, s2, s3, b4, i5, s6, e7, e8, e9, he, h0, h1, h2, h3, h6, h7, q7, h8, q8, h9, q9⟩ := (hq _ (List.getElem_mem hi)).ex
    rw [fF, dG hi]
    simp only [Int.ofNat_lt, hi, decide_true, aF, Int.natCast_nonneg, Bool.and_true, Int.toNat_natCast, aC, bC (Nat.lt_of_lt_of_le hi hl), aQ (fun e he => (hq e he).len), aZ hi]
    rw [he] at hci ⊢
    simp only [dI, bY, dC, cX, bX, bZ, eW, hci, Option.bind_some, lV, fA, bV, gH, kM, bO, dJ, aY, List.getElem?_cons_zero, ih]
    by_cases hx : (s0.toList == s.toList) = true <;> simp [hx]
theorem aH7 {es : List (List (aA false))} {s : ByteArray} (hl : es.length ≤ maxLen) (hq : ∀ e ∈ es, cI e) : Dn F.aUC [vsl es, .leaf (.str s)] [] = some (aG (dJ s 0 es), []) := by
  have key : Dn F.aSs [vsl es, .fn F.aT3 [.ptr 0 0]] [[.leaf (.str s)]] = some (aG (dJ s 0 es), [[.leaf (.str s)]]) := by
    refine aW ?_
    rw [kU]
    exact aLI hl hq 0 (Nat.zero_le _)
  refine aW ?_
  rw [aKk, key]
  simp
theorem aGg (s : ByteArray) : ∀ (es : List (List (aA false))) (i : Int), 0 ≤ i → dJ s i es = -1 ∨ (i ≤ dJ s i es ∧ dJ s i es < i + es.length)
  | [], i, h => .inl rfl
  | e :: es, i, h => by
    unfold dJ
    split
    · right; simp; omega
    · rcases aGg s es (i + 1) (by omega) with h1 | h1
      · exact .inl h1
      · right; simp only [List.length_cons]; push_cast; omega
mutual
def eqF : aA false → aA false → Bool
  | .int _ a, .int _ b => a == b
  | .str a, .str b => a.toList == b.toList
  | .bool a, .bool b => a == b
  | .sl _ a, .sl _ b => eqE a b
  | _, _ => false
def eqL : List (aA false) → List (aA false) → Bool
  | [], [] => true
  | a :: r, b :: s => eqF a b && eqL r s
  | _, _ => false
def eqE : List (List (aA false)) → List (List (aA false)) → Bool
  | [], [] => true
  | a :: r, b :: s => eqL a b && eqE r s
  | _, _ => false
end
theorem aFG : ∀ (a b : List (List (aA false))), eqE a b = true → a.length = b.length
  | [], [], _ => rfl
  | _ :: r, _ :: s, h => by
    rw [eqE, Bool.and_eq_true] at h
    rw [List.length_cons, List.length_cons, aFG r s h.2]
  | [], _ :: _, h => by simp [eqE] at h
  | _ :: _, [], h => by simp [eqE] at h
theorem aJH {β : Type} {A : Int → Option β} {no yes : Option β} {a b : List (List (aA false))} (hla : a.length ≤ maxLen) (hlen : a.length = b.length) (qa : ∀ e ∈ a, dP e) (qb : ∀ e ∈ b, dP e)
    (hend : A a.length = yes) (hstep : ∀ (i : Nat) (hi : i < a.length), A i = aD (!((aY a[i] 0).toList == (aY (b[i]'(by omega)) 0).toList)) no (A ((i + 1 : Nat) : Int))) :
    ∀ i : Nat, i ≤ a.length → A i = if eqE (a.drop i) (b.drop i) = true then yes else no := by
  refine cC ?_ ?_
  · rw [hend, List.drop_length, hlen, List.drop_length]; simp [eqE]
  · intro i hi ih
    rw [hstep i hi, ih, dG hi, dG (show i < b.length by omega)]
    obtain ⟨s, hs, _⟩ := qa _ (List.getElem_mem hi)
    obtain ⟨u, hu, _⟩ := qb _ (List.getElem_mem (show i < b.length by omega))
    simp only [hs, hu, aY, List.getElem?_cons_zero, eqE, eqL, eqF, bO, Bool.and_true]
    cases hx : (s.toList == u.toList) <;> simp
theorem aJ4 {a b : List (List (aA false))} (ha : a.length ≤ maxLen) (qa : ∀ e ∈ a, dP e) (qb : ∀ e ∈ b, dP e) : Dn F.aSB [vsl a, vsl b] [] = some (aN (eqE a b), []) := by
  refine aW ?_
  rw [rW]
  by_cases hlen : a.length = b.length
  · have hne : (((a.length : Nat) : Int) != ((b.length : Nat) : Int)) = false := by simp [hlen]
    rw [hne, aI]
    have := aJH (A := fun i => cU Dn (eA a b a.length i)) (no := some (aN false, [])) (yes := some (aN true, [])) ha hlen qa qb (by
      rw [kV]; simp) (fun i hi => by
      obtain ⟨s, hs, _⟩ := qa _ (List.getElem_mem hi)
      have hib : i < b.length := by omega
      obtain ⟨u, hu, _⟩ := qb _ (List.getElem_mem hib)
      rw [kV]
      simp only [Int.ofNat_lt, hi, hib, decide_true, aF, Int.natCast_nonneg, Bool.and_true, Int.toNat_natCast, aC, bC (Nat.lt_of_lt_of_le hi ha), aQ (fun e he => (qa e he).len), aQ (fun e he => (qb e he).len), aZ hi, aZ hib, hs, hu, bY, bX, aY, List.getElem?_cons_zero]) 0 (Nat.zero_le _)
    simp only [List.drop_zero] at this
    rw [show ((0 : Int)) = ((0 : Nat) : Int) from rfl, this]
    cases eqE a b <;> rfl
  · have hne : (((a.length : Nat) : Int) != ((b.length : Nat) : Int)) = true := by simp; omega
    have : eqE a b = false := by rw [Bool.eq_false_iff]; exact fun h => hlen (aFG a b h)
    rw [hne, this]; rfl
theorem aJ0 {β : Type} {A : Int → Option β} {no yes : Option β} {a b : List (List (aA false))} (hlen : a.length = b.length)
    (hend : A a.length = yes) (hstep : ∀ (i : Nat) (hi : i < a.length), A i = aD (!(eqL a[i] (b[i]'(by omega)))) no (A ((i + 1 : Nat) : Int))) :
    ∀ i : Nat, i ≤ a.length → A i = if eqE (a.drop i) (b.drop i) = true then yes else no := by
  refine cC ?_ ?_
  · rw [hend, List.drop_length, hlen, List.drop_length]; simp [eqE]
  · intro i hi ih
    rw [hstep i hi, ih, dG hi, dG (show i < b.length by omega)]
    simp only [eqE, bO]
    by_cases hx : eqL a[i] (b[i]'(by omega)) = true <;> simp [hx]
theorem aH6 {x : List (aA false)} (hx : dM x) : ∀ {y : List (aA false)}, dM y → Dn F.aS2 [.agg x, .agg y] [] = some (aN (eqL x y), []) ∧ Dn F.aS3 [.agg x, .agg y] [] = some (aN (eqL x y), []) := by
  induction hx with
  | mk i0 s1 e2 e3 h1 h2 q2 h3 q3 ih =>
    intro y hy
    cases hy with
    | mk j0 t1 f2 f3 g1 g2 r2 g3 r3 =>
      have step : ∀ (i : Nat) (hi : i < e2.length) (hib : i < f2.length), Dn F.aS2 [.agg e2[i], .agg f2[i]] [] = some (aN (eqL e2[i] f2[i]), []) ∧ Dn F.aS3 [.agg e2[i], .agg f2[i]] [] = some (aN (eqL e2[i] f2[i]), []) :=
        fun i hi hib => ih _ (List.getElem_mem hi) (r2 _ (List.getElem_mem hib))
      have val : eqL [.int .i64 i0, .str s1, .sl fP e2, .sl fP e3] [.int .i64 j0, .str t1, .sl fP f2, .sl fP f3] = ((i0 == j0) && ((s1.toList == t1.toList) && (eqE e2 f2 && eqE e3 f3))) := by
        simp only [eqL, eqF, Bool.and_true]
      rw [val]
      constructor
      · have hE : Dn F.aSn [vsl e2, vsl f2, .fn F.aS2 []] [] = some (aN (eqE e2 f2), []) := by
          refine aW ?_
          rw [fK]
          by_cases hlen : e2.length = f2.length
          · have hne : (((e2.length : Nat) : Int) != ((f2.length : Nat) : Int)) = false := by simp [hlen]
            rw [hne, aI]
            have := aJ0 (A := fun i => aX Dn (bQ f2 F.aS2 e2 e2.length i)) (no := some (aN false, [])) (yes := some (aN true, [])) hlen (by
              rw [dL]; simp) (fun i hi => by
              have hib : i < f2.length := by omega
              have hc := (step i hi hib).1
              obtain ⟨a0, a1, a2, a3, ha, _⟩ := (q2 _ (List.getElem_mem hi)).ex
              obtain ⟨b0, b1, b2, b3, hb, _⟩ := (r2 _ (List.getElem_mem hib)).ex
              rw [dL]
              rw [ha, hb] at hc
              simp only [Int.ofNat_lt, hi, hib, decide_true, aF, Int.natCast_nonneg, Bool.and_true, Int.toNat_natCast, aC, bC (Nat.lt_of_lt_of_le hi h2), aQ (fun e he => (q2 e he).len), aQ (fun e he => (r2 e he).len), aZ hi, aZ hib, ha, hb, dI, bY, dC, cX, bX, eW, hc, Option.bind_some, kM, bV, bZ]) 0 (Nat.zero_le _)
            simp only [List.drop_zero] at this
            rw [show ((0 : Int)) = ((0 : Nat) : Int) from rfl, this]
            cases eqE e2 f2 <;> rfl
          · have hne : (((e2.length : Nat) : Int) != ((f2.length : Nat) : Int)) = true := by simp; omega
            have : eqE e2 f2 = false := by rw [Bool.eq_false_iff]; exact fun h => hlen (aFG _ _ h)
            rw [hne, this]; rfl
        refine aW ?_
        rw [aEJ, aJ4 h3 q3 r3]
        simp only [Option.bind_some, bV, bZ, hE, kM]
        cases (i0 == j0) <;> cases (s1.toList == t1.toList) <;> cases eqE e3 f3 <;> cases eqE e2 f2 <;> rfl
      · have s2 : e2.length = f2.length → cD Dn (kK 0 i0 s1 e2 e3 j0 t1 f2 f3) = some (aN (eqE e2 f2), []) := fun hlen => by
          have := aJ0 (A := fun i => cD Dn (kK i i0 s1 e2 e3 j0 t1 f2 f3)) (no := some (aN false, [])) (yes := some (aN true, [])) hlen (by
            rw [vG]; simp) (fun i hi => by
            have hib : i < f2.length := by omega
            have hc := (step i hi hib).2
            obtain ⟨a0, a1, a2, a3, ha, _⟩ := (q2 _ (List.getElem_mem hi)).ex
            obtain ⟨b0, b1, b2, b3, hb, _⟩ := (r2 _ (List.getElem_mem hib)).ex
            rw [vG]
            rw [ha, hb] at hc
            simp only [Int.ofNat_lt, hi, hib, decide_true, aF, Int.natCast_nonneg, Bool.and_true, Int.toNat_natCast, aC, bC (Nat.lt_of_lt_of_le hi h2), aQ (fun e he => (q2 e he).len), aQ (fun e he => (r2 e he).len), aZ hi, aZ hib, ha, hb, dI, bY, dC, cX, bX, eW, hc, Option.bind_some, kM, bV, bZ]) 0 (Nat.zero_le _)
          simp only [List.drop_zero] at this
          rw [show ((0 : Int)) = ((0 : Nat) : Int) from rfl, this]
          cases eqE e2 f2 <;> rfl
        have s1' : e2.length = f2.length → e3.length = f3.length → cD Dn (kL 0 i0 s1 e2 e3 j0 t1 f2 f3) = some (aN (eqE e2 f2 && eqE e3 f3), []) := fun hl2 hl3 => by
          have := aJH (A := fun i => cD Dn (kL i i0 s1 e2 e3 j0 t1 f2 f3)) (no := some (aN false, [])) (yes := some (aN (eqE e2 f2), [])) h3 hl3 q3 r3 (by
            rw [vK, s2 hl2]; simp) (fun i hi => by
            obtain ⟨s, hs, _⟩ := q3 _ (List.getElem_mem hi)
            have hib : i < f3.length := by omega
            obtain ⟨u, hu, _⟩ := r3 _ (List.getElem_mem hib)
            rw [vK]
            simp only [Int.ofNat_lt, hi, hib, decide_true, aF, Int.natCast_nonneg, Bool.and_true, Int.toNat_natCast, aC, bC (Nat.lt_of_lt_of_le hi h3), aQ (fun e he => (q3 e he).len), aQ (fun e he => (r3 e he).len), aZ hi, aZ hib, hs, hu, bY, bX, aY, List.getElem?_cons_zero]) 0 (Nat.zero_le _)
          simp only [List.drop_zero] at this
          rw [show ((0 : Int)) = ((0 : Nat) : Int) from rfl, this]
          cases eqE e3 f3 <;> simp
        refine aW ?_
        rw [aEW]
        simp only [aDS, aF, bO]
        by_cases hi : i0 = j0
        · subst hi
          cases hs : (s1.toList == t1.toList) with
          | true =>
            by_cases hl2 : e2.length = f2.length
            · by_cases hl3 : e3.length = f3.length
              · have n3 : (((e3.length : Nat) : Int) != ((f3.length : Nat) : Int)) = false := by simp [hl3]
                have n2 : (((e2.length : Nat) : Int) != ((f2.length : Nat) : Int)) = false := by simp [hl2]
                rw [s1' hl2 hl3]
                simp [n2, n3]
              · have : eqE e3 f3 = false := by rw [Bool.eq_false_iff]; exact fun h => hl3 (aFG _ _ h)
                have n3 : (((e3.length : Nat) : Int) != ((f3.length : Nat) : Int)) = true := by simp; omega
                simp [n3, this]
            · have : eqE e2 f2 = false := by rw [Bool.eq_false_iff]; exact fun h => hl2 (aFG _ _ h)
              have n2 : (((e2.length : Nat) : Int) != ((f2.length : Nat) : Int)) = true := by simp; omega
              simp [n2, this]
          | false => simp
        · have : (i0 != j0) = true := by simp [hi]
          have h2 : (i0 == j0) = false := by simp [hi]
          simp [this, h2]
end Go.Vs.Old
end
section
open Go Go.Vs Go.Proofs
set_option linter.unusedVariables false
set_option linter.unusedSimpArgs false
namespace Go.Vs.Old
def chg (code : Int) (o p : ByteArray) : List (aA false) := [.int .i64 code, .str o, .str p]
def uQ (e : List (aA false)) (p : Nat) : Bool := match e[p]? with | some (.bool b) => b | _ => false
noncomputable def d1 (o p n1 w1 n2 w2 : ByteArray) : List (List (aA false)) := if (!(n1 == n2 && w1 == w2)) = true then [chg (if yY n1 w1 n2 w2 = true then 19 else 7) o p] else []
def d2 (o p : ByteArray) (b c : Bool) (w2 : ByteArray) (xv yv : List (aA false)) : List (List (aA false)) :=
  if (b && (!c && mT w2 33)) = true then [chg 9 o p] else if (!(b == c) || !(eqL xv yv)) = true then [chg 21 o p] else []
noncomputable def perA (o : ByteArray) (b : List (List (aA false))) (x : List (aA false)) : List (List (aA false)) :=
  if dJ (aY x 0) 0 b < 0 then [chg 6 o (aY x 0)] else
    d1 o (aY x 0) (aY x 2) (aY x 3) (aY (b.getD (dJ (aY x 0) 0 b).toNat []) 2) (aY (b.getD (dJ (aY x 0) 0 b).toNat []) 3) ++
    d2 o (aY x 0) (uQ x 4) (uQ (b.getD (dJ (aY x 0) 0 b).toNat []) 4) (aY (b.getD (dJ (aY x 0) 0 b).toNat []) 3) ((x.drop 5).take 4) (((b.getD (dJ (aY x 0) 0 b).toNat []).drop 5).take 4)
def perB (o : ByteArray) (a : List (List (aA false))) (y : List (aA false)) : List (List (aA false)) :=
  if dJ (aY y 0) 0 a ≥ 0 then [] else [chg (if (mT (aY y 3) 33 && !(uQ y 4)) = true then 8 else 20) o (aY y 0)]
noncomputable def inCh (o : ByteArray) (a b : List (List (aA false))) : List (List (aA false)) := a.flatMap (perA o b) ++ b.flatMap (perB o a)
theorem aRO (o p n1 w1 n2 w2 : ByteArray) : (d1 o p n1 w1 n2 w2).length ≤ 1 := by unfold d1; split <;> simp
theorem aRR (o p : ByteArray) (b c : Bool) (w2 : ByteArray) (xv yv : List (aA false)) : (d2 o p b c w2 xv yv).length ≤ 1 := by unfold d2; split <;> (try split) <;> simp
theorem aCg (o : ByteArray) (b : List (List (aA false))) (x : List (aA false)) : (perA o b x).length ≤ 2 := by
  unfold perA
  split
  · simp
  · rw [List.length_append]
    have h1 := aRO o (aY x 0) (aY x 2) (aY x 3) (aY (b.getD (dJ (aY x 0) 0 b).toNat []) 2) (aY (b.getD (dJ (aY x 0) 0 b).toNat []) 3)
    have h2 := aRR o (aY x 0) (uQ x 4) (uQ (b.getD (dJ (aY x 0) 0 b).toNat []) 4) (aY (b.getD (dJ (aY x 0) 0 b).toNat []) 3) ((x.drop 5).take 4) (((b.getD (dJ (aY x 0) 0 b).toNat []).drop 5).take 4)
    omega
theorem aJW (o : ByteArray) (a : List (List (aA false))) (y : List (aA false)) : (perB o a y).length ≤ 1 := by unfold perB; split <;> simp
theorem flatMap_len {α β : Type} {f : α → List β} {k : Nat} (h : ∀ x, (f x).length ≤ k) : ∀ l : List α, (l.flatMap f).length ≤ k * l.length
  | [] => by simp
  | x :: l => by
    have h1 := h x
    have h2 := flatMap_len h l
    rw [List.flatMap_cons, List.length_append, List.length_cons, Nat.mul_add]; omega
theorem vT {o : ByteArray} {a b : List (List (aA false))} : ∀ e ∈ inCh o a b, cF e := by
  intro e he
  have hc : ∀ {code : Int} {p : ByteArray}, cF (chg code o p) := fun {code p} => .mk _ _ _
  have h1 : ∀ {x : List (aA false)}, e ∈ perA o b x → cF e := fun {x} hx => by
    unfold perA at hx
    split at hx
    · rw [List.mem_singleton.1 hx]; exact hc
    · rcases List.mem_append.1 hx with hx | hx
      · unfold d1 at hx
        split at hx
        · rw [List.mem_singleton.1 hx]; exact hc
        · simp at hx
      · unfold d2 at hx
        split at hx
        · rw [List.mem_singleton.1 hx]; exact hc
        · split at hx
          · rw [List.mem_singleton.1 hx]; exact hc
          · simp at hx
  have h2 : ∀ {x : List (aA false)}, e ∈ perB o a x → cF e := fun {x} hx => by
    unfold perB at hx
    split at hx
    · simp at hx
    · rw [List.mem_singleton.1 hx]; exact hc
  rcases List.mem_append.1 he with he | he
  · obtain ⟨x, _, hx⟩ := List.mem_flatMap.1 he; exact h1 hx
  · obtain ⟨x, _, hx⟩ := List.mem_flatMap.1 he; exact h2 hx
theorem aKm {n : Nat} (h : n ≤ 4194304) : (decide ((n + 1) * 40 ≤ aH) && true) = true := by
  have hb : aH = 140737488355328 := rfl
  rw [Bool.and_true, decide_eq_true_eq]; omega
theorem aMP {n : Nat} (h : n ≤ 4194304) : decide ((n + 1) * 40 ≤ aH) = true := by
  have hb : aH = 140737488355328 := rfl
  rw [decide_eq_true_eq]; omega
section
variable {o : ByteArray} {a b : List (List (aA false))}
theorem aPy {out : List (List (aA false))} {i : Int} {x0 x1 x2 x3 : ByteArray} {x4 : Bool} {x5 : Int} {x6 : ByteArray} {x7 x8 x9 : List (List (aA false))} {y0 y1 y2 y3 : ByteArray} {y4 : Bool} {y5 : Int} {y6 : ByteArray} {y7 y8 y9 : List (List (aA false))}
    (hx : dM [.int .i64 x5, .str x6, .sl fP x7, .sl fP x8]) (hy : dM [.int .i64 y5, .str y6, .sl fP y7, .sl fP y8]) (hw : y3.size ≤ maxLen) (hr : out.length ≤ 4194304) :
    aL Dn (mN o a b out i x0 x1 x2 x3 x4 x5 x6 x7 x8 x9 y0 y1 y2 y3 y4 y5 y6 y7 y8 y9) =
      aL Dn (gM o a b (out ++ d2 o x0 x4 y4 y3 [.int .i64 x5, .str x6, .sl fP x7, .sl fP x8] [.int .i64 y5, .str y6, .sl fP y7, .sl fP y8]) i) := by
  have sv := (aH6 hx hy).2
  rw [aDz]
  simp -implicitDefEqProofs only [sY hw, Option.bind_some, bV, bZ, aDo, aDD, sv, aKm hr, aC]
  unfold d2
  generalize eqL [.int .i64 x5, .str x6, .sl fP x7, .sl fP x8] [.int .i64 y5, .str y6, .sl fP y7, .sl fP y8] = q
  cases x4 <;> cases y4 <;> cases mT y3 33 <;> cases q <;> simp [chg]
theorem aNv (ha : a.length ≤ 1048576) (hb : b.length ≤ 1048576) (qa : ∀ e ∈ a, cI e) (qb : ∀ e ∈ b, cI e) : ∀ i : Nat, i ≤ a.length → ∀ out : List (List (aA false)), out.length ≤ 2 * i →
    aL Dn (mF o a b out i) = aL Dn (iP o a b (out ++ (a.drop i).flatMap (perA o b)) 0) := by
  have hml : (1048576 : Nat) ≤ maxLen := by decide
  have hla : a.length ≤ maxLen := Nat.le_trans ha hml
  have hlb : b.length ≤ maxLen := Nat.le_trans hb hml
  refine cC ?_ ?_
  · intro out ho; rw [uV]; simp
  · intro i hi ih out ho
    have hro : out.length ≤ 4194304 := by omega
    have hxi := qa _ (List.getElem_mem hi)
    obtain ⟨x0, x1, x2, x3, x4, x5, x6, x7, x8, x9, he, h0, h1, h2, h3, h6, h7, q7, h8, q8, h9, q9⟩ := hxi.ex
    have next : ∀ out' : List (List (aA false)), out' = out ++ perA o b a[i] → aL Dn (gM o a b out' i) = aL Dn (iP o a b (out ++ (a.drop i).flatMap (perA o b)) 0) := fun out' ho' => by
      subst ho'
      rw [aDC, bC (Nat.lt_of_lt_of_le hi hla), ih _ (by have := aCg o b a[i]; rw [List.length_append]; omega), dG hi, List.flatMap_cons, List.append_assoc]
    have hin := aH3 (s := x0) hlb qb
    rw [uV]
    simp -implicitDefEqProofs only [Int.ofNat_lt, hi, decide_true, aF, Int.natCast_nonneg, Bool.and_true, Int.toNat_natCast, aC, aQ (fun e he => (qa e he).len), aZ hi]
    rw [he]
    simp -implicitDefEqProofs only [dI, bY, dC, cX, bX, bZ, eW, hin, Option.bind_some, bV]
    rcases aGg x0 b 0 (by omega) with hk | ⟨hk0, hk1⟩
    · rw [hk]
      simp -implicitDefEqProofs only [show ((-1 : Int) < 0) by omega, decide_true, aF, aKm hro, aMP hro, aC]
      exact next _ (by rw [he]; simp -implicitDefEqProofs only [perA, aY, List.getElem?_cons_zero, hk, show ((-1 : Int) < 0) = True from eq_true (by omega), if_true, chg])
    · obtain ⟨j, hj⟩ : ∃ j : Nat, dJ x0 0 b = (j : Int) := ⟨(dJ x0 0 b).toNat, by omega⟩
      have hjb : j < b.length := by omega
      obtain ⟨y0, y1, y2, y3, y4, y5, y6, y7, y8, y9, hf, g0, g1, g2, g3, g6, g7, r7, g8, r8, g9, r9⟩ := (qb _ (List.getElem_mem hjb)).ex
      have hjn : ¬ ((j : Int) < 0) := by omega
      rw [hj]
      simp -implicitDefEqProofs only [hjn, decide_false, aI, Int.ofNat_lt, hjb, decide_true, Int.natCast_nonneg, Bool.and_true, Int.toNat_natCast, aC, aQ (fun e he => (qb e he).len), aZ hjb]
      rw [hf]
      simp -implicitDefEqProofs only [dI, bY, dC, cX, bX, bZ, eW, aGh h3 g3, Option.bind_some, bV, aDR, aKm hro, aMP hro, aC]
      have tail := fun (out' : List (List (aA false))) (hr : out'.length ≤ 4194304) => aPy (o := o) (a := a) (b := b) (i := (i : Int)) (x0 := x0) (x1 := x1) (x2 := x2) (x3 := x3) (x4 := x4) (x9 := x9) (y0 := y0) (y1 := y1) (y2 := y2) (y4 := y4) (y9 := y9) (out := out') (.mk x5 x6 x7 x8 h6 h7 q7 h8 q8) (.mk y5 y6 y7 y8 g6 g7 r7 g8 r8) g3 hr
      have pa : perA o b a[i] = d1 o x0 x2 x3 y2 y3 ++ d2 o x0 x4 y4 y3 [.int .i64 x5, .str x6, .sl fP x7, .sl fP x8] [.int .i64 y5, .str y6, .sl fP y7, .sl fP y8] := by
        rw [he]
        simp -implicitDefEqProofs only [perA, aY, uQ, List.getElem?_cons_zero, List.getElem?_cons_succ, hj, hjn, if_false, Int.toNat_natCast, aZ hjb, hf, List.drop_succ_cons, List.drop_zero, List.take_succ_cons, List.take_zero]
      rw [bO]
      by_cases hne : (!(x2 == y2 && x3 == y3)) = true
      · have e1 : d1 o x0 x2 x3 y2 y3 = [chg (if yY x2 x3 y2 y3 = true then 19 else 7) o x0] := by unfold d1; rw [if_pos hne]
        rw [if_pos hne, bO]
        have hr2 : ∀ l : List (aA false), (out ++ [l]).length ≤ 4194304 := fun l => by rw [List.length_append]; simp; omega
        by_cases hcm : yY x2 x3 y2 y3 = true
        · rw [if_pos hcm, Bool.and_self, aC, tail _ (hr2 _)]
          exact next _ (by rw [pa, e1, if_pos hcm]; simp only [chg, List.append_assoc])
        · rw [if_neg hcm, Bool.and_self, aC, tail _ (hr2 _)]
          exact next _ (by rw [pa, e1, if_neg hcm]; simp only [chg, List.append_assoc])
      · have e1 : d1 o x0 x2 x3 y2 y3 = [] := by unfold d1; rw [if_neg hne]
        rw [if_neg hne, tail _ hro]
        exact next _ (by rw [pa, e1]; rfl)
theorem aNa (ha : a.length ≤ 1048576) (hb : b.length ≤ 1048576) (qa : ∀ e ∈ a, cI e) (qb : ∀ e ∈ b, cI e) : ∀ i : Nat, i ≤ b.length → ∀ out : List (List (aA false)), out.length ≤ 2097152 + i →
    aL Dn (iP o a b out i) = some (.own (some T.aUl) (out ++ (b.drop i).flatMap (perB o a)), []) := by
  have hml : (1048576 : Nat) ≤ maxLen := by decide
  have hla : a.length ≤ maxLen := Nat.le_trans ha hml
  have hlb : b.length ≤ maxLen := Nat.le_trans hb hml
  refine cC ?_ ?_
  · intro out ho; rw [uW]; simp
  · intro i hi ih out ho
    have hro : out.length ≤ 4194304 := by omega
    obtain ⟨y0, y1, y2, y3, y4, y5, y6, y7, y8, y9, he, h0, h1, h2, h3, h6, h7, q7, h8, q8, h9, q9⟩ := (qb _ (List.getElem_mem hi)).ex
    have next : ∀ out' : List (List (aA false)), out' = out ++ perB o a b[i] → aL Dn (mJ o a b out' i) = some (.own (some T.aUl) (out ++ (b.drop i).flatMap (perB o a)), []) := fun out' ho' => by
      subst ho'
      rw [aDA, bC (Nat.lt_of_lt_of_le hi hlb), ih _ (by have := aJW o a b[i]; rw [List.length_append]; omega), dG hi, List.flatMap_cons, List.append_assoc]
    have hin := aH3 (s := y0) hla qa
    rw [uW]
    simp -implicitDefEqProofs only [aDw, aDp, Int.ofNat_lt, hi, decide_true, aF, Int.natCast_nonneg, Bool.and_true, Int.toNat_natCast, aC, aQ (fun e he => (qb e he).len), aZ hi]
    rw [he]
    simp -implicitDefEqProofs only [dI, bY, dC, cX, bX, bZ, eW, hin, sY h3, Option.bind_some, bV, aKm hro, aMP hro, aC]
    have pb : perB o a b[i] = if dJ y0 0 a ≥ 0 then [] else [chg (if (mT y3 33 && !y4) = true then 8 else 20) o y0] := by
      rw [he]; rfl
    by_cases hk : dJ y0 0 a ≥ 0
    · simp -implicitDefEqProofs only [hk, decide_true, aF]
      exact next _ (by rw [pb, if_pos hk]; simp)
    · simp -implicitDefEqProofs only [hk, decide_false, aI]
      rw [if_neg hk] at pb
      cases hn : mT y3 33 <;> cases hy : y4 <;> simp -implicitDefEqProofs only [hn, hy, beq_self_eq_true, aF, aI, Bool.not_true, Bool.not_false, show ((false : Bool) == true) = false from rfl] <;> exact next _ (by rw [pb, hn, hy]; rfl)
theorem sK (ha : a.length ≤ 1048576) (hb : b.length ≤ 1048576) (qa : ∀ e ∈ a, cI e) (qb : ∀ e ∈ b, cI e) : Dn F.aS9 [.leaf (.str o), vsl a, vsl b] [] = some (.own (some T.aUl) (inCh o a b), []) := by
  refine aW ?_
  rw [aEM]
  have h1 := aNv (o := o) ha hb qa qb 0 (Nat.zero_le _) [] (by simp)
  have hl := flatMap_len (fun x => aCg o b x) a
  have h2 := aNa (o := o) ha hb qa qb 0 (Nat.zero_le _) (a.flatMap (perA o b)) (by omega)
  simp only [List.drop_zero, List.nil_append] at h1 h2
  exact h1.trans h2
end
end Go.Vs.Old
end
section
open Go Go.Vs Go.Proofs
set_option linter.unusedVariables false
set_option linter.unusedSimpArgs false
namespace Go.Vs.Old
structure aC8 (es r : List El) : Prop where
  up : qJ r
  mem : ∀ s, (∃ e ∈ r, key e = s) ↔ ∃ e ∈ es, key e = s
  len : r.length ≤ es.length
  sub : ∀ e ∈ r, e ∈ es
theorem bl (x y : List UInt8) : Op.bytesLess x y = decide (x < y) := Go.Proofs.bytesLess_eq x y
theorem aR2 (x y : List UInt8) : (Op.bytesLess x y || x == y) = decide (x ≤ y) := by
  rw [bl, Bool.eq_iff_iff]
  simp only [Bool.or_eq_true, decide_eq_true_eq, beq_iff_eq]
  constructor
  · rintro (h | h)
    · exact List.le_of_lt h
    · rw [h]; exact leR y
  · intro h
    by_cases hlt : x < y
    · exact .inl hlt
    · exact .inr (leA h (ltI.1 hlt))
theorem aIN {e : El} {s : ByteArray} (h : e = [.str s]) : key e = s.toList ∧ aY e 0 = s := by subst h; exact ⟨rfl, rfl⟩
theorem zA {n : Nat} (h : n ≤ 4194304) : (decide ((n + 1) * 16 ≤ aH) && true) = true ∧ decide ((n + 1) * 16 ≤ aH) = true := by
  have hb : aH = 140737488355328 := rfl
  have : (n + 1) * 16 ≤ aH := by omega
  simp [this]
theorem aJr {a b : List El} (ha : a.length ≤ 1048576) (hb : b.length ≤ 1048576) (qa : ∀ e ∈ a, dP e) (qb : ∀ e ∈ b, dP e) : ∀ (n i k : Nat) (out : List El), n = (a.length - i) + (b.length - k) → i ≤ a.length → k ≤ b.length → out.length ≤ i + k → (∀ e ∈ out, dP e) →
    bE Dn (iS a b out i k) = some (.own (some T.aUK) (fin (a.drop i) (b.drop k) out), []) := by
  have hml : (1048576 : Nat) ≤ maxLen := by decide
  intro n
  induction n with
  | zero =>
    intro i k out hn hi hk ho qo
    have h1 : ¬ i < a.length := by omega
    have h2 : ¬ k < b.length := by omega
    rw [vA]
    simp -implicitDefEqProofs only [Int.ofNat_lt, h1, h2, decide_false, mB, aI, beq_self_eq_true, aF]
    rw [List.drop_of_length_le (by omega), List.drop_of_length_le (by omega)]
    unfold fin; rfl
  | succ n ih =>
    intro i k out hn hi hk ho qo
    have hro : out.length ≤ 4194304 := by omega
    have st4 : ∀ (i' k' : Int) (s : ByteArray), bE Dn (mP a b out i' k' s) = bE Dn (iS a b (rY out [.str s]) i' k') := fun i' k' s => by
      rw [aDJ]
      by_cases h0 : out = []
      · subst h0
        simp -implicitDefEqProofs only [List.length_nil, Int.natCast_zero, Int.ofNat_zero, beq_self_eq_true, show ((true : Bool) == false) = false from rfl, aI, vL, aF, (zA (n := 0) (by omega)).1, Nat.zero_add, aC]
        simp [rY]
      · have hp : 0 < out.length := List.length_pos_iff.2 h0
        have hz : (((out.length : Nat) : Int) == 0) = false := by simp; omega
        have hw : IntKind.i64.wrap ((out.length : Int) - 1) = ((out.length - 1 : Nat) : Int) := uH (show out.length ≤ maxLen from Nat.le_trans hro (by decide)) (show 1 ≤ out.length by omega)
        have hlt : out.length - 1 < out.length := by omega
        obtain ⟨u, hu, _⟩ := qo _ (List.getElem_mem hlt)
        have hlast : out.getLast? = some [.str u] := by rw [List.getLast?_eq_getElem?, List.getElem?_eq_getElem hlt, hu]
        rw [hz, hw]
        simp -implicitDefEqProofs only [beq_self_eq_true, aF, Int.natCast_nonneg, decide_true, Int.ofNat_lt, hlt, Bool.and_true, Bool.true_and, Int.toNat_natCast, aQ (fun e he => (qo e he).len), aC, aZ hlt, hu, bY, bX, vL, (zA hro).1, (zA hro).2]
        unfold rY
        rw [hlast]
        simp only [Option.map_some, Option.some.injEq, (aIN (s := u) rfl).1, (aIN (s := s) rfl).1]
        by_cases hus : u.toList = s.toList
        · simp [hus]
        · have hub : (u.toList == s.toList) = false := by simpa using hus
          rw [hub, if_neg hus, Bool.not_false, aF]
    have qo' : ∀ e, dP e → ∀ x ∈ rY out e, dP x := fun e he x hx => by
      rcases jA hx with h | rfl
      · exact qo x h
      · exact he
    have hA : ∀ h : i < a.length, bE Dn (iR a b out i k true) = some (.own (some T.aUK) (fin (a.drop (i + 1)) (b.drop k) (rY out a[i])), []) := fun h => by
      obtain ⟨s, hs, hsl⟩ := qa _ (List.getElem_mem h)
      rw [vB]
      simp -implicitDefEqProofs only [aF, Int.natCast_nonneg, decide_true, Int.ofNat_lt, h, Bool.and_true, Bool.true_and, Int.toNat_natCast, aQ (fun e he => (qa e he).len), aC, aZ h, hs, bY, bX, st4, bC (Nat.lt_of_lt_of_le h (Nat.le_trans ha hml))]
      exact ih (i + 1) k _ (by omega) (by omega) hk (by have := aAm out [.str s]; omega) (qo' _ ⟨s, rfl, hsl⟩)
    have hB : ∀ h : k < b.length, bE Dn (iR a b out i k false) = some (.own (some T.aUK) (fin (a.drop i) (b.drop (k + 1)) (rY out b[k])), []) := fun h => by
      obtain ⟨s, hs, hsl⟩ := qb _ (List.getElem_mem h)
      rw [vB]
      simp -implicitDefEqProofs only [aI, Int.natCast_nonneg, decide_true, Int.ofNat_lt, h, Bool.and_true, Bool.true_and, Int.toNat_natCast, aQ (fun e he => (qb e he).len), aC, aZ h, hs, bY, bX, st4, bC (Nat.lt_of_lt_of_le h (Nat.le_trans hb hml))]
      exact ih i (k + 1) _ (by omega) hi (by omega) (by have := aAm out [.str s]; omega) (qo' _ ⟨s, rfl, hsl⟩)
    rw [vA]
    by_cases h1 : i < a.length
    · by_cases h2 : k < b.length
      · have hge : ¬ ((k : Int) ≥ (b.length : Int)) := by omega
        obtain ⟨s, hs, _⟩ := qa _ (List.getElem_mem h1)
        obtain ⟨u, hu, _⟩ := qb _ (List.getElem_mem h2)
        simp -implicitDefEqProofs only [Int.ofNat_lt, h1, h2, decide_true, show ((true : Bool) == false) = false from rfl, aI, mB, aF, hge, decide_false, beq_self_eq_true, Int.natCast_nonneg, Bool.and_true, Bool.true_and, Int.toNat_natCast, aQ (fun e he => (qa e he).len), aQ (fun e he => (qb e he).len), aC, aZ h1, aZ h2, hs, hu, bY, bX, aR2]
        rw [dG h1, dG h2]
        unfold fin
        rw [hs, hu, (aIN (s := s) rfl).1, (aIN (s := u) rfl).1]
        by_cases hc : s.toList ≤ u.toList
        · rw [if_pos hc, decide_eq_true hc, hA h1, dG h2, hs, hu]
        · rw [if_neg hc, decide_eq_false hc, hB h2, dG h1, hs, hu]
      · have hge : ((k : Int) ≥ (b.length : Int)) := by omega
        simp -implicitDefEqProofs only [Int.ofNat_lt, h1, h2, decide_true, decide_false, show ((true : Bool) == false) = false from rfl, aI, mB, aF, hge]
        rw [hA h1, dG h1, List.drop_of_length_le (show b.length ≤ k by omega)]
        conv => rhs; unfold fin
    · have h2 : k < b.length := by omega
      have hge : ¬ ((k : Int) ≥ (b.length : Int)) := by omega
      simp -implicitDefEqProofs only [Int.ofNat_lt, h1, h2, decide_true, decide_false, beq_self_eq_true, aF, mB, hge, show ((false : Bool) == true) = false from rfl, aI]
      rw [hB h2, dG h2, List.drop_of_length_le (show a.length ≤ i by omega)]
      conv => rhs; unfold fin
theorem aK5 : ∀ (n : Nat) (es : List El), es.length = n → es.length ≤ 1048576 → (∀ e ∈ es, dP e) → ∃ r, Dn F.aTi [vsl es] [] = some (.own (some T.aUK) r, []) ∧ aC8 es r := by
  intro n
  induction n using Nat.strongRecOn with
  | ind n ih =>
    intro es hn hl q
    have hml : (1048576 : Nat) ≤ maxLen := by decide
    have hsz := aQ (fun e he => (q e he).len)
    by_cases h2 : es.length < 2
    · have h2' : ((es.length : Nat) : Int) < 2 := by omega
      refine ⟨es, ?_, ⟨?_, fun s => Iff.rfl, Nat.le_refl _, fun e he => he⟩⟩
      · refine aW ?_
        rw [nA]
        have hb : aH = 140737488355328 := rfl
        have : decide ((0 + es.length) * 16 ≤ aH) = true := decide_eq_true (by omega)
        simp only [h2', decide_true, aF, this, hsz, Bool.and_self, aC, List.nil_append]
      · unfold qJ
        match es, h2 with
        | [], _ => exact List.Pairwise.nil
        | [x], _ => simp
    · have h2' : ¬ ((es.length : Nat) : Int) < 2 := by omega
      have hd : IntKind.i64.wrap ((es.length : Int).tdiv 2) = ((es.length / 2 : Nat) : Int) := by
        have hm : maxLen = 9223372036854775807 := rfl
        rw [Int.tdiv_eq_ediv_of_nonneg (by omega), sN (by omega) (by omega)]; omega
      have hle : es.length / 2 ≤ es.length := Nat.div_le_self _ _
      obtain ⟨r1, k1, o1⟩ := ih (es.take (es.length / 2)).length (by rw [List.length_take]; omega) (es.take (es.length / 2)) rfl (by rw [List.length_take]; omega) (fun e he => q e (List.mem_of_mem_take he))
      obtain ⟨r2, k2, o2⟩ := ih (es.drop (es.length / 2)).length (by rw [List.length_drop]; omega) (es.drop (es.length / 2)) rfl (by rw [List.length_drop]; omega) (fun e he => q e (List.mem_of_mem_drop he))
      have l1 : r1.length ≤ 1048576 := by have := o1.len; rw [List.length_take] at this; omega
      have l2 : r2.length ≤ 1048576 := by have := o2.len; rw [List.length_drop] at this; omega
      have m := aJr l1 l2 (fun e he => q e (List.mem_of_mem_take (o1.sub e he))) (fun e he => q e (List.mem_of_mem_drop (o2.sub e he))) _ 0 0 [] rfl (Nat.zero_le _) (Nat.zero_le _) (by simp) (by simp)
      have j := aLh _ r1 r2 [] rfl o1.up o2.up List.Pairwise.nil (by simp) (by simp)
      simp only [List.drop_zero] at m
      refine ⟨fin r1 r2 [], ?_, ⟨j.up, fun s => ?_, ?_, fun e he => ?_⟩⟩
      · refine aW ?_
        rw [nA]
        simp -implicitDefEqProofs only [h2', decide_false, aI, hd, Int.natCast_nonneg, decide_true, Int.toNat_natCast, Option.getD_some, Option.getD_none, hle, Nat.le_refl, hsz, Bool.and_self, Bool.true_and, Bool.and_true, aC, List.drop_zero, k1, Option.bind_some, gD, List.take_length]
        rw [show Dn F.aTi [SV.leaf (aA.sl (Fl.later PUnit.unit (some (es.length / 2))) (es.drop (es.length / 2)))] [] = _ from k2]
        simp only [Option.bind_some, gD]
        exact m
      · rw [j.mem]
        simp only [List.not_mem_nil, false_and, exists_false, false_or]
        rw [o1.mem, o2.mem]
        constructor
        · rintro (⟨e, he, hs⟩ | ⟨e, he, hs⟩)
          · exact ⟨e, List.mem_of_mem_take he, hs⟩
          · exact ⟨e, List.mem_of_mem_drop he, hs⟩
        · rintro ⟨e, he, hs⟩
          rw [← List.take_append_drop (es.length / 2) es] at he
          rcases List.mem_append.1 he with he | he
          · exact .inl ⟨e, he, hs⟩
          · exact .inr ⟨e, he, hs⟩
      · have := j.len; have := o1.len; have := o2.len
        rw [List.length_take] at *; rw [List.length_drop] at *
        simp at *; omega
      · rcases j.sub e he with h | h | h
        · simp at h
        · exact List.mem_of_mem_take (o1.sub e h)
        · exact List.mem_of_mem_drop (o2.sub e h)
end Go.Vs.Old
end
section
open Go Go.Vs Go.Proofs
set_option linter.unusedVariables false
set_option linter.unusedSimpArgs false
namespace Go.Vs.Old
def eD (l : List El) (s : ByteArray) : Bool := l.any fun e => (aY e 0).toList == s.toList
def nameCh (o : ByteArray) (a b : List El) (gone fresh : Int) : List El :=
  (a.flatMap fun x => if eD b (aY x 0) = true then [] else [chg gone o (aY x 0)]) ++ b.flatMap fun y => if eD a (aY y 0) = true then [] else [chg fresh o (aY y 0)]
theorem aCB {l : List El} {s : ByteArray} : eD l s = true ↔ ∃ e ∈ l, key e = s.toList := by
  unfold eD key
  rw [List.any_eq_true]
  simp only [beq_iff_eq]
theorem aPR {l : List El} {s : ByteArray} (hl : l.length ≤ 1048576) (q : ∀ e ∈ l, dP e) (hr : qJ l) : ∀ (n lo hi : Nat), n = hi - lo → lo ≤ hi → hi ≤ l.length →
    (∀ (j : Nat) (h : j < l.length), j < lo → key l[j] < s.toList) → (∀ (j : Nat) (h : j < l.length), hi ≤ j → s.toList ≤ key l[j]) →
    jR Dn (pI l s lo hi) = some (aN (eD l s), []) := by
  have hm : maxLen = 9223372036854775807 := rfl
  intro n
  induction n using Nat.strongRecOn with
  | ind n ih =>
    intro lo hi hn hlh hhl h1 h2
    rw [aIu]
    by_cases hc : lo < hi
    · have hmid : IntKind.i64.wrap ((IntKind.i64.wrap ((lo : Int) + (hi : Int))).tdiv 2) = (((lo + hi) / 2 : Nat) : Int) := by
        rw [sN (z := (lo : Int) + hi) (by omega) (by omega), Int.tdiv_eq_ediv_of_nonneg (by omega), sN (by omega) (by omega)]; omega
      have hmlt : (lo + hi) / 2 < l.length := by omega
      obtain ⟨u, hu, _⟩ := q _ (List.getElem_mem hmlt)
      have hk : key l[(lo + hi) / 2] = u.toList := by rw [hu]; rfl
      have hup : IntKind.i64.wrap ((((lo + hi) / 2 : Nat) : Int) + 1) = (((lo + hi) / 2 + 1 : Nat) : Int) := bC (by omega)
      have hc' : ((lo : Int) < (hi : Int)) := by omega
      simp -implicitDefEqProofs only [hc', decide_true, aF, hmid, hup, Int.natCast_nonneg, Int.ofNat_lt, hmlt, Bool.and_true, Bool.and_self, Int.toNat_natCast, aQ (fun e he => (q e he).len), aC, aZ hmlt, hu, bY, bX, bl]
      rw [bO]
      simp -implicitDefEqProofs only [decide_eq_true_eq]
      by_cases hb : u.toList < s.toList
      · rw [if_pos hb]
        have g := ih (hi - ((lo + hi) / 2 + 1)) (by omega) ((lo + hi) / 2 + 1) hi rfl (by omega) hhl (fun j hj hjl => ?_) h2
        · exact g
        have hle : j ≤ (lo + hi) / 2 := by omega
        have := aK7 hr hle hmlt
        rw [hk] at this
        exact List.lt_of_le_of_lt this hb
      · rw [if_neg hb]
        have g := ih ((lo + hi) / 2 - lo) (by omega) lo ((lo + hi) / 2) rfl (by omega) (by omega) h1 (fun j hj hjl => ?_)
        · exact g
        have := aK7 hr hjl hj
        rw [hk] at this
        exact leT (ltI.1 hb) this
    · have he : lo = hi := by omega
      subst he
      have hv := aRI hr h1 h2
      rw [← aCB] at hv
      have hc' : ¬ ((lo : Int) < (lo : Int)) := by omega
      by_cases hlt : lo < l.length
      · obtain ⟨u, hu, _⟩ := q _ (List.getElem_mem hlt)
        have hk : key l[lo] = u.toList := by rw [hu]; rfl
        simp -implicitDefEqProofs only [hc', decide_false, aI, Int.ofNat_lt, hlt, decide_true, beq_self_eq_true, aF, Int.natCast_nonneg, Bool.and_true, Bool.and_self, Int.toNat_natCast, aQ (fun e he => (q e he).len), aC, aZ hlt, hu, bY, bX]
        have : (u.toList == s.toList) = eD l s := by
          rw [Bool.eq_iff_iff, hv, beq_iff_eq]
          constructor
          · intro h; exact ⟨hlt, by rw [hk]; exact h⟩
          · rintro ⟨_, h⟩; rw [hk] at h; exact h
        rw [this]
      · have : eD l s = false := by
          rw [Bool.eq_false_iff]
          intro h
          obtain ⟨h, _⟩ := hv.1 h
          exact hlt h
        simp -implicitDefEqProofs only [hc', decide_false, aI, Int.ofNat_lt, hlt, show ((false : Bool) == true) = false from rfl, this]
theorem aGo {l : List El} {s : ByteArray} (hl : l.length ≤ 1048576) (q : ∀ e ∈ l, dP e) (hr : qJ l) : Dn F.aUw [vsl l, .leaf (.str s)] [] = some (aN (eD l s), []) := by
  refine aW ?_
  rw [aJZ]
  exact aPR hl q hr l.length 0 l.length rfl (Nat.zero_le _) (Nat.le_refl _) (fun j h hj => by omega) (fun j h hj => by omega)
section
variable {o : ByteArray} {a b ra rb : List El} {gone fresh : Int}
theorem aHL {r : List El} (h : aC8 a r) (s : ByteArray) : eD r s = eD a s := by
  rw [Bool.eq_iff_iff, aCB, aCB]; exact h.mem _
theorem aMj (ha : a.length ≤ 1048576) (hb : b.length ≤ 1048576) (qa : ∀ e ∈ a, dP e) (qb : ∀ e ∈ b, dP e) (ob : aC8 b rb) : ∀ i : Nat, i ≤ a.length → ∀ out : List El, out.length ≤ i →
    bM Dn (kS o a b gone fresh out ra rb i) = bM Dn (iU o b fresh (out ++ (a.drop i).flatMap fun x => if eD b (aY x 0) = true then [] else [chg gone o (aY x 0)]) ra 0) := by
  have hml : (1048576 : Nat) ≤ maxLen := by decide
  refine cC ?_ ?_
  · intro out ho; rw [sH]; simp
  · intro i hi ih out ho
    have hro : out.length ≤ 4194304 := by omega
    obtain ⟨u, hu, _⟩ := qa _ (List.getElem_mem hi)
    have hin := aGo (s := u) (Nat.le_trans ob.len hb) (fun e he => qb e (ob.sub e he)) ob.up
    rw [sH]
    simp -implicitDefEqProofs only [Int.ofNat_lt, hi, decide_true, aF, Int.natCast_nonneg, Bool.and_true, Bool.and_self, Int.toNat_natCast, aC, aQ (fun e he => (qa e he).len), aZ hi, hu, bY, bX, hin, aHL ob, Option.bind_some, bV, bZ, aKm hro, aMP hro, aBk, bC (Nat.lt_of_lt_of_le hi (Nat.le_trans ha hml))]
    rw [bO]
    rw [dG hi, List.flatMap_cons, hu, show aY [aA.str u] 0 = u from rfl]
    cases eD b u
    · simp -implicitDefEqProofs only [Bool.not_false, if_true, Bool.false_eq_true, if_false]
      rw [ih _ (by rw [List.length_append]; simp; omega), List.append_assoc]; rfl
    · simp -implicitDefEqProofs only [Bool.not_true, if_true, Bool.false_eq_true, if_false, List.nil_append]
      exact ih _ (by omega)
theorem aLU (ha : a.length ≤ 1048576) (hb : b.length ≤ 1048576) (qa : ∀ e ∈ a, dP e) (qb : ∀ e ∈ b, dP e) (oa : aC8 a ra) : ∀ i : Nat, i ≤ b.length → ∀ out : List El, out.length ≤ 1048576 + i →
    bM Dn (iU o b fresh out ra i) = some (.own (some T.aUl) (out ++ (b.drop i).flatMap fun y => if eD a (aY y 0) = true then [] else [chg fresh o (aY y 0)]), []) := by
  have hml : (1048576 : Nat) ≤ maxLen := by decide
  refine cC ?_ ?_
  · intro out ho; rw [sD]; simp
  · intro i hi ih out ho
    have hro : out.length ≤ 4194304 := by omega
    obtain ⟨u, hu, _⟩ := qb _ (List.getElem_mem hi)
    have hin := aGo (s := u) (Nat.le_trans oa.len ha) (fun e he => qa e (oa.sub e he)) oa.up
    rw [sD]
    simp -implicitDefEqProofs only [Int.ofNat_lt, hi, decide_true, aF, Int.natCast_nonneg, Bool.and_true, Bool.and_self, Int.toNat_natCast, aC, aQ (fun e he => (qb e he).len), aZ hi, hu, bY, bX, hin, aHL oa, Option.bind_some, bV, bZ, aKm hro, aMP hro, aBs, bC (Nat.lt_of_lt_of_le hi (Nat.le_trans hb hml))]
    rw [bO]
    rw [dG hi, List.flatMap_cons, hu, show aY [aA.str u] 0 = u from rfl]
    cases eD a u
    · simp -implicitDefEqProofs only [Bool.not_false, if_true, Bool.false_eq_true, if_false]
      rw [ih _ (by rw [List.length_append]; simp; omega), List.append_assoc]; rfl
    · simp -implicitDefEqProofs only [Bool.not_true, if_true, Bool.false_eq_true, if_false, List.nil_append]
      exact ih _ (by omega)
theorem nC (ha : a.length ≤ 1048576) (hb : b.length ≤ 1048576) (qa : ∀ e ∈ a, dP e) (qb : ∀ e ∈ b, dP e) : Dn F.aSN [.leaf (.str o), vsl a, vsl b, aG gone, aG fresh] [] = some (.own (some T.aUl) (nameCh o a b gone fresh), []) := by
  obtain ⟨ra, ka, oa⟩ := aK5 _ a rfl ha qa
  obtain ⟨rb, kb, ob⟩ := aK5 _ b rfl hb qb
  have h1 := aMj (o := o) (ra := ra) (gone := gone) (fresh := fresh) ha hb qa qb ob 0 (Nat.zero_le _) [] (by simp)
  have hl : (a.flatMap fun x => if eD b (aY x 0) = true then [] else [chg gone o (aY x 0)]).length ≤ 1 * a.length := flatMap_len (fun x => by split <;> simp) a
  have h2 := aLU (o := o) (fresh := fresh) ha hb qa qb oa 0 (Nat.zero_le _) (a.flatMap fun x => if eD b (aY x 0) = true then [] else [chg gone o (aY x 0)]) (by omega)
  simp only [List.drop_zero, List.nil_append] at h1 h2
  refine aW ?_
  rw [aCI]
  simp -implicitDefEqProofs only [ka, kb, Option.bind_some, gD]
  exact h1.trans h2
end
end Go.Vs.Old
end
section
open Go Go.Vs Go.Proofs
set_option linter.unusedVariables false
set_option linter.unusedSimpArgs false
namespace Go.Vs.Old
def slAt (e : El) (p : Nat) : List El := match e[p]? with | some (.sl _ es) => es | _ => []
def intAt (e : El) (p : Nat) : Int := match e[p]? with | some (.int _ n) => n | _ => 0
abbrev dot : ByteArray := ByteArray.mk #[46]
abbrev nul : ByteArray := ByteArray.mk #[]
def tyCh (nm : ByteArray) (x y : El) : List El := if (!(aY x 3 == aY y 3 && aY x 4 == aY y 4)) = true then [chg 5 nm (aY x 0)] else []
noncomputable def fldA (nm : ByteArray) (b : List El) (x : El) : List El :=
  if dJ (aY x 0) 0 b < 0 then [chg 4 nm (aY x 0)] else
    tyCh nm x (b.getD (dJ (aY x 0) 0 b).toNat []) ++ inCh (nm ++ dot ++ aY x 0) (slAt x 2) (slAt (b.getD (dJ (aY x 0) 0 b).toNat []) 2)
def fldB (nm : ByteArray) (a : List El) (y : El) : List El := if dJ (aY y 0) 0 a < 0 then [chg 18 nm (aY y 0)] else []
noncomputable def fldCh (nm : ByteArray) (a b : List El) : List El := a.flatMap (fldA nm b) ++ b.flatMap (fldB nm a)
def vals (l : List El) : List El := l.map fun e => [.str (aY e 0)]
structure FOk (e : El) : Prop where
  is : cE e
  nm : (aY e 0).size ≤ 1048576
  args : (slAt e 2).length ≤ 1048576
theorem zP {n k : Nat} (h : n + k ≤ 3400000000000) : decide ((n + k) * 40 ≤ aH) = true := by
  have hb : aH = 140737488355328 := rfl
  rw [decide_eq_true_eq]; omega
theorem inCh_len (o : ByteArray) (a b : List El) : (inCh o a b).length ≤ 2 * a.length + b.length := by
  unfold inCh
  have h1 := flatMap_len (fun x => aCg o b x) a
  have h2 := flatMap_len (fun x => aJW o a x) b
  rw [List.length_append]; omega
theorem tyCh_len (nm : ByteArray) (x y : El) : (tyCh nm x y).length ≤ 1 := by unfold tyCh; split <;> simp
theorem idx_get {s : ByteArray} {b : List El} (h : ¬ dJ s 0 b < 0) : ∃ j : Nat, dJ s 0 b = (j : Int) ∧ j < b.length := by
  rcases aGg s b 0 (by omega) with h1 | ⟨h1, h2⟩
  · omega
  · exact ⟨(dJ s 0 b).toNat, by omega, by omega⟩
theorem aBE {nm : ByteArray} {b : List El} {x : El} (hx : FOk x) (hb : ∀ e ∈ b, FOk e) : (fldA nm b x).length ≤ 3145729 := by
  unfold fldA
  split
  · simp
  · rename_i h
    obtain ⟨j, hj, hjb⟩ := idx_get h
    rw [hj, Int.toNat_natCast, aZ hjb, List.length_append]
    have h1 := tyCh_len nm x b[j]
    have h2 := inCh_len (nm ++ dot ++ aY x 0) (slAt x 2) (slAt b[j] 2)
    have h3 := hx.args
    have h4 := (hb _ (List.getElem_mem hjb)).args
    omega
theorem fldB_len (nm : ByteArray) (a : List El) (y : El) : (fldB nm a y).length ≤ 1 := by unfold fldB; split <;> simp
theorem flatMap_lenM {α β : Type} {f : α → List β} {k : Nat} : ∀ {l : List α}, (∀ x ∈ l, (f x).length ≤ k) → (l.flatMap f).length ≤ k * l.length
  | [], _ => by simp
  | x :: l, h => by
    have h1 := h x (by simp)
    have h2 := flatMap_lenM (l := l) fun y hy => h y (by simp [hy])
    rw [List.flatMap_cons, List.length_append, List.length_cons, Nat.mul_add]; omega
theorem nameCh_len (o : ByteArray) (a b : List El) (g f : Int) : (nameCh o a b g f).length ≤ a.length + b.length := by
  unfold nameCh
  have h1 : (a.flatMap fun x => if eD b (aY x 0) = true then [] else [chg g o (aY x 0)]).length ≤ 1 * a.length := flatMap_len (fun x => by split <;> simp) a
  have h2 : (b.flatMap fun y => if eD a (aY y 0) = true then [] else [chg f o (aY y 0)]).length ≤ 1 * b.length := flatMap_len (fun x => by split <;> simp) b
  rw [List.length_append]; omega
theorem aLq {nm : ByteArray} {a b : List El} (ha : a.length ≤ 1048576) (hb : b.length ≤ 1048576) (qa : ∀ e ∈ a, FOk e) (qb : ∀ e ∈ b, FOk e) : (fldCh nm a b).length ≤ 3298536980480 := by
  unfold fldCh
  have h1 := flatMap_lenM (f := fldA nm b) (l := a) fun x hx => aBE (nm := nm) (qa x hx) qb
  have h2 := flatMap_len (f := fldB nm a) (fun x => fldB_len nm a x) b
  rw [List.length_append]; omega
theorem oB {o : ByteArray} {a b : List El} {g f : Int} : ∀ e ∈ nameCh o a b g f, cF e := by
  intro e he
  have h1 : ∀ {q : Bool} {c : Int} {p : ByteArray}, e ∈ (if q = true then [] else [chg c o p]) → cF e := fun {q c p} h => by
    split at h
    · simp at h
    · rw [List.mem_singleton.1 h]; exact .mk _ _ _
  rcases List.mem_append.1 he with he | he
  · obtain ⟨x, _, hx⟩ := List.mem_flatMap.1 he; exact h1 hx
  · obtain ⟨x, _, hx⟩ := List.mem_flatMap.1 he; exact h1 hx
theorem aHd {nm : ByteArray} {a b : List El} : ∀ e ∈ fldCh nm a b, cF e := by
  intro e he
  rcases List.mem_append.1 he with he | he
  · obtain ⟨x, _, hx⟩ := List.mem_flatMap.1 he
    unfold fldA at hx
    split at hx
    · rw [List.mem_singleton.1 hx]; exact .mk _ _ _
    · rcases List.mem_append.1 hx with hx | hx
      · unfold tyCh at hx
        split at hx
        · rw [List.mem_singleton.1 hx]; exact .mk _ _ _
        · simp at hx
      · exact vT _ hx
  · obtain ⟨x, _, hx⟩ := List.mem_flatMap.1 he
    unfold fldB at hx
    split at hx
    · rw [List.mem_singleton.1 hx]; exact .mk _ _ _
    · simp at hx
theorem aE2 {es : List El} {s : ByteArray} (hl : es.length ≤ maxLen) (hq : ∀ e ∈ es, cE e) : ∀ i : Nat, i ≤ es.length →
    iH Dn (nK es s i) = some (aG (dJ s i (es.drop i)), []) := by
  refine cC ?_ ?_
  · rw [xA]; simp [dJ]
  · intro i hi ih
    obtain ⟨s0, s1, e2, s3, s4, e5, he, h0⟩ := (hq _ (List.getElem_mem hi)).ex
    rw [xA, dG hi]
    simp only [Int.ofNat_lt, hi, decide_true, aF, Int.natCast_nonneg, Bool.and_true, Int.toNat_natCast, aC, bC (Nat.lt_of_lt_of_le hi hl), aQ (fun e he => (hq e he).len), aZ hi]
    rw [he]
    simp only [bY, bX, bO, dJ, aY, List.getElem?_cons_zero, ih]
    by_cases hx : (s0.toList == s.toList) = true <;> simp [hx]
theorem aBh {es : List El} {s : ByteArray} (hl : es.length ≤ maxLen) (hq : ∀ e ∈ es, cE e) : Dn F.aTw [vsl es, .leaf (.str s)] [] = some (aG (dJ s 0 es), []) := by
  refine aW ?_
  rw [aFE]
  exact aE2 hl hq 0 (Nat.zero_le _)
section
variable {i0 j0 : Int} {b1 b9 c1 c9 : Bool} {s2 nm t2 t3 : ByteArray} {e4 a e6 e7 e8 e10 f4 b f6 f7 f8 f10 : List El}
theorem aKp (hn : nm.size ≤ 1048576) (ha : a.length ≤ 1048576) (hb : b.length ≤ 1048576) (qa : ∀ e ∈ a, FOk e) (qb : ∀ e ∈ b, FOk e) : ∀ i : Nat, i ≤ a.length → ∀ out : List El, out.length ≤ i * 3145729 →
    bD Dn (mI out i i0 b1 s2 nm e4 a e6 e7 e8 b9 e10 j0 c1 t2 t3 f4 b f6 f7 f8 c9 f10) =
      bD Dn (gJ (out ++ (a.drop i).flatMap (fldA nm b)) 0 i0 b1 s2 nm e4 a e6 e7 e8 b9 e10 j0 c1 t2 t3 f4 b f6 f7 f8 c9 f10) := by
  have hml : (1048576 : Nat) ≤ maxLen := by decide
  have hla : a.length ≤ maxLen := Nat.le_trans ha hml
  have hlb : b.length ≤ maxLen := Nat.le_trans hb hml
  refine cC ?_ ?_
  · intro out ho; rw [vH]; simp
  · intro i hi ih out ho
    have hro : out.length + 3145729 ≤ 3400000000000 := by omega
    have hxi := qa _ (List.getElem_mem hi)
    have hlen := aBE (nm := nm) hxi qb
    obtain ⟨x0, x1, x2, x3, x4, x5, he, h0, h1, h2, q2, h3, h4, h5, q5⟩ := hxi.is.ex
    have next : ∀ out' : List El, out' = out ++ fldA nm b a[i] → bD Dn (mK out' i i0 b1 s2 nm e4 a e6 e7 e8 b9 e10 j0 c1 t2 t3 f4 b f6 f7 f8 c9 f10) = bD Dn (gJ (out ++ (a.drop i).flatMap (fldA nm b)) 0 i0 b1 s2 nm e4 a e6 e7 e8 b9 e10 j0 c1 t2 t3 f4 b f6 f7 f8 c9 f10) := fun out' ho' => by
      subst ho'
      rw [aDL, bC (Nat.lt_of_lt_of_le hi hla), ih _ (by rw [List.length_append]; omega), dG hi, List.flatMap_cons, List.append_assoc]
    have hin := aBh (s := x0) hlb (fun e he => (qb e he).is)
    have hx0 : x0.size ≤ 1048576 := by have := hxi.nm; rw [he] at this; exact this
    have hx2 : x2.length ≤ 1048576 := by have := hxi.args; rw [he] at this; exact this
    rw [vH]
    simp -implicitDefEqProofs only [Int.ofNat_lt, hi, decide_true, aF, Int.natCast_nonneg, Bool.and_true, Int.toNat_natCast, aC, aQ (fun e he => (qa e he).is.len), aZ hi]
    rw [he]
    simp -implicitDefEqProofs only [dI, bY, dC, bX, eW, hin, Option.bind_some, bV, cX]
    by_cases hk : dJ x0 0 b < 0
    · simp -implicitDefEqProofs only [hk, decide_true, aF, zP (show out.length + 1 ≤ 3400000000000 by omega), Bool.and_true, aC]
      exact next _ (by rw [he]; simp -implicitDefEqProofs only [fldA, aY, List.getElem?_cons_zero, hk, if_true, chg])
    · obtain ⟨j, hj, hjb⟩ := idx_get hk
      have hyj := qb _ (List.getElem_mem hjb)
      obtain ⟨y0, y1, y2, y3, y4, y5, hf, g0, g1, g2, r2, g3, g4, g5, r5⟩ := hyj.is.ex
      have hy2 : y2.length ≤ 1048576 := by have := hyj.args; rw [hf] at this; exact this
      have hjn : ¬ ((j : Int) < 0) := by omega
      have pa : fldA nm b a[i] = tyCh nm [.str x0, .str x1, .sl fP x2, .str x3, .str x4, .sl fP x5] [.str y0, .str y1, .sl fP y2, .str y3, .str y4, .sl fP y5] ++ inCh (nm ++ dot ++ x0) x2 y2 := by
        rw [he]
        simp -implicitDefEqProofs only [fldA, aY, slAt, List.getElem?_cons_zero, List.getElem?_cons_succ, hj, hjn, if_false, Int.toNat_natCast, aZ hjb, hf]
      have tail : ∀ out' : List El, out' = out ++ tyCh nm [.str x0, .str x1, .sl fP x2, .str x3, .str x4, .sl fP x5] [.str y0, .str y1, .sl fP y2, .str y3, .str y4, .sl fP y5] →
          bD Dn (mO out' i j i0 b1 s2 nm e4 a e6 e7 e8 b9 e10 j0 c1 t2 t3 f4 b f6 f7 f8 c9 f10 x0 x1 x2 x3 x4 x5) = bD Dn (gJ (out ++ (a.drop i).flatMap (fldA nm b)) 0 i0 b1 s2 nm e4 a e6 e7 e8 b9 e10 j0 c1 t2 t3 f4 b f6 f7 f8 c9 f10) := fun out' ho' => by
        have hch := sK (o := nm ++ dot ++ x0) hx2 hy2 q2 r2
        have hcl := inCh_len (nm ++ dot ++ x0) x2 y2
        have htl := tyCh_len nm [.str x0, .str x1, .sl fP x2, .str x3, .str x4, .sl fP x5] [.str y0, .str y1, .sl fP y2, .str y3, .str y4, .sl fP y5]
        have hol : out'.length + (inCh (nm ++ dot ++ x0) x2 y2).length ≤ 3400000000000 := by rw [ho', List.length_append]; omega
        have z1 : decide (nm.size + (ByteArray.mk #[46]).size ≤ 140737488355328) = true := decide_eq_true (by show nm.size + 1 ≤ _; omega)
        have z2 : decide ((nm ++ ByteArray.mk #[46]).size + x0.size ≤ 140737488355328) = true := decide_eq_true (by rw [ByteArray.size_append]; show nm.size + 1 + _ ≤ _; omega)
        rw [aDE]
        simp -implicitDefEqProofs only [z1, z2, aC, Int.ofNat_lt, hjb, decide_true, Int.natCast_nonneg, Bool.and_true, Int.toNat_natCast, aQ (fun e he => (qb e he).is.len), aZ hjb]
        rw [hf]
        simp -implicitDefEqProofs only [bY, dC, eW, hch, Option.bind_some, gD, zP hol, aQ (fun e he => (vT (o := nm ++ dot ++ x0) (a := x2) (b := y2) e he).len), Bool.and_self, aC]
        exact next _ (by rw [pa, ho', List.append_assoc])
      rw [hj]
      simp -implicitDefEqProofs only [hjn, decide_false, aI, Int.ofNat_lt, hjb, decide_true, Int.natCast_nonneg, Bool.and_true, Int.toNat_natCast, aC, aQ (fun e he => (qb e he).is.len), aZ hjb]
      rw [hf]
      simp -implicitDefEqProofs only [dI, bY, dC, bX, zP (show out.length + 1 ≤ 3400000000000 by omega), aC]
      rw [bO]
      by_cases hne : (!(x3 == y3 && x4 == y4)) = true
      · rw [if_pos hne]
        have e1 : tyCh nm [.str x0, .str x1, .sl fP x2, .str x3, .str x4, .sl fP x5] [.str y0, .str y1, .sl fP y2, .str y3, .str y4, .sl fP y5] = [chg 5 nm x0] := if_pos hne
        exact tail _ (by rw [e1]; rfl)
      · rw [if_neg hne]
        have e1 : tyCh nm [.str x0, .str x1, .sl fP x2, .str x3, .str x4, .sl fP x5] [.str y0, .str y1, .sl fP y2, .str y3, .str y4, .sl fP y5] = [] := if_neg hne
        exact tail _ (by rw [e1, List.append_nil])
theorem aKw (ha : a.length ≤ 1048576) (hb : b.length ≤ 1048576) (qa : ∀ e ∈ a, FOk e) (qb : ∀ e ∈ b, FOk e) : ∀ i : Nat, i ≤ b.length → ∀ out : List El, out.length ≤ 3298535931904 + i →
    bD Dn (gJ out i i0 b1 s2 nm e4 a e6 e7 e8 b9 e10 j0 c1 t2 t3 f4 b f6 f7 f8 c9 f10) = some (.own (some T.aUl) (out ++ (b.drop i).flatMap (fldB nm a)), []) := by
  have hml : (1048576 : Nat) ≤ maxLen := by decide
  have hla : a.length ≤ maxLen := Nat.le_trans ha hml
  have hlb : b.length ≤ maxLen := Nat.le_trans hb hml
  refine cC ?_ ?_
  · intro out ho; rw [vC]; simp
  · intro i hi ih out ho
    obtain ⟨y0, y1, y2, y3, y4, y5, hf, g0, g1, g2, r2, g3, g4, g5, r5⟩ := (qb _ (List.getElem_mem hi)).is.ex
    have hin := aBh (s := y0) hla (fun e he => (qa e he).is)
    rw [vC]
    simp -implicitDefEqProofs only [Int.ofNat_lt, hi, decide_true, aF, Int.natCast_nonneg, Bool.and_true, Int.toNat_natCast, aC, aQ (fun e he => (qb e he).is.len), aZ hi]
    rw [hf]
    simp -implicitDefEqProofs only [bY, bX, hin, Option.bind_some, bV, cX, zP (show out.length + 1 ≤ 3400000000000 by omega), aC, aDr, bC (Nat.lt_of_lt_of_le hi hlb)]
    rw [bO, dG hi, List.flatMap_cons, hf]
    by_cases hk : dJ y0 0 a < 0
    · rw [if_pos (decide_eq_true hk), ih _ (by rw [List.length_append]; simp; omega), List.append_assoc]
      simp -implicitDefEqProofs only [fldB, aY, List.getElem?_cons_zero, hk, if_true, chg]
    · rw [if_neg (by simpa using hk), ih _ (by omega)]
      simp -implicitDefEqProofs only [fldB, aY, List.getElem?_cons_zero, hk, if_false, List.nil_append]
theorem aHt (hn : nm.size ≤ 1048576) (ha : a.length ≤ 1048576) (hb : b.length ≤ 1048576) (qa : ∀ e ∈ a, FOk e) (qb : ∀ e ∈ b, FOk e) :
    Dn F.aTa [.agg [.int .i64 i0, .bool b1, .str s2, .str nm, .sl fP e4, .sl fP a, .sl fP e6, .sl fP e7, .sl fP e8, .bool b9, .sl fP e10], .agg [.int .i64 j0, .bool c1, .str t2, .str t3, .sl fP f4, .sl fP b, .sl fP f6, .sl fP f7, .sl fP f8, .bool c9, .sl fP f10]] [] = some (.own (some T.aUl) (fldCh nm a b), []) := by
  refine aW ?_
  rw [aEP]
  have h1 := aKp (i0 := i0) (b1 := b1) (s2 := s2) (e4 := e4) (e6 := e6) (e7 := e7) (e8 := e8) (b9 := b9) (e10 := e10) (j0 := j0) (c1 := c1) (t2 := t2) (t3 := t3) (f4 := f4) (f6 := f6) (f7 := f7) (f8 := f8) (c9 := c9) (f10 := f10) hn ha hb qa qb 0 (Nat.zero_le _) [] (by simp)
  have hl := flatMap_lenM (f := fldA nm b) (l := a) fun x hx => aBE (nm := nm) (qa x hx) qb
  have h2 := aKw (i0 := i0) (b1 := b1) (s2 := s2) (nm := nm) (e4 := e4) (e6 := e6) (e7 := e7) (e8 := e8) (b9 := b9) (e10 := e10) (j0 := j0) (c1 := c1) (t2 := t2) (t3 := t3) (f4 := f4) (f6 := f6) (f7 := f7) (f8 := f8) (c9 := c9) (f10 := f10) ha hb qa qb 0 (Nat.zero_le _) (a.flatMap (fldA nm b)) (by omega)
  simp only [List.drop_zero, List.nil_append] at h1 h2
  exact h1.trans h2
theorem aMQ (ha : e7.length ≤ 1048576) (qa : ∀ e ∈ e7, cK e) : ∀ i : Nat, i ≤ e7.length → ∀ out : List El, out.length ≤ i →
    gO Dn (mG out i i0 b1 s2 nm e4 a e6 e7 e8 b9 e10) = some (.own (some T.aUK) (out ++ vals (e7.drop i)), []) := by
  have hml : (1048576 : Nat) ≤ maxLen := by decide
  refine cC ?_ ?_
  · intro out ho; rw [uX]; simp [vals]
  · intro i hi ih out ho
    obtain ⟨x0, x1, x2, he, _⟩ := (qa _ (List.getElem_mem hi)).ex
    rw [uX]
    simp -implicitDefEqProofs only [Int.ofNat_lt, hi, decide_true, aF, Int.natCast_nonneg, Bool.and_true, Int.toNat_natCast, aC, aQ (fun e he => (qa e he).len), aZ hi]
    rw [he]
    simp -implicitDefEqProofs only [bY, bX, (zA (show out.length ≤ 4194304 by omega)).1, (zA (show out.length ≤ 4194304 by omega)).2, aC, bC (Nat.lt_of_lt_of_le hi (Nat.le_trans ha hml))]
    rw [ih _ (by rw [List.length_append]; simp; omega), dG hi, he, List.append_assoc]
    rfl
theorem zJ (ha : e7.length ≤ 1048576) (qa : ∀ e ∈ e7, cK e) : Dn F.aTh [.agg [.int .i64 i0, .bool b1, .str s2, .str nm, .sl fP e4, .sl fP a, .sl fP e6, .sl fP e7, .sl fP e8, .bool b9, .sl fP e10]] [] = some (.own (some T.aUK) (vals e7), []) := by
  refine aW ?_
  rw [aE6]
  exact aMQ ha qa 0 (Nat.zero_le _) [] (by simp)
end
end Go.Vs.Old
end
section
open Go Go.Vs Go.Proofs
set_option linter.unusedVariables false
set_option linter.unusedSimpArgs false
namespace Go.Vs.Old
def rep (c : Int) (o : ByteArray) (q : Bool) : List El := if q = true then [chg c o nul] else []
noncomputable def tailCh (o nm : ByteArray) (k : Int) (r r' : Bool) (e4 e5 e6 e7 f4 f5 f6 f7 : List El) : List El :=
  if (k == 2 || k == 3) = true then nameCh o e4 f4 12 24 ++ fldCh nm e5 f5
  else if (k == 4) = true then nameCh o e4 f4 11 23
  else if (k == 5) = true then nameCh o (vals e7) (vals f7) 10 22
  else if (k == 6) = true then inCh o e6 f6
  else if (k == 7) = true then nameCh o e4 f4 14 26 ++ (rep 15 o (r && !r') ++ (rep 27 o (!r && r') ++ inCh o e6 f6))
  else []
def dirNm (k : Int) (nm : ByteArray) : ByteArray := if (k == 7) = true then ByteArray.mk #[64] ++ nm else nm
noncomputable def defCh (x y : El) : List El :=
  if (intAt x 0 != intAt y 0) = true then [chg 3 (aY x 3) nul] else
    rep 28 (dirNm (intAt x 0) (aY x 3)) (!((aY x 2).toList == (aY y 2).toList)) ++
      tailCh (dirNm (intAt x 0) (aY x 3)) (aY x 3) (intAt x 0) (uQ x 9) (uQ y 9) (slAt x 4) (slAt x 5) (slAt x 6) (slAt x 7) (slAt y 4) (slAt y 5) (slAt y 6) (slAt y 7)
structure DOk (nm : ByteArray) (e4 e5 e6 e7 : List El) : Prop where
  nm : nm.size ≤ 1048576
  l4 : e4.length ≤ 1048576
  q4 : ∀ e ∈ e4, dP e
  l5 : e5.length ≤ 1048576
  q5 : ∀ e ∈ e5, FOk e
  l6 : e6.length ≤ 1048576
  q6 : ∀ e ∈ e6, cI e
  l7 : e7.length ≤ 1048576
  q7 : ∀ e ∈ e7, cK e
theorem vals_len (l : List El) : (vals l).length = l.length := List.length_map _
theorem aGk {l : List El} (h : ∀ e ∈ l, cK e) : ∀ e ∈ vals l, dP e := by
  intro e he
  obtain ⟨x, hx, rfl⟩ := List.mem_map.1 he
  obtain ⟨x0, x1, x2, rfl, h0, _⟩ := (h x hx).ex
  exact ⟨x0, rfl, h0⟩
theorem FOk.of {e : El} (h : cE e) (hb : bdL 1048576 e) : FOk e := by
  refine ⟨h, ?_, ?_⟩ <;> (cases h; simp only [bdL, bdF] at hb)
  · exact hb.1
  · exact hb.2.2.1.1
theorem rep_len (c : Int) (o : ByteArray) (q : Bool) : (rep c o q).length ≤ 1 := by unfold rep; split <;> simp
theorem aMh {c : Int} {o : ByteArray} {q : Bool} : ∀ e ∈ rep c o q, cF e := by
  intro e he
  unfold rep at he
  split at he
  · rw [List.mem_singleton.1 he]; exact .mk _ _ _
  · simp at he
theorem aOp {o nm : ByteArray} {k : Int} {r r' : Bool} {e4 e5 e6 e7 f4 f5 f6 f7 : List El} : ∀ e ∈ tailCh o nm k r r' e4 e5 e6 e7 f4 f5 f6 f7, cF e := by
  intro e he
  unfold tailCh at he
  split at he
  · rcases List.mem_append.1 he with he | he
    · exact oB e he
    · exact aHd e he
  · split at he
    · exact oB e he
    · split at he
      · exact oB e he
      · split at he
        · exact vT e he
        · split at he
          · rcases List.mem_append.1 he with he | he
            · exact oB e he
            · rcases List.mem_append.1 he with he | he
              · exact aMh e he
              · rcases List.mem_append.1 he with he | he
                · exact aMh e he
                · exact vT e he
          · simp at he
theorem defCh_all {x y : El} : ∀ e ∈ defCh x y, cF e := by
  intro e he
  unfold defCh at he
  split at he
  · rw [List.mem_singleton.1 he]; exact .mk _ _ _
  · rcases List.mem_append.1 he with he | he
    · exact aMh e he
    · exact aOp e he
section
variable {k j0 : Int} {b1 b9 c1 c9 : Bool} {o s2 nm t2 t3 : ByteArray} {e4 e5 e6 e7 e8 e10 f4 f5 f6 f7 f8 f10 : List El}
theorem aJf (hx : DOk nm e4 e5 e6 e7) (hy : DOk t3 f4 f5 f6 f7) {out : List El} (ho : out.length ≤ 4000000) :
    aO Dn (lA out o k b1 s2 nm e4 e5 e6 e7 e8 b9 e10 j0 c1 t2 t3 f4 f5 f6 f7 f8 c9 f10) = some (.own (some T.aUl) (out ++ inCh o e6 f6), []) := by
  have hcl := inCh_len o e6 f6
  have l6 := hx.l6
  have m6 := hy.l6
  rw [aC4]
  simp -implicitDefEqProofs only [sK hx.l6 hy.l6 hx.q6 hy.q6, Option.bind_some, gD, zP (show out.length + (inCh o e6 f6).length ≤ 3400000000000 by omega), aQ (fun e he => (vT (o := o) (a := e6) (b := f6) e he).len), Bool.and_self, aC, gL]
theorem aI5 (hx : DOk nm e4 e5 e6 e7) (hy : DOk t3 f4 f5 f6 f7) (p : Bool) {out : List El} (ho : out.length ≤ 3500000) : aO Dn (lM out o p k b1 s2 nm e4 e5 e6 e7 e8 b9 e10 j0 c1 t2 t3 f4 f5 f6 f7 f8 c9 f10) = some (.own (some T.aUl) (out ++ (rep 27 o p ++ inCh o e6 f6)), []) := by
  rw [aC5]
  cases p
  · simp -implicitDefEqProofs only [aI]
    rw [aJf hx hy (by omega)]; rfl
  · simp -implicitDefEqProofs only [aF, zP (show out.length + 1 ≤ 3400000000000 by omega), Bool.and_true, aC]
    rw [aJf hx hy (by rw [List.length_append]; simp; omega), List.append_assoc]; rfl
theorem aJN (hx : DOk nm e4 e5 e6 e7) (hy : DOk t3 f4 f5 f6 f7) {out : List El} (ho : out.length ≤ 3500000) : aO Dn (lK out o k b1 s2 nm e4 e5 e6 e7 e8 b9 e10 j0 c1 t2 t3 f4 f5 f6 f7 f8 c9 f10) = some (.own (some T.aUl) (out ++ (rep 27 o (!b9 && c9) ++ inCh o e6 f6)), []) := by
  rw [aBM, aI5 hx hy c9 ho, aI5 hx hy false ho]
  cases b9 <;> rfl
theorem aOD (hx : DOk nm e4 e5 e6 e7) (hy : DOk t3 f4 f5 f6 f7) (q : Bool) {out : List El} (ho : out.length ≤ 3000000) :
    aO Dn (lO out o q k b1 s2 nm e4 e5 e6 e7 e8 b9 e10 j0 c1 t2 t3 f4 f5 f6 f7 f8 c9 f10) = some (.own (some T.aUl) (out ++ (rep 15 o q ++ (rep 27 o (!b9 && c9) ++ inCh o e6 f6))), []) := by
  rw [aBN]
  cases q
  · simp -implicitDefEqProofs only [aI]
    rw [aJN hx hy (by omega)]; rfl
  · simp -implicitDefEqProofs only [aF, zP (show out.length + 1 ≤ 3400000000000 by omega), Bool.and_true, aC]
    rw [aJN hx hy (by rw [List.length_append]; simp; omega), List.append_assoc]; rfl
theorem aJG (hx : DOk nm e4 e5 e6 e7) (hy : DOk t3 f4 f5 f6 f7) {out : List El} (ho : out.length ≤ 1) :
    aO Dn (jE out o k b1 s2 nm e4 e5 e6 e7 e8 b9 e10 j0 c1 t2 t3 f4 f5 f6 f7 f8 c9 f10) = some (.own (some T.aUl) (out ++ tailCh o nm k b9 c9 e4 e5 e6 e7 f4 f5 f6 f7), []) := by
  have two : aO Dn (jE out o k b1 s2 nm e4 e5 e6 e7 e8 b9 e10 j0 c1 t2 t3 f4 f5 f6 f7 f8 c9 f10) = aO Dn (lE out o k (k == 2 || k == 3) k b1 s2 nm e4 e5 e6 e7 e8 b9 e10 j0 c1 t2 t3 f4 f5 f6 f7 f8 c9 f10) := by
    rw [aCt, bO]
    cases h : k == 2 <;> simp -implicitDefEqProofs only [if_true, Bool.false_eq_true, if_false, Bool.true_or, Bool.false_or]
  have x4 := hx.l4; have x5 := hx.l5; have x6 := hx.l6; have x7 := hx.l7
  have y4 := hy.l4; have y5 := hy.l5; have y6 := hy.l6; have y7 := hy.l7
  have nl := fun g f => nameCh_len o e4 f4 g f
  have vl := nameCh_len o (vals e7) (vals f7) 10 22
  rw [vals_len, vals_len] at vl
  have fl := aLq (nm := nm) hx.l5 hy.l5 hx.q5 hy.q5
  have il := inCh_len o e6 f6
  have nr : ∀ g f, decide ((out.length + (nameCh o e4 f4 g f).length) * 40 ≤ aH) = true := fun g f => zP (by have := nl g f; omega)
  have ns : ∀ g f, sized 3 (nameCh o e4 f4 g f) = true := fun g f => aQ fun e he => (oB e he).len
  have vn := nC (o := o) (gone := 10) (fresh := 22) (a := vals e7) (b := vals f7) (by rw [vals_len]; exact x7) (by rw [vals_len]; exact y7) (aGk hx.q7) (aGk hy.q7)
  rw [two, aCT, bO]
  unfold tailCh
  by_cases h23 : (k == 2 || k == 3) = true
  · rw [if_pos h23, if_pos h23]
    have fr : decide (((out ++ nameCh o e4 f4 12 24).length + (fldCh nm e5 f5).length) * 40 ≤ aH) = true := zP (by have := nl 12 24; rw [List.length_append]; omega)
    simp -implicitDefEqProofs only [nC hx.l4 hy.l4 hx.q4 hy.q4, Option.bind_some, gD, nr, ns, Bool.and_self, aC, aHt hx.nm hx.l5 hy.l5 hx.q5 hy.q5, fr, aQ (fun e he => (aHd (nm := nm) (a := e5) (b := f5) e he).len), gL, List.append_assoc]
  · rw [if_neg h23, if_neg h23, bO]
    by_cases h4 : (k == 4) = true
    · rw [if_pos h4, if_pos h4]
      simp -implicitDefEqProofs only [nC hx.l4 hy.l4 hx.q4 hy.q4, Option.bind_some, gD, nr, ns, Bool.and_self, aC, gL]
    · rw [if_neg h4, if_neg h4, bO]
      by_cases h5 : (k == 5) = true
      · rw [if_pos h5, if_pos h5]
        simp -implicitDefEqProofs only [zJ hx.l7 hx.q7, zJ hy.l7 hy.q7, vn, Option.bind_some, gD, zP (show out.length + (nameCh o (vals e7) (vals f7) 10 22).length ≤ 3400000000000 by omega), aQ (fun e he => (oB (o := o) (a := vals e7) (b := vals f7) (g := 10) (f := 22) e he).len), Bool.and_self, aC, gL]
      · rw [if_neg h5, if_neg h5, bO]
        by_cases h6 : (k == 6) = true
        · rw [if_pos h6, if_pos h6]
          simp -implicitDefEqProofs only [sK hx.l6 hy.l6 hx.q6 hy.q6, Option.bind_some, gD, zP (show out.length + (inCh o e6 f6).length ≤ 3400000000000 by omega), aQ (fun e he => (vT (o := o) (a := e6) (b := f6) e he).len), Bool.and_self, aC, gL]
        · rw [if_neg h6, if_neg h6, bO]
          by_cases h7 : (k == 7) = true
          · rw [if_pos h7, if_pos h7]
            have ol : (out ++ nameCh o e4 f4 14 26).length ≤ 3000000 := by have := nl 14 26; rw [List.length_append]; omega
            simp -implicitDefEqProofs only [nC hx.l4 hy.l4 hx.q4 hy.q4, Option.bind_some, gD, nr, ns, Bool.and_self, aC, aOD hx hy _ ol]
            cases b9 <;> simp -implicitDefEqProofs only [beq_self_eq_true, show ((false : Bool) == true) = false from rfl, aF, aI, Bool.true_and, Bool.false_and, List.append_assoc]
          · rw [if_neg h7, if_neg h7, gL, List.append_nil]
theorem aQc : defCh [.int .i64 k, .bool b1, .str s2, .str nm, .sl fP e4, .sl fP e5, .sl fP e6, .sl fP e7, .sl fP e8, .bool b9, .sl fP e10] [.int .i64 j0, .bool c1, .str t2, .str t3, .sl fP f4, .sl fP f5, .sl fP f6, .sl fP f7, .sl fP f8, .bool c9, .sl fP f10] =
    if (k != j0) = true then [chg 3 nm nul] else rep 28 (dirNm k nm) (!(s2.toList == t2.toList)) ++ tailCh (dirNm k nm) nm k b9 c9 e4 e5 e6 e7 f4 f5 f6 f7 := rfl
theorem d_spec_DefChanges (hx : DOk nm e4 e5 e6 e7) (hy : DOk t3 f4 f5 f6 f7) :
    Dn F.aS1 [.agg [.int .i64 k, .bool b1, .str s2, .str nm, .sl fP e4, .sl fP e5, .sl fP e6, .sl fP e7, .sl fP e8, .bool b9, .sl fP e10], .agg [.int .i64 j0, .bool c1, .str t2, .str t3, .sl fP f4, .sl fP f5, .sl fP f6, .sl fP f7, .sl fP f8, .bool c9, .sl fP f10]] [] =
      some (.own (some T.aUl) (defCh [.int .i64 k, .bool b1, .str s2, .str nm, .sl fP e4, .sl fP e5, .sl fP e6, .sl fP e7, .sl fP e8, .bool b9, .sl fP e10] [.int .i64 j0, .bool c1, .str t2, .str t3, .sl fP f4, .sl fP f5, .sl fP f6, .sl fP f7, .sl fP f8, .bool c9, .sl fP f10]), []) := by
  have z : decide ((ByteArray.mk #[64]).size + nm.size ≤ 140737488355328) = true := decide_eq_true (by have := hx.nm; show 1 + _ ≤ _; omega)
  have s0 : ∀ o : ByteArray, aO Dn (lL o k b1 s2 nm e4 e5 e6 e7 e8 b9 e10 j0 c1 t2 t3 f4 f5 f6 f7 f8 c9 f10) = some (.own (some T.aUl) (rep 28 o (!(s2.toList == t2.toList)) ++ tailCh o nm k b9 c9 e4 e5 e6 e7 f4 f5 f6 f7), []) := fun o => by
    rw [aBU]
    cases h : s2.toList == t2.toList
    · simp -implicitDefEqProofs only [Bool.not_false, aF]
      rw [aJG hx hy (by simp)]; rfl
    · simp -implicitDefEqProofs only [Bool.not_true, aI]
      rw [aJG hx hy (by simp)]; rfl
  refine aW ?_
  rw [aDq, s0, s0, z, aC, bO, bO]
  rw [aQc]
  unfold dirNm
  by_cases h : (k != j0) = true
  · rw [if_pos h, if_pos h]; rfl
  · rw [if_neg h, if_neg h]
    by_cases h7 : (k == 7) = true
    · rw [if_pos h7, if_pos h7]
    · rw [if_neg h7, if_neg h7]
end
end Go.Vs.Old
end
section
open Go Go.Vs Go.Proofs
set_option linter.unusedVariables false
set_option linter.unusedSimpArgs false
namespace Go.Vs.Old
theorem aOX {s : ByteArray} : ∀ (l : List El) (i : Int), 0 ≤ i → eD l s = decide (dJ s i l ≥ 0)
  | [], i, h => by simp [eD, dJ]
  | e :: l, i, h => by
    have ih := aOX (s := s) l (i + 1) (by omega)
    unfold eD at ih ⊢
    rw [List.any_cons, ih]
    rw [show dJ s i (e :: l) = if ((aY e 0).toList == s.toList) = true then i else dJ s (i + 1) l from rfl]
    cases hc : (aY e 0).toList == s.toList
    · simp only [Bool.false_or, Bool.false_eq_true, if_false]
    · simp [h]
theorem aRi (a b : List UInt8) : (a == b) = (b == a) := by rw [Bool.eq_iff_iff, beq_iff_eq, beq_iff_eq]; exact eq_comm
theorem aFP {es : List El} {s : ByteArray} (hl : es.length ≤ maxLen) (hq : ∀ e ∈ es, dP e) : ∀ i : Nat, i ≤ es.length →
    cV Dn (dZ es s es.length i) = some (aG (dJ s i (es.drop i)), []) := by
  refine cC ?_ ?_
  · rw [kW]; simp [dJ]
  · intro i hi ih
    obtain ⟨u, hu, _⟩ := hq _ (List.getElem_mem hi)
    rw [kW, dG hi]
    simp only [Int.ofNat_lt, hi, decide_true, aF, Int.natCast_nonneg, Bool.and_true, Int.toNat_natCast, aC, bC (Nat.lt_of_lt_of_le hi hl), aQ (fun e he => (hq e he).len), aZ hi]
    rw [hu]
    simp only [bY, bX, bO, dJ, aY, List.getElem?_cons_zero, ih]
    rw [aRi s.toList u.toList]
    by_cases hx : (u.toList == s.toList) = true <;> simp [hx]
theorem yA {es : List El} {s : ByteArray} (hl : es.length ≤ maxLen) (hq : ∀ e ∈ es, dP e) : Dn F.aSx [vsl es, .leaf (.str s)] [] = some (aN (eD es s), []) := by
  have key : Dn F.aSC [vsl es, .leaf (.str s)] [] = some (aG (dJ s 0 es), []) := by
    refine aW ?_
    rw [rV]
    exact aFP hl hq 0 (Nat.zero_le _)
  refine aW ?_
  rw [pU, key, aOX es 0 (by omega)]
  simp only [Option.bind_some, bV, cX]
def zD (q : Bool) (code : Int) (s p : ByteArray) : List El := if q = true then [chg code s p] else []
theorem nI (q : Bool) (code : Int) (s p : ByteArray) : (zD q code s p).length ≤ 1 := by unfold zD; split <;> simp
theorem oH {q : Bool} {code : Int} {s p : ByteArray} {out : List El} (hr : out.length ≤ 4194304) : Dn F.aSK [.ptr 0 0, aN q, aG code, .leaf (.str s), .leaf (.str p)] [[.own (some T.aUl) out]] =
    some (.tup [], [[.own (some T.aUl) (out ++ zD q code s p)]]) := by
  refine aW ?_
  rw [uF]
  simp only [aKm hr, aC, bO]
  unfold zD
  cases q
  · simp
  · simp only [if_true, chg]
section
variable {o : ByteArray} {a b : List El} {gone fresh : Int}
theorem aLQ (ha : a.length ≤ 1048576) (hb : b.length ≤ 1048576) (qa : ∀ e ∈ a, dP e) (qb : ∀ e ∈ b, dP e) : ∀ i : Nat, i ≤ a.length → ∀ out : List El, out.length ≤ i →
    cQ Dn (kR o a b gone fresh a a.length i out) = cQ Dn (iQ o a fresh b b.length 0 (out ++ (a.drop i).flatMap fun x => if eD b (aY x 0) = true then [] else [chg gone o (aY x 0)])) := by
  have hml : (1048576 : Nat) ≤ maxLen := by decide
  refine cC ?_ ?_
  · intro out ho; rw [sC]; simp
  · intro i hi ih out ho
    obtain ⟨u, hu, _⟩ := qa _ (List.getElem_mem hi)
    have hl1 := nI (!(eD b u)) gone o u
    have hin := yA (s := u) (Nat.le_trans hb hml) qb
    have had := oH (q := !(eD b u)) (code := gone) (s := o) (p := u) (out := out) (by omega)
    rw [sC]
    simp -implicitDefEqProofs only [Int.ofNat_lt, hi, decide_true, aF, Int.natCast_nonneg, Bool.and_true, Bool.and_self, Int.toNat_natCast, aC, aQ (fun e he => (qa e he).len), aZ hi, hu, bY, bX, hin, Option.bind_some, bV, bZ, had, lV, fA, gD, gH, kM, nB, bC (Nat.lt_of_lt_of_le hi (Nat.le_trans ha hml))]
    rw [ih _ (by rw [List.length_append]; omega), dG hi, List.flatMap_cons, hu, show aY [aA.str u] 0 = u from rfl, List.append_assoc]
    unfold zD
    cases eD b u <;> rfl
theorem aMi (ha : a.length ≤ 1048576) (hb : b.length ≤ 1048576) (qa : ∀ e ∈ a, dP e) (qb : ∀ e ∈ b, dP e) : ∀ i : Nat, i ≤ b.length → ∀ out : List El, out.length ≤ 1048576 + i →
    cQ Dn (iQ o a fresh b b.length i out) = some (.own (some T.aUl) (out ++ (b.drop i).flatMap fun y => if eD a (aY y 0) = true then [] else [chg fresh o (aY y 0)]), []) := by
  have hml : (1048576 : Nat) ≤ maxLen := by decide
  refine cC ?_ ?_
  · intro out ho; rw [sF]; simp
  · intro i hi ih out ho
    obtain ⟨u, hu, _⟩ := qb _ (List.getElem_mem hi)
    have hl1 := nI (!(eD a u)) fresh o u
    have hin := yA (s := u) (Nat.le_trans ha hml) qa
    have had := oH (q := !(eD a u)) (code := fresh) (s := o) (p := u) (out := out) (by omega)
    rw [sF]
    simp -implicitDefEqProofs only [Int.ofNat_lt, hi, decide_true, aF, Int.natCast_nonneg, Bool.and_true, Bool.and_self, Int.toNat_natCast, aC, aQ (fun e he => (qb e he).len), aZ hi, hu, bY, bX, hin, Option.bind_some, bV, bZ, had, lV, fA, gD, gH, kM, nB, bC (Nat.lt_of_lt_of_le hi (Nat.le_trans hb hml))]
    rw [ih _ (by rw [List.length_append]; omega), dG hi, List.flatMap_cons, hu, show aY [aA.str u] 0 = u from rfl, List.append_assoc]
    unfold zD
    cases eD a u <;> rfl
theorem wQ (ha : a.length ≤ 1048576) (hb : b.length ≤ 1048576) (qa : ∀ e ∈ a, dP e) (qb : ∀ e ∈ b, dP e) : Dn F.aSI [.leaf (.str o), vsl a, vsl b, aG gone, aG fresh] [] = some (.own (some T.aUl) (nameCh o a b gone fresh), []) := by
  have h1 := aLQ (o := o) (gone := gone) (fresh := fresh) ha hb qa qb 0 (Nat.zero_le _) [] (by simp)
  have hl : (a.flatMap fun x => if eD b (aY x 0) = true then [] else [chg gone o (aY x 0)]).length ≤ 1 * a.length := flatMap_len (fun x => by split <;> simp) a
  have h2 := aMi (o := o) (fresh := fresh) ha hb qa qb 0 (Nat.zero_le _) (a.flatMap fun x => if eD b (aY x 0) = true then [] else [chg gone o (aY x 0)]) (by omega)
  simp only [List.drop_zero, List.nil_append] at h1 h2
  refine aW ?_
  rw [aCr]
  exact h1.trans h2
end
theorem aMT {a : List El} (ha : a.length ≤ 1048576) (qa : ∀ e ∈ a, cK e) : ∀ i : Nat, i ≤ a.length → ∀ out : List El, out.length ≤ i →
    fU Dn (lN out a a.length i) = some (.own (some T.aUK) (out ++ vals (a.drop i)), []) := by
  have hml : (1048576 : Nat) ≤ maxLen := by decide
  refine cC ?_ ?_
  · intro out ho; rw [uL]; simp [vals]
  · intro i hi ih out ho
    obtain ⟨x0, x1, x2, he, _⟩ := (qa _ (List.getElem_mem hi)).ex
    rw [uL]
    simp -implicitDefEqProofs only [Int.ofNat_lt, hi, decide_true, aF, Int.natCast_nonneg, Bool.and_true, Int.toNat_natCast, aC, aQ (fun e he => (qa e he).len), aZ hi]
    rw [he]
    simp -implicitDefEqProofs only [dI, bY, dC, bX, eW, (zA (show out.length ≤ 4194304 by omega)).1, (zA (show out.length ≤ 4194304 by omega)).2, aC, bC (Nat.lt_of_lt_of_le hi (Nat.le_trans ha hml))]
    rw [ih _ (by rw [List.length_append]; simp; omega), dG hi, he, List.append_assoc]
    rfl
theorem yJ {a : List El} (ha : a.length ≤ 1048576) (qa : ∀ e ∈ a, cK e) : Dn F.aSX [vsl a] [] = some (.own (some T.aUK) (vals a), []) := by
  refine aW ?_
  rw [aDn]
  exact aMT ha qa 0 (Nat.zero_le _) [] (by simp)
theorem aHi {e : El} {s : ByteArray} (h : cE e) : Dn F.aTd [.agg e, .ptr 0 0] [[.leaf (.str s)]] = some (aN ((aY e 0).toList == s.toList), [[.leaf (.str s)]]) := by
  cases h
  refine aW ?_
  rw [aE5]
  rfl
theorem aNt {es : List El} {s : ByteArray} (hl : es.length ≤ maxLen) (hq : ∀ e ∈ es, cE e) : ∀ i : Nat, i ≤ es.length →
    bI Dn (cH es F.aTd es.length i s) = some (aG (dJ s i (es.drop i)), [[.leaf (.str s)]]) := by
  refine cC ?_ ?_
  · rw [eG]; simp [dJ]
  · intro i hi ih
    have hci := aHi (s := s) (hq _ (List.getElem_mem hi))
    obtain ⟨s0, s1, e2, s3, s4, e5, he, h0⟩ := (hq _ (List.getElem_mem hi)).ex
    rw [eG, dG hi]
    simp only [Int.ofNat_lt, hi, decide_true, aF, Int.natCast_nonneg, Bool.and_true, Int.toNat_natCast, aC, bC (Nat.lt_of_lt_of_le hi hl), aQ (fun e he => (hq e he).len), aZ hi]
    rw [he] at hci ⊢
    simp only [dI, bY, dC, cX, bX, bZ, eW, hci, Option.bind_some, lV, fA, bV, gH, kM, bO, dJ, aY, List.getElem?_cons_zero, ih]
    by_cases hx : (s0.toList == s.toList) = true <;> simp [hx]
def aRg : El := [.str nul, .str nul, .sl fP [], .str nul, .str nul, .sl fP []]
def fieldAt (l : List El) (s : ByteArray) : El := if dJ s 0 l < 0 then aRg else l.getD (dJ s 0 l).toNat []
theorem aB1 {k : Int} {b1 b9 : Bool} {s2 nm s : ByteArray} {e4 a e6 e7 e8 e10 : List El} (hl : a.length ≤ maxLen) (hq : ∀ e ∈ a, cE e) :
    Dn F.aTR [.agg [.int .i64 k, .bool b1, .str s2, .str nm, .sl fP e4, .sl fP a, .sl fP e6, .sl fP e7, .sl fP e8, .bool b9, .sl fP e10], .leaf (.str s)] [] =
      some (.tup [.agg (fieldAt a s), aN (!(decide (dJ s 0 a < 0)))], []) := by
  have key : Dn F.aSp [vsl a, .fn F.aTd [.ptr 0 0]] [[.leaf (.str s)]] = some (aG (dJ s 0 a), [[.leaf (.str s)]]) := by
    refine aW ?_
    rw [jD]
    exact aNt hl hq 0 (Nat.zero_le _)
  refine aW ?_
  rw [aGR, key]
  simp -implicitDefEqProofs only [Option.bind_some, lV, fA, bV, bX, gH, kM, cX]
  unfold fieldAt
  by_cases hk : dJ s 0 a < 0
  · simp -implicitDefEqProofs only [hk, decide_true, aF, if_true, Bool.not_true]
    rfl
  · obtain ⟨j, hj, hjb⟩ := idx_get hk
    obtain ⟨y0, y1, y2, y3, y4, y5, hf, g0⟩ := (hq _ (List.getElem_mem hjb)).ex
    have hjn : ¬ ((j : Int) < 0) := by omega
    rw [hj]
    simp -implicitDefEqProofs only [hjn, decide_false, aI, if_false, Bool.not_false, Int.ofNat_lt, hjb, decide_true, Int.natCast_nonneg, Bool.and_true, Int.toNat_natCast, aC, aQ (fun e he => (hq e he).len), aZ hjb, hf, dI, bY, dC, bX, eW]
end Go.Vs.Old
end
section
open Go Go.Vs Go.Proofs
set_option linter.unusedVariables false
set_option linter.unusedSimpArgs false
namespace Go.Vs.Old
section
variable {o : ByteArray} {a b : List El}
theorem aRz {x : bR} (hx : cI x.l) : dM [.int .i64 x.a5, .str x.a6, .sl fP x.a7, .sl fP x.a8] := by
  obtain ⟨h0, h1, h2, h3, h6, h7, q7, h8, q8, _⟩ := hx.p
  exact .mk _ _ _ _ h6 h7 q7 h8 q8
theorem aRe {out e1 e2 e19 : List El} {n i : Int} {x y : bR} (hx : cI x.l) (hy : cI y.l) (hr : out.length ≤ 4194000) :
    aR Dn (oP o e1 e2 e19 n i x y out) = aR Dn (iV o e1 e2 e19 n i (out ++ d2 o x.a0 x.a4 y.a4 y.a3 [.int .i64 x.a5, .str x.a6, .sl fP x.a7, .sl fP x.a8] [.int .i64 y.a5, .str y.a6, .sl fP y.a7, .sl fP y.a8])) := by
  have sv : Dn F.aS2 [.agg (fN.l ⟨x.a5, x.a6, x.a7, x.a8⟩), .agg (fN.l ⟨y.a5, y.a6, y.a7, y.a8⟩)] [] = _ := (aH6 (aRz hx) (aRz hy)).1
  have hw : y.a3.size ≤ maxLen := hy.p.2.2.2.1
  have nd : Dn F.aT2 [.agg (nL.l ⟨y.a2, y.a3⟩)] [] = _ := aDY hw
  have r0 : out.length ≤ 4194304 := by omega
  have ad0 := fun (q : Bool) (code : Int) (s p : ByteArray) => oH (q := q) (code := code) (s := s) (p := p) r0
  have ad1 := fun (q q' : Bool) (code code' : Int) (s p s' p' : ByteArray) => oH (q := q) (code := code) (s := s) (p := p) (out := out ++ zD q' code' s' p') (by have := nI q' code' s' p'; rw [List.length_append]; omega)
  rw [aDu]
  simp -implicitDefEqProofs only [nd, lG, aDM, ad0, gA, ad1, sv]
  unfold d2 zD
  generalize eqL [.int .i64 x.a5, .str x.a6, .sl fP x.a7, .sl fP x.a8] [.int .i64 y.a5, .str y.a6, .sl fP y.a7, .sl fP y.a8] = q
  cases x.a4 <;> cases y.a4 <;> cases mT y.a3 33 <;> cases q <;> simp -implicitDefEqProofs only [aF, aI, beq_self_eq_true, Bool.not_true, Bool.not_false, Bool.and_true, Bool.and_false, Bool.false_and, Bool.true_and, Bool.or_true, Bool.or_false, Bool.true_or, Bool.false_or, if_true, Bool.false_eq_true, if_false, List.append_nil, show ((false : Bool) == true) = false from rfl, show ((true : Bool) == false) = false from rfl]
theorem aSk (ha : a.length ≤ 1048576) (hb : b.length ≤ 1048576) (qa : ∀ e ∈ a, cI e) (qb : ∀ e ∈ b, cI e) : ∀ i : Nat, i ≤ a.length → ∀ out : List El, out.length ≤ 2 * i →
    aR Dn (oZ o a b a a.length i out) = aR Dn (kH o a b b.length 0 (out ++ (a.drop i).flatMap (perA o b))) := by
  have hml : (1048576 : Nat) ≤ maxLen := by decide
  have hla : a.length ≤ maxLen := Nat.le_trans ha hml
  have hlb : b.length ≤ maxLen := Nat.le_trans hb hml
  refine cC ?_ ?_
  · intro out ho; rw [vJ]; simp
  · intro i hi ih out ho
    have hro : out.length ≤ 4194304 := by omega
    obtain ⟨x, he, ix⟩ := (qa _ (List.getElem_mem hi)).st
    have next : ∀ out' : List El, out' = out ++ perA o b a[i] → aR Dn (iV o a b a a.length i out') = aR Dn (kH o a b b.length 0 (out ++ (a.drop i).flatMap (perA o b))) := fun out' ho' => by
      subst ho'
      rw [aDP, bC (Nat.lt_of_lt_of_le hi hla), ih _ (by have := aCg o b a[i]; rw [List.length_append]; omega), dG hi, List.flatMap_cons, List.append_assoc]
    have hin := aH7 (s := x.a0) hlb qb
    have ad0 := fun (q : Bool) (code : Int) (s p : ByteArray) => oH (q := q) (code := code) (s := s) (p := p) hro
    rw [vJ]
    simp -implicitDefEqProofs only [Int.ofNat_lt, hi, decide_true, aF, Int.natCast_nonneg, Bool.and_true, Bool.and_self, Int.toNat_natCast, aC, aQ fun e he => (qa e he).len, aZ hi, he, bR.rd_l, hin, pG]
    rcases aGg x.a0 b 0 (by omega) with hk | ⟨hk0, hk1⟩
    · rw [hk]
      simp -implicitDefEqProofs only [show ((-1 : Int) < 0) by omega, decide_true, aF, ad0, gA]
      refine next _ ?_
      rw [he]
      show _ = out ++ perA o b x.l
      unfold perA
      rw [show aY x.l 0 = x.a0 from rfl, hk, if_pos (by omega)]
      rfl
    · obtain ⟨j, hj⟩ : ∃ j : Nat, dJ x.a0 0 b = (j : Int) := ⟨(dJ x.a0 0 b).toNat, by omega⟩
      have hjb : j < b.length := by omega
      obtain ⟨y, hf, iy⟩ := (qb _ (List.getElem_mem hjb)).st
      have hjn : ¬ ((j : Int) < 0) := by omega
      have r1 : ∀ l : List El, l.length ≤ 1 → (out ++ l).length ≤ 4194000 := fun l hl => by rw [List.length_append]; omega
      have ad1 := fun (q q' : Bool) (code code' : Int) (s p s' p' : ByteArray) => oH (q := q) (code := code) (s := s) (p := p) (out := out ++ zD q' code' s' p') (by have := r1 _ (nI q' code' s' p'); omega)
      have cp : Dn F.aSZ [.agg (nL.l ⟨x.a2, x.a3⟩), .agg (nL.l ⟨y.a2, y.a3⟩)] [] = _ := aFV ix.p.2.2.2.1 iy.p.2.2.2.1
      rw [hj]
      simp -implicitDefEqProofs only [hjn, decide_false, aI, Int.ofNat_lt, hjb, decide_true, Int.natCast_nonneg, Bool.and_true, Bool.and_self, Int.toNat_natCast, aC, aQ fun e he => (qb e he).len, aZ hjb, hf, bR.rd_l, cp, lG, aDv, ad0, ad1, gA]
      have tail := fun (out' : List El) (hr : out'.length ≤ 4194000) => aRe (o := o) (out := out') (e1 := a) (e2 := b) (e19 := a) (n := (a.length : Int)) (i := (i : Int)) ix iy hr
      have pa : perA o b a[i] = d1 o x.a0 x.a2 x.a3 y.a2 y.a3 ++ d2 o x.a0 x.a4 y.a4 y.a3 [.int .i64 x.a5, .str x.a6, .sl fP x.a7, .sl fP x.a8] [.int .i64 y.a5, .str y.a6, .sl fP y.a7, .sl fP y.a8] := by
        rw [he]
        unfold perA
        rw [show aY x.l 0 = x.a0 from rfl, hj, if_neg hjn, Int.toNat_natCast, aZ hjb, hf]
        rfl
      rw [bO]
      by_cases hne : (!(x.a2 == y.a2 && x.a3 == y.a3)) = true
      · simp -implicitDefEqProofs only [Bool.and_true, hne, beq_self_eq_true, if_true, aF]
        rw [tail _ (by have h1 := nI (!yY x.a2 x.a3 y.a2 y.a3) 7 o x.a0; have h2 := nI (yY x.a2 x.a3 y.a2 y.a3) 19 o x.a0; rw [List.length_append, List.length_append]; omega)]
        refine next _ ?_
        rw [pa]
        unfold d1 zD
        rw [if_pos hne]
        cases yY x.a2 x.a3 y.a2 y.a3 <;> simp
      · have hne' : (!(x.a2 == y.a2 && x.a3 == y.a3)) = false := by simpa using hne
        have i0 : ∀ c s p, zD false c s p = [] := fun _ _ _ => rfl
        simp -implicitDefEqProofs only [Bool.and_true, hne', show ((false : Bool) == true) = false from rfl, Bool.false_eq_true, if_false, aI, i0, List.append_nil]
        rw [tail _ (by omega)]
        refine next _ ?_
        rw [pa]
        unfold d1
        rw [if_neg hne]
        simp
theorem aSm (ha : a.length ≤ 1048576) (hb : b.length ≤ 1048576) (qa : ∀ e ∈ a, cI e) (qb : ∀ e ∈ b, cI e) : ∀ i : Nat, i ≤ b.length → ∀ out : List El, out.length ≤ 2097152 + i →
    aR Dn (kH o a b b.length i out) = some (.own (some T.aUl) (out ++ (b.drop i).flatMap (perB o a)), []) := by
  have hml : (1048576 : Nat) ≤ maxLen := by decide
  have hla : a.length ≤ maxLen := Nat.le_trans ha hml
  have hlb : b.length ≤ maxLen := Nat.le_trans hb hml
  refine cC ?_ ?_
  · intro out ho; rw [vF]; simp
  · intro i hi ih out ho
    have hro : out.length ≤ 4194304 := by omega
    obtain ⟨y, he, iy⟩ := (qb _ (List.getElem_mem hi)).st
    have next : ∀ out' : List El, out' = out ++ perB o a b[i] → aR Dn (oW o a b b.length i out') = some (.own (some T.aUl) (out ++ (b.drop i).flatMap (perB o a)), []) := fun out' ho' => by
      subst ho'
      rw [aDi, bC (Nat.lt_of_lt_of_le hi hlb), ih _ (by have := aJW o a b[i]; rw [List.length_append]; omega), dG hi, List.flatMap_cons, List.append_assoc]
    have hin := aH7 (s := y.a0) hla qa
    have nd : Dn F.aT2 [.agg (nL.l ⟨y.a2, y.a3⟩)] [] = _ := aDY iy.p.2.2.2.1
    have ad0 := fun (q : Bool) (code : Int) (s p : ByteArray) => oH (q := q) (code := code) (s := s) (p := p) hro
    have ad1 := fun (q q' : Bool) (code code' : Int) (s p s' p' : ByteArray) => oH (q := q) (code := code) (s := s) (p := p) (out := out ++ zD q' code' s' p') (by have := nI q' code' s' p'; rw [List.length_append]; omega)
    rw [vF]
    simp -implicitDefEqProofs only [Int.ofNat_lt, hi, decide_true, aF, Int.natCast_nonneg, Bool.and_true, Bool.and_self, Int.toNat_natCast, aC, aQ fun e he => (qb e he).len, aZ hi, he, bR.rd_l, hin, pG, nd, lG, aDl, ad0, ad1, gA]
    have pb : perB o a b[i] = if dJ y.a0 0 a ≥ 0 then [] else [chg (if (mT y.a3 33 && !y.a4) = true then 8 else 20) o y.a0] := by
      rw [he]; rfl
    by_cases hk : dJ y.a0 0 a ≥ 0
    · simp -implicitDefEqProofs only [hk, decide_true, aF]
      exact next _ (by rw [pb, if_pos hk]; simp)
    · simp -implicitDefEqProofs only [hk, decide_false, aI]
      rw [if_neg hk] at pb
      cases hn : mT y.a3 33 <;> cases hy : y.a4 <;> simp -implicitDefEqProofs only [beq_self_eq_true, aF, aI, Bool.not_true, Bool.not_false, if_true, Bool.false_eq_true, if_false, List.append_nil, show ((false : Bool) == true) = false from rfl] <;> exact next _ (by rw [pb, hn, hy]; simp [zD])
theorem sR (ha : a.length ≤ 1048576) (hb : b.length ≤ 1048576) (qa : ∀ e ∈ a, cI e) (qb : ∀ e ∈ b, cI e) : Dn F.aS4 [.leaf (.str o), vsl a, vsl b] [] = some (.own (some T.aUl) (inCh o a b), []) := by
  refine aW ?_
  rw [aEz]
  have h1 := aSk (o := o) ha hb qa qb 0 (Nat.zero_le _) [] (by simp)
  have hl := flatMap_len (fun x => aCg o b x) a
  have h2 := aSm (o := o) ha hb qa qb 0 (Nat.zero_le _) (a.flatMap (perA o b)) (by omega)
  simp only [List.drop_zero, List.nil_append] at h1 h2
  exact h1.trans h2
end
end Go.Vs.Old
end
section
open Go Go.Vs Go.Proofs
set_option linter.unusedVariables false
set_option linter.unusedSimpArgs false
namespace Go.Vs.Old
theorem d_addL {q : Bool} {code : Int} {s p : ByteArray} {out : List El} (hr : out.length ≤ 3390000000000) : Dn F.aSK [.ptr 0 0, aN q, aG code, .leaf (.str s), .leaf (.str p)] [[.own (some T.aUl) out]] =
    some (.tup [], [[.own (some T.aUl) (out ++ zD q code s p)]]) := by
  refine aW ?_
  rw [uF]
  simp only [zP (n := out.length) (k := 1) (by omega), Bool.and_true, aC, bO]
  unfold zD
  cases q
  · simp
  · simp only [if_true, chg]
theorem d_all {l out : List El} (hl : ∀ e ∈ l, cF e) (ho : out.length + l.length ≤ 3400000000000) : Dn F.aSJ [.ptr 0 0, vsl l] [[.own (some T.aUl) out]] = some (.tup [], [[.own (some T.aUl) (out ++ l)]]) := by
  refine aW ?_
  rw [aC2]
  simp only [zP ho, aQ fun e he => (hl e he).len, Bool.and_self, aC]
section
variable {x y : aE}
def aRt : cO := ⟨nul, nul, [], nul, nul, []⟩
theorem aQ1 (hn : x.a3.size ≤ 1048576) (ha : x.a5.length ≤ 1048576) (hb : y.a5.length ≤ 1048576) (qa : ∀ e ∈ x.a5, FOk e) (qb : ∀ e ∈ y.a5, FOk e) : ∀ i : Nat, i ≤ x.a5.length → ∀ out : List El, out.length ≤ i * 3145729 →
    bS Dn (mA x.a5 x.a5.length i x y out) = bS Dn (iB y.a5 y.a5.length 0 x (out ++ (x.a5.drop i).flatMap (fldA x.a3 y.a5))) := by
  have hml : (1048576 : Nat) ≤ maxLen := by decide
  have hla : x.a5.length ≤ maxLen := Nat.le_trans ha hml
  have hlb : y.a5.length ≤ maxLen := Nat.le_trans hb hml
  refine cC ?_ ?_
  · intro out ho; rw [rR]; simp
  · intro i hi ih out ho
    have hro : out.length + 3145729 ≤ 3390000000000 := by omega
    have hxi := qa _ (List.getElem_mem hi)
    have hlen := aBE (nm := x.a3) hxi qb
    obtain ⟨u, he, iu⟩ := hxi.is.st
    have next : ∀ out' : List El, out' = out ++ fldA x.a3 y.a5 x.a5[i] → bS Dn (mC x.a5 x.a5.length i x y out') = bS Dn (iB y.a5 y.a5.length 0 x (out ++ (x.a5.drop i).flatMap (fldA x.a3 y.a5))) := fun out' ho' => by
      subst ho'
      rw [aAQ, bC (Nat.lt_of_lt_of_le hi hla), ih _ (by rw [List.length_append]; omega), dG hi, List.flatMap_cons, List.append_assoc]
    have hin : Dn F.aTR [.agg y.l, .leaf (.str u.a0)] [] = some (.tup [.agg (fieldAt y.a5 u.a0), aN (!(decide (dJ u.a0 0 y.a5 < 0)))], []) := aB1 (s := u.a0) hlb (fun e he => (qb e he).is)
    have hx0 : u.a0.size ≤ 1048576 := by have := hxi.nm; rw [he] at this; exact this
    have hx2 : u.a2.length ≤ 1048576 := by have := hxi.args; rw [he] at this; exact this
    rw [rR]
    simp -implicitDefEqProofs only [Int.ofNat_lt, hi, decide_true, aF, Int.natCast_nonneg, Bool.and_true, Bool.and_self, Int.toNat_natCast, aC, aQ fun e he => (qa e he).is.len, aZ hi, he, cO.rd_l, hin, Option.bind_some, nB, fA]
    by_cases hk : dJ u.a0 0 y.a5 < 0
    · have ad := d_addL (q := true) (code := 4) (s := x.a3) (p := u.a0) (out := out) (by omega)
      have fa : fieldAt y.a5 u.a0 = aRt.l := by unfold fieldAt; rw [if_pos hk]; rfl
      rw [fa]
      simp -implicitDefEqProofs only [cO.va_l, fA, tZ, gH, hk, decide_true, Bool.not_true, Bool.not_false, aF, ad, gA]
      refine next _ ?_
      rw [he]
      unfold fldA
      rw [show aY u.l 0 = u.a0 from rfl, if_pos hk]
      rfl
    · obtain ⟨j, hj, hjb⟩ := idx_get hk
      have hyj := qb _ (List.getElem_mem hjb)
      obtain ⟨v, hf, iv⟩ := hyj.is.st
      have hy2 : v.a2.length ≤ 1048576 := by have := hyj.args; rw [hf] at this; exact this
      have hjn : ¬ ((j : Int) < 0) := by omega
      have fa : fieldAt y.a5 u.a0 = v.l := by unfold fieldAt; rw [if_neg hk, hj, Int.toNat_natCast, aZ hjb, hf]
      have pa : fldA x.a3 y.a5 x.a5[i] = zD (!(u.a3 == v.a3 && u.a4 == v.a4)) 5 x.a3 u.a0 ++ inCh (x.a3 ++ dot ++ u.a0) u.a2 v.a2 := by
        rw [he]
        unfold fldA
        rw [show aY u.l 0 = u.a0 from rfl, if_neg hk, hj, Int.toNat_natCast, aZ hjb, hf]
        rfl
      have hl1 := nI (!(u.a3 == v.a3 && u.a4 == v.a4)) 5 x.a3 u.a0
      have ad := d_addL (q := !(u.a3 == v.a3 && u.a4 == v.a4)) (code := 5) (s := x.a3) (p := u.a0) (out := out) (by omega)
      have hch := sR (o := x.a3 ++ dot ++ u.a0) hx2 hy2 iu.p.2.2.2.1 iv.p.2.2.2.1
      have hcl := inCh_len (x.a3 ++ dot ++ u.a0) u.a2 v.a2
      have al := d_all (l := inCh (x.a3 ++ dot ++ u.a0) u.a2 v.a2) (out := out ++ zD (!(u.a3 == v.a3 && u.a4 == v.a4)) 5 x.a3 u.a0) vT (by rw [List.length_append]; omega)
      have z1 : decide (x.a3.size + (ByteArray.mk #[46]).size ≤ 140737488355328) = true := decide_eq_true (by show x.a3.size + 1 ≤ _; omega)
      have z2 : decide ((x.a3 ++ ByteArray.mk #[46]).size + u.a0.size ≤ 140737488355328) = true := decide_eq_true (by rw [ByteArray.size_append]; show x.a3.size + 1 + _ ≤ _; omega)
      have hkd : decide (dJ u.a0 0 y.a5 < 0) = false := decide_eq_false hk
      rw [fa, hkd]
      simp -implicitDefEqProofs only [cO.va_l, fA, tZ, gH, Bool.not_true, Bool.not_false, aI, Bool.and_true, ad, gA, z1, z2, aC, hch, jQ, al]
      exact next _ (by rw [pa, List.append_assoc])
theorem aQs (ha : x.a5.length ≤ 1048576) (hb : y.a5.length ≤ 1048576) (qa : ∀ e ∈ x.a5, FOk e) (qb : ∀ e ∈ y.a5, FOk e) : ∀ i : Nat, i ≤ y.a5.length → ∀ out : List El, out.length ≤ 3298535931904 + i →
    bS Dn (iB y.a5 y.a5.length i x out) = some (.own (some T.aUl) (out ++ (y.a5.drop i).flatMap (fldB x.a3 x.a5)), []) := by
  have hml : (1048576 : Nat) ≤ maxLen := by decide
  have hla : x.a5.length ≤ maxLen := Nat.le_trans ha hml
  have hlb : y.a5.length ≤ maxLen := Nat.le_trans hb hml
  refine cC ?_ ?_
  · intro out ho; rw [rJ]; simp
  · intro i hi ih out ho
    obtain ⟨u, he, iu⟩ := (qb _ (List.getElem_mem hi)).is.st
    have hin : Dn F.aTR [.agg x.l, .leaf (.str u.a0)] [] = some (.tup [.agg (fieldAt x.a5 u.a0), aN (!(decide (dJ u.a0 0 x.a5 < 0)))], []) := aB1 (s := u.a0) hla (fun e he => (qa e he).is)
    have hst : ∃ z : cO, fieldAt x.a5 u.a0 = z.l := by
      by_cases hk : dJ u.a0 0 x.a5 < 0
      · exact ⟨aRt, by unfold fieldAt; rw [if_pos hk]; rfl⟩
      · obtain ⟨j, hj, hjb⟩ := idx_get hk
        obtain ⟨v, hf, iv⟩ := (qa _ (List.getElem_mem hjb)).is.st
        exact ⟨v, by unfold fieldAt; rw [if_neg hk, hj, Int.toNat_natCast, aZ hjb, hf]⟩
    obtain ⟨z, hz⟩ := hst
    have ad := d_addL (q := decide (dJ u.a0 0 x.a5 < 0)) (code := 18) (s := x.a3) (p := u.a0) (out := out) (by omega)
    have hl1 := nI (decide (dJ u.a0 0 x.a5 < 0)) 18 x.a3 u.a0
    rw [rJ]
    simp -implicitDefEqProofs only [Int.ofNat_lt, hi, decide_true, aF, Int.natCast_nonneg, Bool.and_true, Bool.and_self, Int.toNat_natCast, aC, aQ fun e he => (qb e he).is.len, aZ hi, he, cO.rd_l, hin, Option.bind_some, nB, fA, hz, cO.va_l, tZ, gH, Bool.not_not, ad, gA, bC (Nat.lt_of_lt_of_le hi hlb)]
    rw [ih _ (by rw [List.length_append]; omega), dG hi, List.flatMap_cons, he, List.append_assoc]
    unfold fldB zD
    rw [show aY u.l 0 = u.a0 from rfl]
    by_cases hk : dJ u.a0 0 x.a5 < 0
    · simp [hk]
    · simp [hk]
theorem aDm (hn : x.a3.size ≤ 1048576) (ha : x.a5.length ≤ 1048576) (hb : y.a5.length ≤ 1048576) (qa : ∀ e ∈ x.a5, FOk e) (qb : ∀ e ∈ y.a5, FOk e) :
    Dn F.aSG [.agg x.l, .agg y.l] [] = some (.own (some T.aUl) (fldCh x.a3 x.a5 y.a5), []) := by
  refine aW ?_
  rw [aBm]
  have h1 := aQ1 (x := x) (y := y) hn ha hb qa qb 0 (Nat.zero_le _) [] (by simp)
  have hl : (x.a5.flatMap (fldA x.a3 y.a5)).length ≤ 3145729 * x.a5.length := flatMap_lenM fun e he => aBE (qa e he) qb
  have h2 := aQs (x := x) (y := y) ha hb qa qb 0 (Nat.zero_le _) (x.a5.flatMap (fldA x.a3 y.a5)) (by omega)
  simp only [List.drop_zero, List.nil_append] at h1 h2
  exact h1.trans h2
end
end Go.Vs.Old
end
section
open Go Go.Vs Go.Proofs
set_option linter.unusedVariables false
set_option linter.unusedSimpArgs false
namespace Go.Vs.Old
section
variable {x y : aE} {o : ByteArray}
abbrev XOk (x : aE) : Prop := DOk x.a3 x.a4 x.a5 x.a6 x.a7
theorem aOe {q : Bool} {code : Int} : rep code o q = zD q code o nul := rfl
theorem aKJ (hx : XOk x) (hy : XOk y) {out : List El} (ho : out.length ≤ 4000000) :
    bA Dn (nY o x y out) = some (.own (some T.aUl) (out ++ inCh o x.a6 y.a6), []) := by
  have hcl := inCh_len o x.a6 y.a6
  have l6 := hx.l6
  have m6 := hy.l6
  rw [aCS]
  simp -implicitDefEqProofs only [sR hx.l6 hy.l6 hx.q6 hy.q6, jQ, d_all (l := inCh o x.a6 y.a6) (out := out) vT (by omega), gA, gN]
theorem aPM (hx : XOk x) (hy : XOk y) {out : List El} (ho : out.length ≤ 3500000) :
    bA Dn (nT o x y out) = some (.own (some T.aUl) (out ++ (rep 27 o (!x.a9 && y.a9) ++ inCh o x.a6 y.a6)), []) := by
  have ad := fun q => d_addL (q := q) (code := 27) (s := o) (p := nul) (out := out) (by omega)
  have al := fun q => nI q 27 o nul
  rw [aCK]
  simp -implicitDefEqProofs only [ad, gA]
  rw [aKJ hx hy (by have := al y.a9; rw [List.length_append]; omega), aKJ hx hy (by have := al false; rw [List.length_append]; omega), aOe, List.append_assoc, List.append_assoc]
  cases x.a9 <;> rfl
theorem aLe (hx : XOk x) (hy : XOk y) {out : List El} (ho : out.length ≤ 1) {q : Bool} (hq : q = (x.a0 == 2 || x.a0 == 3)) :
    bA Dn (nX o x.a0 q x y out) = some (.own (some T.aUl) (out ++ tailCh o x.a3 x.a0 x.a9 y.a9 x.a4 x.a5 x.a6 x.a7 y.a4 y.a5 y.a6 y.a7), []) := by
  have x4 := hx.l4; have x5 := hx.l5; have x6 := hx.l6; have x7 := hx.l7
  have y4 := hy.l4; have y5 := hy.l5; have y6 := hy.l6; have y7 := hy.l7
  have nl := fun g f => nameCh_len o x.a4 y.a4 g f
  have vl := nameCh_len o (vals x.a7) (vals y.a7) 10 22
  rw [vals_len, vals_len] at vl
  have fcl := aLq (nm := x.a3) hx.l5 hy.l5 hx.q5 hy.q5
  have il := inCh_len o x.a6 y.a6
  have na := fun g f => d_all (l := nameCh o x.a4 y.a4 g f) (out := out) oB (by have := nl g f; omega)
  have tn := fun g f => wQ (o := o) (gone := g) (fresh := f) hx.l4 hy.l4 hx.q4 hy.q4
  subst hq
  rw [aCC, bO]
  unfold tailCh
  by_cases h23 : (x.a0 == 2 || x.a0 == 3) = true
  · rw [if_pos h23, if_pos h23]
    have fa := d_all (l := fldCh x.a3 x.a5 y.a5) (out := out ++ nameCh o x.a4 y.a4 12 24) aHd (by have := nl 12 24; rw [List.length_append]; omega)
    simp -implicitDefEqProofs only [tn, na, fa, jQ, gA, aDm hx.nm hx.l5 hy.l5 hx.q5 hy.q5, gN, List.append_assoc]
  · rw [if_neg h23, if_neg h23, bO]
    by_cases h4 : (x.a0 == 4) = true
    · rw [if_pos h4, if_pos h4]
      simp -implicitDefEqProofs only [tn, na, jQ, gA, gN]
    · rw [if_neg h4, if_neg h4, bO]
      by_cases h5 : (x.a0 == 5) = true
      · rw [if_pos h5, if_pos h5]
        have vn := wQ (o := o) (gone := 10) (fresh := 22) (a := vals x.a7) (b := vals y.a7) (by rw [vals_len]; exact x7) (by rw [vals_len]; exact y7) (aGk hx.q7) (aGk hy.q7)
        have va := d_all (l := nameCh o (vals x.a7) (vals y.a7) 10 22) (out := out) oB (by omega)
        simp -implicitDefEqProofs only [yJ hx.l7 hx.q7, yJ hy.l7 hy.q7, vn, va, jQ, gA, gN]
      · rw [if_neg h5, if_neg h5, bO]
        by_cases h6 : (x.a0 == 6) = true
        · rw [if_pos h6, if_pos h6]
          simp -implicitDefEqProofs only [sR hx.l6 hy.l6 hx.q6 hy.q6, d_all (l := inCh o x.a6 y.a6) (out := out) vT (by omega), jQ, gA, gN]
        · rw [if_neg h6, if_neg h6, bO]
          by_cases h7 : (x.a0 == 7) = true
          · rw [if_pos h7, if_pos h7]
            have ol : (out ++ nameCh o x.a4 y.a4 14 26).length ≤ 3000000 := by have := nl 14 26; rw [List.length_append]; omega
            have ad := fun q => d_addL (q := q) (code := 15) (s := o) (p := nul) (out := out ++ nameCh o x.a4 y.a4 14 26) (by omega)
            have t3' := fun q => aPM (o := o) hx hy (out := out ++ nameCh o x.a4 y.a4 14 26 ++ zD q 15 o nul) (by have := nI q 15 o nul; rw [List.length_append]; omega)
            simp -implicitDefEqProofs only [tn, na, jQ, gA, ad, t3']
            rw [aOe (code := 15)]
            cases x.a9 <;> simp -implicitDefEqProofs only [beq_self_eq_true, show ((false : Bool) == true) = false from rfl, aF, aI, Bool.true_and, Bool.false_and, List.append_assoc]
          · rw [if_neg h7, if_neg h7, gN, List.append_nil]
theorem d_impl_DefChanges (hx : XOk x) (hy : XOk y) : Dn F.aSR [.agg x.l, .agg y.l] [] = some (.own (some T.aUl) (defCh x.l y.l), []) := by
  have z : decide ((ByteArray.mk #[64]).size + x.a3.size ≤ 140737488355328) = true := decide_eq_true (by have := hx.nm; show 1 + _ ≤ _; omega)
  have s0 : ∀ o : ByteArray, bA Dn (nR o x y) = some (.own (some T.aUl) (rep 28 o (!(x.a2.toList == y.a2.toList)) ++ tailCh o x.a3 x.a0 x.a9 y.a9 x.a4 x.a5 x.a6 x.a7 y.a4 y.a5 y.a6 y.a7), []) := fun o => by
    have ad := d_addL (q := !(x.a2.toList == y.a2.toList)) (code := 28) (s := o) (p := nul) (out := []) (by simp)
    have hl := nI (!(x.a2.toList == y.a2.toList)) 28 o nul
    simp only [List.nil_append] at ad
    rw [aC1]
    simp -implicitDefEqProofs only [ad, gA]
    rw [bO, aOe]
    by_cases h2 : (x.a0 == 2) = true
    · rw [if_pos h2]
      exact aLe hx hy hl (by rw [h2]; rfl)
    · rw [if_neg h2]
      exact aLe hx hy hl (by rw [Bool.not_eq_true] at h2; rw [h2]; rfl)
  have ad3 := d_addL (q := true) (code := 3) (s := x.a3) (p := nul) (out := []) (by simp)
  simp only [List.nil_append] at ad3
  refine aW ?_
  rw [aDI, s0, s0, z, aC, bO, bO]
  have hd : defCh x.l y.l = if (x.a0 != y.a0) = true then [chg 3 x.a3 nul] else rep 28 (dirNm x.a0 x.a3) (!(x.a2.toList == y.a2.toList)) ++ tailCh (dirNm x.a0 x.a3) x.a3 x.a0 x.a9 y.a9 x.a4 x.a5 x.a6 x.a7 y.a4 y.a5 y.a6 y.a7 := rfl
  rw [hd]
  unfold dirNm
  by_cases h : (x.a0 != y.a0) = true
  · rw [if_pos h, if_pos h]
    simp -implicitDefEqProofs only [ad3, gA]
    rfl
  · rw [if_neg h, if_neg h]
    by_cases h7 : (x.a0 == 7) = true
    · rw [if_pos h7, if_pos h7]
    · rw [if_neg h7, if_neg h7]
end
end Go.Vs.Old
end
section
set_option linter.unusedVariables false
namespace Go.Vs
def aER (l : List El) : Prop := l.Pairwise fun a b => key a < key b
theorem aR5 {a b : List UInt8} (h : a ≤ b) (hn : a ≠ b) : a < b := Decidable.byContradiction fun hc => hn (leA h (ltI.1 hc))
theorem ltT {a b c : List UInt8} (h : a < b) (k : b ≤ c) : a < c := Decidable.byContradiction fun hc => ltI.2 (leT k (ltI.1 hc)) h
theorem aSj {a b c : List UInt8} (h : a ≤ b) (k : b < c) : a < c := Decidable.byContradiction fun hc => ltI.2 (leT (ltI.1 hc) h) k
theorem aSf {a b : List UInt8} (h : a < b) : a ≤ b := List.le_of_lt h
theorem ltN (a : List UInt8) : ¬ a < a := ltI.2 (leR a)
theorem yH {out : List El} {x : El} (h : aER out) (hx : ∀ o ∈ out, key o ≤ key x) : aER (rY out x) := by
  unfold rY
  split
  · exact h
  · rename_i hl
    refine List.pairwise_append.2 ⟨h, by simp, fun a ha b hb => ?_⟩
    rw [List.mem_singleton.1 hb]
    refine aR5 (hx a ha) fun he => hl ?_
    rcases List.eq_nil_or_concat out with rfl | ⟨l0, z, rfl⟩
    · simp at ha
    · have hz := hx z (by simp)
      rw [List.concat_eq_append, List.getLast?_append]
      simp only [List.getLast?_singleton, Option.some_or, Option.map_some, Option.some.injEq]
      rw [List.concat_eq_append] at ha h
      rcases List.mem_append.1 ha with h1 | h1
      · have := (List.pairwise_append.1 h).2.2 a h1 z (by simp)
        exact leA hz (by rw [← he]; exact aSf this)
      · rw [← List.mem_singleton.1 h1]; exact he
theorem aOC : ∀ (n : Nat) (xs ys out : List El), xs.length + ys.length = n → qJ xs → qJ ys → aER out → (∀ o ∈ out, ∀ x ∈ xs, key o ≤ key x) → (∀ o ∈ out, ∀ y ∈ ys, key o ≤ key y) → aER (fin xs ys out) := by
  intro n
  induction n using Nat.strongRecOn with
  | ind n ih =>
    intro xs ys out hn hx hy ho h1 h2
    match xs, ys with
    | [], [] => unfold fin; exact ho
    | x :: xs, [] =>
      unfold fin
      have hx' := List.pairwise_cons.1 hx
      exact ih (xs.length + 0) (by simp at hn; omega) xs [] (rY out x) rfl hx'.2 hy (yH ho fun o h => h1 o h x (by simp)) (fun o h z hz => by
        rcases jA h with h | rfl
        · exact h1 o h z (by simp [hz])
        · exact hx'.1 z hz) (fun o h z hz => by simp at hz)
    | [], y :: ys =>
      unfold fin
      have hy' := List.pairwise_cons.1 hy
      exact ih (0 + ys.length) (by simp at hn; omega) [] ys (rY out y) rfl hx hy'.2 (yH ho fun o h => h2 o h y (by simp)) (fun o h z hz => by simp at hz) (fun o h z hz => by
        rcases jA h with h | rfl
        · exact h2 o h z (by simp [hz])
        · exact hy'.1 z hz)
    | x :: xs, y :: ys =>
      have hx' := List.pairwise_cons.1 hx
      have hy' := List.pairwise_cons.1 hy
      unfold fin
      by_cases hc : key x ≤ key y
      · rw [if_pos hc]
        exact ih (xs.length + (y :: ys).length) (by simp at hn ⊢; omega) xs (y :: ys) (rY out x) rfl hx'.2 hy (yH ho fun o h => h1 o h x (by simp)) (fun o h z hz => by
          rcases jA h with h | rfl
          · exact h1 o h z (by simp [hz])
          · exact hx'.1 z hz) (fun o h z hz => by
          rcases jA h with h | rfl
          · exact h2 o h z hz
          · rcases List.mem_cons.1 hz with rfl | hz
            · exact hc
            · exact leT hc (hy'.1 z hz))
      · rw [if_neg hc]
        have hc' := leN hc
        exact ih ((x :: xs).length + ys.length) (by simp at hn ⊢; omega) (x :: xs) ys (rY out y) rfl hx hy'.2 (yH ho fun o h => h2 o h y (by simp)) (fun o h z hz => by
          rcases jA h with h | rfl
          · exact h1 o h z hz
          · rcases List.mem_cons.1 hz with rfl | hz
            · exact hc'
            · exact leT hc' (hx'.1 z hz)) (fun o h z hz => by
          rcases jA h with h | rfl
          · exact h2 o h z (by simp [hz])
          · exact hy'.1 z hz)
theorem aJ7 : ∀ {a b : List (List UInt8)}, a.Pairwise (· < ·) → b.Pairwise (· < ·) → (∀ s, s ∈ a ↔ s ∈ b) → a = b
  | [], [], _, _, _ => rfl
  | [], y :: b, _, _, h => by have := (h y).2 (by simp); simp at this
  | x :: a, [], _, _, h => by have := (h x).1 (by simp); simp at this
  | x :: a, y :: b, ha, hb, h => by
    have ha' := List.pairwise_cons.1 ha
    have hb' := List.pairwise_cons.1 hb
    have hxy : x = y := by
      rcases List.mem_cons.1 ((h x).1 (by simp)) with e | hm
      · exact e
      · rcases List.mem_cons.1 ((h y).2 (by simp)) with e | hm2
        · exact e.symm
        · exact absurd (ltT (hb'.1 x hm) (aSf (ha'.1 y hm2))) (ltN y)
    subst hxy
    rw [aJ7 ha'.2 hb'.2 fun s => ?_]
    constructor
    · intro hs
      rcases List.mem_cons.1 ((h s).1 (by simp [hs])) with e | hm
      · subst e; exact absurd (ha'.1 s hs) (ltN s)
      · exact hm
    · intro hs
      rcases List.mem_cons.1 ((h s).2 (by simp [hs])) with e | hm
      · subst e; exact absurd (hb'.1 s hs) (ltN s)
      · exact hm
theorem aLt {d : Array (List UInt8)} (hd : ∀ i j, i ≤ j → j < d.size → d[i]! ≤ d[j]!) : ∀ m, m ≤ d.size → (Lib.compactUpTo d m).Pairwise (· < ·) ∧ (∀ x ∈ Lib.compactUpTo d m, ∃ j, j < m ∧ x = d[j]!) ∧ ∀ j, j < m → d[j]! ∈ Lib.compactUpTo d m := by
  intro m
  induction m with
  | zero => intro _; refine ⟨by simp [Lib.compactUpTo], by simp [Lib.compactUpTo], fun j hj => by omega⟩
  | succ m ih =>
    intro hm
    obtain ⟨h1, h2, h3⟩ := ih (by omega)
    rw [Lib.compactUpTo_succ]
    by_cases hk : Lib.keeps d m = true
    · rw [if_pos hk]
      refine ⟨List.pairwise_append.2 ⟨h1, by simp, fun x hx y hy => ?_⟩, fun x hx => ?_, fun j hj => ?_⟩
      · rw [List.mem_singleton.1 hy]
        obtain ⟨j, hj, rfl⟩ := h2 x hx
        have hne : d[m]! ≠ d[m - 1]! := by
          intro he
          have := Lib.keeps_neg (d := d) (m := m) (by omega) he
          rw [this] at hk; exact absurd hk (by simp)
        exact aSj (hd j (m - 1) (by omega) (by omega)) (aR5 (hd (m - 1) m (by omega) (by omega)) (Ne.symm hne))
      · rcases List.mem_append.1 hx with hx | hx
        · obtain ⟨j, hj, e⟩ := h2 x hx; exact ⟨j, by omega, e⟩
        · exact ⟨m, by omega, List.mem_singleton.1 hx⟩
      · by_cases hjm : j = m
        · subst hjm; simp
        · exact List.mem_append_left _ (h3 j (by omega))
    · rw [if_neg hk, List.append_nil]
      have hm0 : 0 < m := Nat.pos_of_ne_zero fun h0 => hk (Lib.keeps_lt_one d m (by omega))
      have he : d[m]! = d[m - 1]! := Decidable.byContradiction fun hne => hk (Lib.keeps_pos hne)
      refine ⟨h1, fun x hx => ?_, fun j hj => ?_⟩
      · obtain ⟨j, hj, e⟩ := h2 x hx; exact ⟨j, by omega, e⟩
      · by_cases hjm : j = m
        · subst hjm; rw [he]; exact h3 _ (by omega)
        · exact h3 j (by omega)
theorem wZ (zs : List (List UInt8)) : (Lib.compact (zs.mergeSort fun x y => decide (x ≤ y))).Pairwise (· < ·) ∧ ∀ s, s ∈ Lib.compact (zs.mergeSort fun x y => decide (x ≤ y)) ↔ s ∈ zs := by
  have hs : (zs.mergeSort fun x y => decide (x ≤ y)).Pairwise fun a b => (decide (a ≤ b)) = true := List.pairwise_mergeSort (fun a b c h k => by simp only [decide_eq_true_eq] at *; exact leT h k) (fun a b => by
    rcases List.le_total a b with h | h <;> simp [h]) zs
  have hmem : ∀ s, s ∈ zs.mergeSort (fun x y => decide (x ≤ y)) ↔ s ∈ zs := fun s => List.mem_mergeSort
  generalize zs.mergeSort (fun x y => decide (x ≤ y)) = l at hs hmem
  have hget : ∀ i, (h : i < l.length) → l.toArray[i]! = l[i] := fun i h => by rw [getElem!_pos _ i (by simpa using h)]; simp
  obtain ⟨h1, h2, h3⟩ := aLt (d := l.toArray) (fun i j hij hj => by
    have hj' : j < l.length := by simpa using hj
    rw [hget i (by omega), hget j hj']
    rcases Nat.lt_or_ge i j with h | h
    · exact of_decide_eq_true (List.pairwise_iff_getElem.1 hs i j (by omega) hj' h)
    · have : i = j := by omega
      subst this; exact leR _) l.length (by simp)
  refine ⟨h1, fun s => ?_⟩
  rw [← hmem]
  constructor
  · intro h
    obtain ⟨j, hj, rfl⟩ := h2 s h
    rw [hget j hj]; exact List.getElem_mem hj
  · intro h
    obtain ⟨j, hj, rfl⟩ := List.getElem_of_mem h
    rw [← hget j hj]; exact h3 j hj
end Go.Vs
end
section
open Go Go.Vs Go.Proofs
set_option linter.unusedVariables false
set_option linter.unusedSimpArgs false
namespace Go.Vs.Old
theorem sorted_st : ∀ (n : Nat) (es : List El), es.length = n → es.length ≤ 1048576 → (∀ e ∈ es, dP e) → ∃ r, Dn F.aTi [vsl es] [] = some (.own (some T.aUK) r, []) ∧ aC8 es r ∧ aER r := by
  intro n
  induction n using Nat.strongRecOn with
  | ind n ih =>
    intro es hn hl q
    have hml : (1048576 : Nat) ≤ maxLen := by decide
    have hsz := aQ (fun e he => (q e he).len)
    by_cases h2 : es.length < 2
    · have h2' : ((es.length : Nat) : Int) < 2 := by omega
      refine ⟨es, ?_, ⟨?_, fun s => Iff.rfl, Nat.le_refl _, fun e he => he⟩, ?_⟩
      · refine aW ?_
        rw [nA]
        have hb : aH = 140737488355328 := rfl
        have : decide ((0 + es.length) * 16 ≤ aH) = true := decide_eq_true (by omega)
        simp only [h2', decide_true, aF, this, hsz, Bool.and_self, aC, List.nil_append]
      · unfold qJ
        match es, h2 with
        | [], _ => exact List.Pairwise.nil
        | [x], _ => simp
      · unfold aER
        match es, h2 with
        | [], _ => exact List.Pairwise.nil
        | [x], _ => simp
    · have h2' : ¬ ((es.length : Nat) : Int) < 2 := by omega
      have hd : IntKind.i64.wrap ((es.length : Int).tdiv 2) = ((es.length / 2 : Nat) : Int) := by
        have hm : maxLen = 9223372036854775807 := rfl
        rw [Int.tdiv_eq_ediv_of_nonneg (by omega), sN (by omega) (by omega)]; omega
      have hle : es.length / 2 ≤ es.length := Nat.div_le_self _ _
      obtain ⟨r1, k1, o1, _⟩ := ih (es.take (es.length / 2)).length (by rw [List.length_take]; omega) (es.take (es.length / 2)) rfl (by rw [List.length_take]; omega) (fun e he => q e (List.mem_of_mem_take he))
      obtain ⟨r2, k2, o2, _⟩ := ih (es.drop (es.length / 2)).length (by rw [List.length_drop]; omega) (es.drop (es.length / 2)) rfl (by rw [List.length_drop]; omega) (fun e he => q e (List.mem_of_mem_drop he))
      have l1 : r1.length ≤ 1048576 := by have := o1.len; rw [List.length_take] at this; omega
      have l2 : r2.length ≤ 1048576 := by have := o2.len; rw [List.length_drop] at this; omega
      have m := aJr l1 l2 (fun e he => q e (List.mem_of_mem_take (o1.sub e he))) (fun e he => q e (List.mem_of_mem_drop (o2.sub e he))) _ 0 0 [] rfl (Nat.zero_le _) (Nat.zero_le _) (by simp) (by simp)
      have j := aLh _ r1 r2 [] rfl o1.up o2.up List.Pairwise.nil (by simp) (by simp)
      simp only [List.drop_zero] at m
      refine ⟨fin r1 r2 [], ?_, ⟨j.up, fun s => ?_, ?_, fun e he => ?_⟩, aOC _ r1 r2 [] rfl o1.up o2.up List.Pairwise.nil (by simp) (by simp)⟩
      · refine aW ?_
        rw [nA]
        simp -implicitDefEqProofs only [h2', decide_false, aI, hd, Int.natCast_nonneg, decide_true, Int.toNat_natCast, Option.getD_some, Option.getD_none, hle, Nat.le_refl, hsz, Bool.and_self, Bool.true_and, Bool.and_true, aC, List.drop_zero, k1, Option.bind_some, gD, List.take_length]
        rw [show Dn F.aTi [SV.leaf (aA.sl (Fl.later PUnit.unit (some (es.length / 2))) (es.drop (es.length / 2)))] [] = _ from k2]
        simp only [Option.bind_some, gD]
        exact m
      · rw [j.mem]
        simp only [List.not_mem_nil, false_and, exists_false, false_or]
        rw [o1.mem, o2.mem]
        constructor
        · rintro (⟨e, he, hs⟩ | ⟨e, he, hs⟩)
          · exact ⟨e, List.mem_of_mem_take he, hs⟩
          · exact ⟨e, List.mem_of_mem_drop he, hs⟩
        · rintro ⟨e, he, hs⟩
          rw [← List.take_append_drop (es.length / 2) es] at he
          rcases List.mem_append.1 he with he | he
          · exact .inl ⟨e, he, hs⟩
          · exact .inr ⟨e, he, hs⟩
      · have := j.len; have := o1.len; have := o2.len
        rw [List.length_take] at *; rw [List.length_drop] at *
        simp at *; omega
      · rcases j.sub e he with h | h | h
        · simp at h
        · exact List.mem_of_mem_take (o1.sub e h)
        · exact List.mem_of_mem_drop (o2.sub e h)
end Go.Vs.Old
end
section
open Go Go.Vs Go.Proofs
set_option linter.unusedVariables false
set_option linter.unusedSimpArgs false
set_option maxRecDepth 100000
namespace Go.Vs.Old
def rowN (l : List (List UInt8)) : List El := l.map fun n => [.str (bsB n)]
theorem rowN_len (l : List (List UInt8)) : (rowN l).length = l.length := by simp [rowN]
theorem aQS (l : List (List UInt8)) : iM (rowN l) = mQ l := by
  unfold iM rowN mQ
  induction l with
  | nil => rfl
  | cons a l ih => simp only [List.map_cons, List.flatten_cons, List.map_append] at ih ⊢; rw [ih]; rfl
theorem aN1 (l : List (List UInt8)) : cG (mQ l) = some (l.map fun n => (.str (bsB n) : aA false)) := by
  have : mQ l = (l.map fun n => (.str (bsB n) : aA false)).map SV.leaf := by simp [mQ]
  rw [this]; exact pE _
theorem aPa (l : List (List UInt8)) : gT 1 l.length (l.map fun n => (.str (bsB n) : aA false)) = rowN l := by
  induction l with
  | nil => rfl
  | cons a l ih => simp only [List.length_cons, List.map_cons, gT, List.take_succ_cons, List.take_zero, List.drop_succ_cons, List.drop_zero, rowN] at ih ⊢; rw [ih]
theorem aM4 {a b : List (List UInt8)} (h : mQ a = mQ b) : a = b := by
  induction a generalizing b with
  | nil => cases b with
    | nil => rfl
    | cons y b => simp [mQ] at h
  | cons x a ih => cases b with
    | nil => simp [mQ] at h
    | cons y b =>
      simp only [mQ, List.map_cons, List.cons.injEq, SV.leaf.injEq, aA.str.injEq] at h
      have h1 : x = y := congrArg (fun s : ByteArray => s.data.toList) h.1
      rw [h1, ih h.2]
theorem aRD {l : List (List UInt8)} (h : l.length ≤ 1000000) : Dn F.aSD [.bsl 0 1 0 l.length] [mQ l] = some (.tup [], [mQ (lU l)]) := by
  refine aGc (T := aIc) (t := aKU) (by unfold aIc; rw [if_neg (by decide)]; exact if_pos rfl) ?_
  unfold aKU
  have hex : ∃ xs, mQ l = mQ xs ∧ l.length = xs.length ∧ xs.length ≤ 1000000 := ⟨l, rfl, rfl, h⟩
  refine Eq.trans (dif_pos hex) ?_
  rw [← aM4 hex.choose_spec.1]
theorem aPv {l : List (List UInt8)} (h : l.length ≤ 1000000) : Dn F.aSz [.bsl 0 1 0 l.length] [mQ l] = some (.bsl 0 1 0 (Lib.compact l).length, [mQ (aAY l)]) := by
  refine aGc (T := aIc) (t := aAg) (by unfold aIc; rw [if_neg (by decide), if_neg (by decide)]; exact if_pos rfl) ?_
  unfold aAg
  have hex : ∃ xs, mQ l = mQ xs ∧ l.length = xs.length ∧ xs.length ≤ 1000000 := ⟨l, rfl, rfl, h⟩
  refine Eq.trans (dif_pos hex) ?_
  rw [← aM4 hex.choose_spec.1]
theorem aR3 : iDf.bytes = 200 := by kernel_rfl
theorem aQZ {es : List El} (hl : es.length ≤ 1048576) (hq : ∀ e ∈ es, dS e) : Dn F.aSw [vsl es] [] = some (.own (some T.aUI) es, []) := by
  have hb : aH = 140737488355328 := rfl
  refine aGc (T := aIc) (t := yV Tryz.prog T.aUI iDf false) (by unfold aIc; exact if_pos rfl) ?_
  show (if es.length * iDf.bytes ≤ aH ∧ sized iDf.size es = true then some (SV.mkO (m := false) false (some T.aUI) es, []) else none) = _
  rw [if_pos ⟨by rw [aR3]; omega, by rw [aSa]; exact aQ fun e he => (hq e he).len⟩]
  rfl
def defNames (es : List El) : List (List UInt8) := es.map fun e => (aY e 3).data.toList
def namesOf (a b : List El) : List (List UInt8) := Lib.compact (lU (defNames (a ++ b)))
theorem d_impl_dirNames {x y : dD} (hx : bW x.l) (hy : bW y.l) (lx : x.a1.length ≤ 400000) (ly : y.a1.length ≤ 400000) :
    Dn F.aTA [.agg x.l, .agg y.l] [] = some (vsl (rowN (namesOf x.a1 y.a1)), []) := by
  have hb : aH = 140737488355328 := rfl
  have hm : (1048576 : Nat) ≤ maxLen := by decide
  have qx : ∀ e ∈ x.a1, dS e := hx.p.2.2.2.1
  have qy : ∀ e ∈ y.a1, dS e := hy.p.2.2.2.1
  have q : ∀ e ∈ x.a1 ++ y.a1, dS e := fun e he => (List.mem_append.1 he).elim (qx e) (qy e)
  have hl : (x.a1 ++ y.a1).length ≤ 800000 := by rw [List.length_append]; omega
  have loop : ∀ i : Nat, i ≤ (x.a1 ++ y.a1).length → iD Dn (qD (rowN (defNames ((x.a1 ++ y.a1).take i))) (x.a1 ++ y.a1) (x.a1 ++ y.a1).length i x y) = some (vsl (rowN (namesOf x.a1 y.a1)), []) := by
    refine cC ?_ ?_
    · have hn : (defNames ((x.a1 ++ y.a1).take (x.a1 ++ y.a1).length)) = defNames (x.a1 ++ y.a1) := by rw [List.take_length]
      have hlen : (defNames (x.a1 ++ y.a1)).length ≤ 1000000 := by unfold defNames; rw [List.length_map]; omega
      have hr : (lU (defNames (x.a1 ++ y.a1))).length = (defNames (x.a1 ++ y.a1)).length := wJ _
      have c1 := aRD hlen
      have c2 := aPv (l := lU (defNames (x.a1 ++ y.a1))) (by rw [hr]; exact hlen)
      rw [hr] at c2
      have f1 : ∀ l : List (List UInt8), ([mQ l].all fun (x : List (SV false)) => x.all SV.flat) = true := fun l => by
        simp only [List.all_cons, List.all_nil, Bool.and_true, List.all_eq_true]; exact aGE l
      have hole := aKW (lU (defNames (x.a1 ++ y.a1)))
      have hcl := wH (lU (defNames (x.a1 ++ y.a1)))
      have ht : (mQ (aAY (lU (defNames (x.a1 ++ y.a1))))).take (Lib.compact (lU (defNames (x.a1 ++ y.a1)))).length = mQ (Lib.compact (lU (defNames (x.a1 ++ y.a1)))) := by
        unfold mQ aAY
        rw [List.map_append, List.take_left' (by rw [List.length_map])]
      rw [hn, xI]
      simp -implicitDefEqProofs only [show ¬ (((x.a1 ++ y.a1).length : Int) < (x.a1 ++ y.a1).length) from by omega, decide_false, aI, aQS, rowN_len, f1, aC, c1, c2, Option.bind_some, lV, kM, nB, gH]
      rw [show ∀ f : Nat → Nat → Ret false, aCj 0 1 (.bsl 0 1 0 (Lib.compact (lU (defNames (x.a1 ++ y.a1)))).length) f = f 0 (Lib.compact (lU (defNames (x.a1 ++ y.a1)))).length from fun f => by simp [aCj]]
      simp -implicitDefEqProofs only [beq_self_eq_true, Bool.and_true, aC, Nat.mul_one, aJK, hole, hcl, decide_true, ht, aN1, Option.bind_some, aPa]
      rfl
    · intro i hi ih
      obtain ⟨u, hu, iu⟩ := (q _ (List.getElem_mem hi)).st
      have hl5 : (defNames ((x.a1 ++ y.a1).take i)).length ≤ 800000 := by unfold defNames; rw [List.length_map, List.length_take]; omega
      have hr : decide (((rowN (defNames ((x.a1 ++ y.a1).take i))).length + 1) * 16 ≤ aH) = true := decide_eq_true (by rw [rowN_len]; omega)
      have hn : rowN (defNames ((x.a1 ++ y.a1).take (i + 1))) = rowN (defNames ((x.a1 ++ y.a1).take i)) ++ [[.str u.a3]] := by
        unfold rowN defNames
        rw [List.take_succ_eq_append_getElem hi, List.map_append, List.map_append, hu]
        rfl
      rw [hn] at ih
      rw [xI]
      simp -implicitDefEqProofs only [Int.ofNat_lt, hi, decide_true, aF, Int.natCast_nonneg, Bool.and_true, Bool.and_self, Int.toNat_natCast, aC, aQ fun e he => (q e he).len, aZ hi, hu, aE.rd_l, hr, bC (show i < maxLen by omega)]
      exact ih
  refine aW ?_
  have hc := aQZ (es := x.a1) (by omega) qx
  have hz : decide ((x.a1.length + y.a1.length) * 200 ≤ aH) = true := decide_eq_true (by omega)
  rw [aF5]
  simp -implicitDefEqProofs only [hc, jQ, hz, aQ fun e he => (qy e he).len, Bool.and_self, aC]
  exact loop 0 (Nat.zero_le _)
end Go.Vs.Old
end
section
open Go Go.Vs Go.Proofs
set_option linter.unusedVariables false
set_option linter.unusedSimpArgs false
namespace Go.Vs.Old
theorem aRl {r : List El} (h : ∀ e ∈ r, dP e) : r = rowN (r.map fun e => (Go.Vs.aY e 0).data.toList) := by
  induction r with
  | nil => rfl
  | cons e r ih =>
    obtain ⟨s, rfl, _⟩ := h e (by simp)
    rw [List.map_cons]
    unfold rowN at ih ⊢
    rw [List.map_cons, ← ih fun e he => h e (by simp [he])]
    rfl
theorem zV (e : El) : key e = (Go.Vs.aY e 0).data.toList := tl _
theorem names_one {l : List (List UInt8)} {r : List El} (ho : aC8 (rowN l) r) (hs : aER r) (hq : ∀ e ∈ rowN l, dP e) : r = rowN (Lib.compact (lU l)) := by
  have hr : ∀ e ∈ r, dP e := fun e he => hq e (ho.sub e he)
  rw [aRl hr]
  congr 1
  obtain ⟨c1, c2⟩ := wZ l
  refine aJ7 ?_ c1 fun s => ?_
  · rw [List.pairwise_map]
    refine hs.imp fun {a b} h => ?_
    rw [zV, zV] at h
    exact h
  · rw [show Lib.compact (lU l) = Lib.compact (l.mergeSort fun x y => decide (x ≤ y)) from rfl, c2]
    have hm := ho.mem s
    have k1 : (∃ e ∈ r, key e = s) ↔ s ∈ r.map fun e => (Go.Vs.aY e 0).data.toList := by
      simp only [List.mem_map, zV]
    have k2 : (∃ e ∈ rowN l, key e = s) ↔ s ∈ l := by
      unfold rowN
      constructor
      · rintro ⟨e, he, hk⟩
        obtain ⟨n, hn, rfl⟩ := List.mem_map.1 he
        rw [zV] at hk
        have : n = s := hk
        rwa [← this]
      · intro h
        exact ⟨[.str (bsB s)], List.mem_map.2 ⟨s, h, rfl⟩, by rw [zV]; rfl⟩
    rw [← k1, hm, k2]
end Go.Vs.Old
end
section
open Go Go.Vs Go.Proofs
set_option linter.unusedVariables false
set_option linter.unusedSimpArgs false
set_option maxRecDepth 100000
namespace Go.Vs
theorem aNI {nm : ByteArray} {b : List El} {x : El} (hx : (slAt x 2).length ≤ 100) (hb : ∀ e ∈ b, (slAt e 2).length ≤ 100) : (Old.fldA nm b x).length ≤ 301 := by
  unfold Old.fldA
  split
  · simp
  · rename_i h
    obtain ⟨j, hj, hjb⟩ := Old.idx_get h
    rw [hj, Int.toNat_natCast, aZ hjb, List.length_append]
    have h1 := Old.tyCh_len nm x b[j]
    have h2 := Old.inCh_len (nm ++ Old.dot ++ aY x 0) (Old.slAt x 2) (Old.slAt b[j] 2)
    have h3 : (Old.slAt x 2).length ≤ 100 := hx
    have h4 : (Old.slAt b[j] 2).length ≤ 100 := hb _ (List.getElem_mem hjb)
    omega
theorem aM5 {nm : ByteArray} {a b : List El} (la : a.length ≤ 100) (lb : b.length ≤ 100) (ha : ∀ e ∈ a, (slAt e 2).length ≤ 100) (hb : ∀ e ∈ b, (slAt e 2).length ≤ 100) : (Old.fldCh nm a b).length ≤ 30200 := by
  unfold Old.fldCh
  have h1 := Old.flatMap_lenM (f := Old.fldA nm b) (l := a) fun x hx => aNI (nm := nm) (ha x hx) hb
  have h2 := Old.flatMap_len (f := Old.fldB nm a) (fun x => Old.fldB_len nm a x) b
  rw [List.length_append]; omega
theorem aLY {o nm : ByteArray} {k : Int} {r r' : Bool} {x y : aE} (bx : rZ x = false) (by_ : rZ y = false) : (Old.tailCh o nm k r r' x.a4 x.a5 x.a6 x.a7 y.a4 y.a5 y.a6 y.a7).length ≤ 31000 := by
  obtain ⟨x4, x5, x6, x7, xq⟩ := aNy bx
  obtain ⟨y4, y5, y6, y7, yq⟩ := aNy by_
  have n1 := Old.nameCh_len o x.a4 y.a4 12 24
  have n2 := Old.nameCh_len o x.a4 y.a4 11 23
  have n3 := Old.nameCh_len o (Old.vals x.a7) (Old.vals y.a7) 10 22
  have n4 := Old.nameCh_len o x.a4 y.a4 14 26
  have f1 := aM5 (nm := nm) x5 y5 xq yq
  have i1 := Old.inCh_len o x.a6 y.a6
  have r1 := Old.rep_len 15 o (r && !r')
  have r2 := Old.rep_len 27 o (!r && r')
  rw [Old.vals_len, Old.vals_len] at n3
  unfold Old.tailCh
  split
  · rw [List.length_append]; omega
  · split
    · omega
    · split
      · omega
      · split
        · omega
        · split
          · rw [List.length_append, List.length_append, List.length_append]; omega
          · simp
theorem qW {x y : aE} (bx : rZ x = false) (by_ : rZ y = false) : (Old.defCh x.l y.l).length ≤ 32000 := by
  unfold Old.defCh
  split
  · simp
  · have h1 := Old.rep_len 28 (Old.dirNm (Old.intAt x.l 0) (aY x.l 3)) (!((aY x.l 2).toList == (aY y.l 2).toList))
    have h2 := aLY (o := Old.dirNm x.a0 x.a3) (nm := x.a3) (k := x.a0) (r := x.a9) (r' := y.a9) bx by_
    rw [List.length_append]
    exact Nat.le_trans (Nat.add_le_add h1 (show _ ≤ 31000 from h2)) (by decide)
def jK (s : dD) : Bool := decide ((s.a0.length : Int) > 60) || (decide ((s.a1.length : Int) > 60) || (s.a0.any (fun e => rZ (.of e)) || s.a1.any fun e => rZ (.of e)))
theorem gC {s : dD} (h : jK s = false) : s.a0.length ≤ 60 ∧ s.a1.length ≤ 60 ∧ (∀ e ∈ s.a0, rZ (.of e) = false) ∧ ∀ e ∈ s.a1, rZ (.of e) = false := by
  unfold jK at h
  simp only [Bool.or_eq_false_iff, decide_eq_false_iff_not, List.any_eq_false] at h
  obtain ⟨h1, h2, h3, h4⟩ := h
  exact ⟨by omega, by omega, fun e he => Bool.eq_false_iff.2 (h3 e he), fun e he => Bool.eq_false_iff.2 (h4 e he)⟩
theorem xok {x : aE} (hx : dS x.l) (bx : bdL 1048576 x.l) : Old.XOk x := by
  obtain ⟨_, _, _, q4, _, q5, _, q6, _, q7, _⟩ := hx.p
  obtain ⟨_, _, _, b3, ⟨b4, _⟩, ⟨b5, b5'⟩, ⟨b6, _⟩, ⟨b7, _⟩, _⟩ := bx
  exact ⟨b3, b4, q4, b5, fun e he => .of (q5 e he) (jH b5' e he), b6, q6, b7, q7⟩
theorem aMC : ∀ e ∈ fM, bdL 1048576 e := fun e he => by
  simp only [fM, List.mem_cons, List.not_mem_nil, or_false] at he
  have n1 : ∀ s : ByteArray, s.size ≤ 100 → s.size ≤ 1048576 := fun s h => by omega
  rcases he with rfl | rfl | rfl <;> simp [aRc, aLd, aQv, ifL, aE.l, bdE, bdL, bdF, n1] <;> decide
theorem aPl : ∀ e ∈ fM, rZ (.of e) = false := fun e he => by
  simp only [fM, List.mem_cons, List.not_mem_nil, or_false] at he
  rcases he with rfl | rfl | rfl <;> rfl
section
variable {a b : dD}
theorem aGS {n : ByteArray} (hs : bW a.l) (bs : bdL 1048576 a.l) (ht : jK a = false) : dS (qR a n).l ∧ Old.XOk (qR a n) ∧ rZ (qR a n) = false := by
  have key : ∀ (es : List El) (j : Nat) (hj : j < es.length), (∀ e ∈ es, dS e) → (∀ e ∈ es, bdL 1048576 e) → (∀ e ∈ es, rZ (.of e) = false) → dS (aE.of (es.getD j [])).l ∧ Old.XOk (.of (es.getD j [])) ∧ rZ (.of (es.getD j [])) = false := fun es j hj hq hb hg => by
    have hm := List.getElem_mem hj
    obtain ⟨y, hy, iy⟩ := (hq _ hm).st
    have b1 := hb _ hm
    have g1 := hg _ hm
    rw [aZ hj]
    rw [hy] at b1 g1 ⊢
    exact ⟨iy, xok iy b1, g1⟩
  unfold qR
  split
  · split
    · exact ⟨aOU, xok aOU (by simp [aEg, aE.l, bdE, bdL, bdF]; decide), rfl⟩
    · rename_i h
      obtain ⟨j, hj, hi, _⟩ := xG h
      rw [hi, Int.toNat_natCast]
      exact key _ j hj aAz aMC aPl
  · rename_i h
    obtain ⟨_, ⟨_, bs1⟩, _⟩ := bs
    obtain ⟨j, hj, y, hi, hy, iy⟩ := aE7 hs.p.2.2.2.1 h
    rw [hi, Int.toNat_natCast]
    exact key _ j hj hs.p.2.2.2.1 (jH bs1) (gC ht).2.2.2
def iL (a b : dD) (k : Int) : List El :=
  ifP (!((pN a k).toList == (ByteArray.mk #[]).toList) && !((pN a k).toList == (pN b k).toList)) (Old.chg 1 (opW k) (pN a k)) ++
  ifP ((pN a k).toList == (ByteArray.mk #[]).toList && !((pN b k).toList == (ByteArray.mk #[]).toList)) (Old.chg 16 (opW k) (pN b k))
noncomputable def rK (b : dD) (e : El) : List El := if sG b (aY e 3) < 0 then [Old.chg 2 (aY e 3) nul] else Old.defCh e (aKL b (aY e 3)).l
def vQ (a : dD) (e : El) : List El := ifP (decide (sG a (aY e 3) < 0)) (Old.chg 17 (aY e 3) nul)
noncomputable def aAd (a b : dD) (e : El) : List El :=
  if nP b (aY e 0) = false then [Old.chg 13 (aY e 0) nul] else if nP a (aY e 0) = false then [Old.chg 25 (aY e 0) nul] else Old.defCh (qR a (aY e 0)).l (qR b (aY e 0)).l
noncomputable def aMM (a b : dD) : List El :=
  iL a b 1 ++ (iL a b 2 ++ (iL a b 3 ++ (lF (fun _ => rK b) 0 a.a0 ++ (lF (fun _ => vQ a) 0 b.a0 ++ lF (fun _ => aAd a b) 0 (Old.rowN (Old.namesOf a.a1 b.a1))))))
noncomputable def wN (a b : dD) : List El := if (jK a || jK b) = true then [] else aMM a b
theorem mW {k : Int} : (iL a b k).length ≤ 2 := by
  unfold iL
  rw [List.length_append]
  exact Nat.add_le_add (rF _ _) (rF _ _)
theorem xD (hs : bW b.l) (ta : jK a = false) (tb : jK b = false) {j : Nat} (hj : j < a.a0.length) (qa : ∀ e ∈ a.a0, dS e) : (rK b a.a0[j]).length ≤ 32000 := by
  unfold rK
  split
  · simp
  · rename_i h
    obtain ⟨i, hi, y, h1, hy, iy⟩ := aAj hs h
    obtain ⟨x, hx, ix⟩ := (qa _ (List.getElem_mem hj)).st
    have g1 := (gC ta).2.2.1 _ (List.getElem_mem hj)
    have g2 := (gC tb).2.2.1 _ (List.getElem_mem hi)
    rw [hx] at g1 h1 ⊢
    rw [hy] at g2
    rw [aBS h1 hy]
    exact qW g1 g2
theorem aGI (ha : bW a.l) (hb : bW b.l) (ba : bdL 1048576 a.l) (bb : bdL 1048576 b.l) (ta : jK a = false) (tb : jK b = false) (e : El) : (aAd a b e).length ≤ 32000 := by
  unfold aAd
  split
  · simp
  · split
    · simp
    · exact qW (aGS ha ba ta).2.2 (aGS hb bb tb).2.2
theorem aKH : (Old.namesOf a.a1 b.a1).length ≤ a.a1.length + b.a1.length := by
  unfold Old.namesOf
  refine Nat.le_trans (wH _) ?_
  rw [wJ]
  unfold Old.defNames
  rw [List.length_map, List.length_append]
  exact Nat.le_refl _
theorem aKP (ha : bW a.l) (hb : bW b.l) (ba : bdL 1048576 a.l) (bb : bdL 1048576 b.l) : (wN a b).length ≤ 7000000 := by
  unfold wN
  split
  · simp
  · rename_i h
    obtain ⟨ta, tb⟩ : jK a = false ∧ jK b = false := by simpa using h
    obtain ⟨a0, a1, _⟩ := gC ta
    obtain ⟨b0, b1, _⟩ := gC tb
    have r1 := mW (a := a) (b := b) (k := 1)
    have r2 := mW (a := a) (b := b) (k := 2)
    have r3 := mW (a := a) (b := b) (k := 3)
    have t1 := qZ (g := fun _ => rK b) (c := 32000) a.a0 0 fun j hj => xD hb ta tb hj ha.p.2.1
    have t2 := qZ (g := fun _ => vQ a) (c := 1) b.a0 0 fun j hj => rF _ _
    have t3 := qZ (g := fun _ => aAd a b) (c := 32000) (Old.rowN (Old.namesOf a.a1 b.a1)) 0 fun j hj => aGI ha hb ba bb ta tb _
    have n1 := aKH (a := a) (b := b)
    rw [Old.rowN_len] at t3
    unfold aMM
    simp only [List.length_append]
    omega
theorem aQ7 {c : Int} {o p : ByteArray} : cF (Old.chg c o p) := .mk _ _ _
theorem ifC {q : Bool} {c : Int} {o p : ByteArray} : ∀ e ∈ ifP q (Old.chg c o p), cF e := fun e he => by obtain ⟨_, rfl⟩ := aOT he; exact aQ7
theorem aMY {x y : List El} (hx : ∀ e ∈ x, cF e) (hy : ∀ e ∈ y, cF e) : ∀ e ∈ x ++ y, cF e := fun e he => (List.mem_append.1 he).elim (hx e) (hy e)
theorem aQH {g : Nat → El → List El} {l : List El} {i : Nat} (h : ∀ (j : Nat) (x : El), ∀ e ∈ g j x, cF e) : ∀ e ∈ lF g i l, cF e := fun e he => by
  obtain ⟨j, hj, hx⟩ := aLp l i he
  exact h _ _ e hx
theorem aPm : ∀ e ∈ wN a b, cF e := by
  have one : ∀ {x : El}, cF x → ∀ e ∈ [x], cF e := fun {x} h e he => by rw [List.mem_singleton.1 he]; exact h
  unfold wN
  split
  · intro e he; cases he
  · refine aMY (aMY ifC ifC) (aMY (aMY ifC ifC) (aMY (aMY ifC ifC) (aMY (aQH fun j x => ?_) (aMY (aQH fun j x => ifC) (aQH fun j x => ?_)))))
    · unfold rK
      split
      · exact one aQ7
      · exact Old.defCh_all
    · unfold aAd
      split
      · exact one aQ7
      · split
        · exact one aQ7
        · exact Old.defCh_all
end
end Go.Vs
end
