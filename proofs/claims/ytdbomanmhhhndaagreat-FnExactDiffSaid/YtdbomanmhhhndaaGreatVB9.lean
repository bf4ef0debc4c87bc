/- What the program's functions compute, read off their text by the shadow runner (WOj, WOk, WOn, WOo, WOp, WOq, WOu, WOl, WOv, WOw, VsOnce, WOs, WOx, WOy, WOz); no condition. -/
import Derived.Lib.SlicesCompact
import Derived.Test.YtdbomanmhhhndaaGreatVB8
section
open Go Go.Vs Go.Proofs
set_option linter.unusedVariables false
set_option linter.unusedSimpArgs false
namespace Go.Vs.Old
open Classical in
noncomputable def aAz (n1 w1 n2 w2 : ByteArray) : Bool := if h : w1.size ≤ maxLen ∧ w2.size ≤ maxLen then Classical.choose (aIE n1 n2 _ w1 w2 rfl h.1 h.2) else false
theorem aHc {n1 w1 n2 w2 : ByteArray} (h1 : w1.size ≤ maxLen) (h2 : w2.size ≤ maxLen) : Dn F.aUt [.agg [.str n1, .str w1], .agg [.str n2, .str w2]] [] = some (aP (aAz n1 w1 n2 w2), []) := by
  have h : w1.size ≤ maxLen ∧ w2.size ≤ maxLen := ⟨h1, h2⟩
  refine bH ?_
  rw [aFa]
  unfold aAz
  rw [dif_pos h]
  exact (Classical.choose_spec (aIE n1 n2 _ w1 w2 rfl h.1 h.2)).1
theorem aHa {n1 w1 n2 w2 : ByteArray} (h1 : w1.size ≤ maxLen) (h2 : w2.size ≤ maxLen) : Dn F.aUu [.agg [.str n1, .str w1], .agg [.str n2, .str w2]] [] = some (aP (aAz n1 w1 n2 w2), []) := by
  have h : w1.size ≤ maxLen ∧ w2.size ≤ maxLen := ⟨h1, h2⟩
  unfold aAz
  rw [dif_pos h]
  exact (Classical.choose_spec (aIE n1 n2 _ w1 w2 rfl h.1 h.2)).2
def dL (s : ByteArray) : Int → List (List (aA false)) → Int
  | _, [] => -1
  | i, e :: es => if ((bC e 0).toList == s.toList) = true then i else dL s (i + 1) es
theorem aK1 {es : List (List (aA false))} {s : ByteArray} (hl : es.length ≤ maxLen) (hq : ∀ e ∈ es, cI e) : ∀ i : Nat, i ≤ es.length →
    nR Dn (wO es s i) = some (aJ (dL s i (es.drop i)), []) := by
  refine bY ?_ ?_
  · rw [aDG]; simp [dL]
  · intro i hi ih
    obtain ⟨s0, s1, s2, s3, b4, i5, s6, e7, e8, e9, he, h0, h1, h2, h3, h6, h7, q7, h8, q8, h9, q9⟩ := (hq _ (List.getElem_mem hi)).ex
    rw [aDG, cY hi]
    simp only [Int.ofNat_lt, hi, decide_true, aF, Int.natCast_nonneg, Bool.and_true, Int.toNat_natCast, aD, bB (Nat.lt_of_lt_of_le hi hl), aR (fun e he => (hq e he).len), bI hi]
    rw [he]
    simp only [bL, aY, bZ, dL, bC, List.getElem?_cons_zero, ih]
    by_cases hx : (s0.toList == s.toList) = true <;> simp [hx]
theorem aJv {es : List (List (aA false))} {s : ByteArray} (hl : es.length ≤ maxLen) (hq : ∀ e ∈ es, cI e) : Dn F.aWh [vsl es, .leaf (.str s)] [] = some (aJ (dL s 0 es), []) := by
  refine bH ?_
  rw [aLK]
  exact aK1 hl hq 0 (Nat.zero_le _)
theorem aLW {e : List (aA false)} {s : ByteArray} (h : cI e) : Dn F.aVX [.agg e, .ptr 0 0] [[.leaf (.str s)]] = some (aP ((bC e 0).toList == s.toList), [[.leaf (.str s)]]) := by
  cases h
  refine bH ?_
  rw [aJL]
  rfl
theorem aMX {es : List (List (aA false))} {s : ByteArray} (hl : es.length ≤ maxLen) (hq : ∀ e ∈ es, cI e) : ∀ i : Nat, i ≤ es.length →
    bS Dn (cP es F.aVX es.length i s) = some (aJ (dL s i (es.drop i)), [[.leaf (.str s)]]) := by
  refine bY ?_ ?_
  · rw [fM]; simp [dL]
  · intro i hi ih
    have hci := aLW (s := s) (hq _ (List.getElem_mem hi))
    obtain ⟨s0, s1, s2, s3, b4, i5, s6, e7, e8, e9, he, h0, h1, h2, h3, h6, h7, q7, h8, q8, h9, q9⟩ := (hq _ (List.getElem_mem hi)).ex
    rw [fM, cY hi]
    simp only [Int.ofNat_lt, hi, decide_true, aF, Int.natCast_nonneg, Bool.and_true, Int.toNat_natCast, aD, bB (Nat.lt_of_lt_of_le hi hl), aR (fun e he => (hq e he).len), bI hi]
    rw [he] at hci ⊢
    simp only [dI, bL, cF, cA, aY, bQ, dK, hci, Option.bind_some, sB, jH, aV, kZ, nK, bZ, dL, bC, List.getElem?_cons_zero, ih]
    by_cases hx : (s0.toList == s.toList) = true <;> simp [hx]
theorem aJx {es : List (List (aA false))} {s : ByteArray} (hl : es.length ≤ maxLen) (hq : ∀ e ∈ es, cI e) : Dn F.aWe [vsl es, .leaf (.str s)] [] = some (aJ (dL s 0 es), []) := by
  have key : Dn F.aT2 [vsl es, .fn F.aVX [.ptr 0 0]] [[.leaf (.str s)]] = some (aJ (dL s 0 es), [[.leaf (.str s)]]) := by
    refine bH ?_
    rw [lM]
    exact aMX hl hq 0 (Nat.zero_le _)
  refine bH ?_
  rw [aL0, key]
  simp
theorem aHk (s : ByteArray) : ∀ (es : List (List (aA false))) (i : Int), 0 ≤ i → dL s i es = -1 ∨ (i ≤ dL s i es ∧ dL s i es < i + es.length)
  | [], i, h => .inl rfl
  | e :: es, i, h => by
    unfold dL
    split
    · right; simp; omega
    · rcases aHk s es (i + 1) (by omega) with h1 | h1
      · exact .inl h1
      · right; simp only [List.length_cons]; push_cast; omega
mutual
def eqF : aA false → aA false → Bool
  | .int _ a, .int _ b => a == b
  | .str a, .str b => a.toList == b.toList
  | .bool a, .bool b => a == b
  | .sl _ a, .sl _ b => eqE a b
  | _, _ => false
def eqL : List (aA false) → List (aA false) → Bool
  | [], [] => true
  | a :: r, b :: s => eqF a b && eqL r s
  | _, _ => false
def eqE : List (List (aA false)) → List (List (aA false)) → Bool
  | [], [] => true
  | a :: r, b :: s => eqL a b && eqE r s
  | _, _ => false
end
theorem aH1 : ∀ (a b : List (List (aA false))), eqE a b = true → a.length = b.length
  | [], [], _ => rfl
  | _ :: r, _ :: s, h => by
    rw [eqE, Bool.and_eq_true] at h
    rw [List.length_cons, List.length_cons, aH1 r s h.2]
  | [], _ :: _, h => by simp [eqE] at h
  | _ :: _, [], h => by simp [eqE] at h
theorem aLF {β : Type} {A : Int → Option β} {no yes : Option β} {a b : List (List (aA false))} (hla : a.length ≤ maxLen) (hlen : a.length = b.length) (qa : ∀ e ∈ a, dP e) (qb : ∀ e ∈ b, dP e)
    (hend : A a.length = yes) (hstep : ∀ (i : Nat) (hi : i < a.length), A i = aC (!((bC a[i] 0).toList == (bC (b[i]'(by omega)) 0).toList)) no (A ((i + 1 : Nat) : Int))) :
    ∀ i : Nat, i ≤ a.length → A i = if eqE (a.drop i) (b.drop i) = true then yes else no := by
  refine bY ?_ ?_
  · rw [hend, List.drop_length, hlen, List.drop_length]; simp [eqE]
  · intro i hi ih
    rw [hstep i hi, ih, cY hi, cY (show i < b.length by omega)]
    obtain ⟨s, hs, _⟩ := qa _ (List.getElem_mem hi)
    obtain ⟨u, hu, _⟩ := qb _ (List.getElem_mem (show i < b.length by omega))
    simp only [hs, hu, bC, List.getElem?_cons_zero, eqE, eqL, eqF, bZ, Bool.and_true]
    cases hx : (s.toList == u.toList) <;> simp
theorem aLh {a b : List (List (aA false))} (ha : a.length ≤ maxLen) (qa : ∀ e ∈ a, dP e) (qb : ∀ e ∈ b, dP e) : Dn F.aUb [vsl a, vsl b] [] = some (aP (eqE a b), []) := by
  refine bH ?_
  rw [sY]
  by_cases hlen : a.length = b.length
  · have hne : (((a.length : Nat) : Int) != ((b.length : Nat) : Int)) = false := by simp [hlen]
    rw [hne, aG]
    have := aLF (A := fun i => cX Dn (eF a b a.length i)) (no := some (aP false, [])) (yes := some (aP true, [])) ha hlen qa qb (by
      rw [lN]; simp) (fun i hi => by
      obtain ⟨s, hs, _⟩ := qa _ (List.getElem_mem hi)
      have hib : i < b.length := by omega
      obtain ⟨u, hu, _⟩ := qb _ (List.getElem_mem hib)
      rw [lN]
      simp only [Int.ofNat_lt, hi, hib, decide_true, aF, Int.natCast_nonneg, Bool.and_true, Int.toNat_natCast, aD, bB (Nat.lt_of_lt_of_le hi ha), aR (fun e he => (qa e he).len), aR (fun e he => (qb e he).len), bI hi, bI hib, hs, hu, bL, aY, bC, List.getElem?_cons_zero]) 0 (Nat.zero_le _)
    simp only [List.drop_zero] at this
    rw [show ((0 : Int)) = ((0 : Nat) : Int) from rfl, this]
    cases eqE a b <;> rfl
  · have hne : (((a.length : Nat) : Int) != ((b.length : Nat) : Int)) = true := by simp; omega
    have : eqE a b = false := by rw [Bool.eq_false_iff]; exact fun h => hlen (aH1 a b h)
    rw [hne, this]; rfl
theorem aLi {β : Type} {A : Int → Option β} {no yes : Option β} {a b : List (List (aA false))} (hlen : a.length = b.length)
    (hend : A a.length = yes) (hstep : ∀ (i : Nat) (hi : i < a.length), A i = aC (!(eqL a[i] (b[i]'(by omega)))) no (A ((i + 1 : Nat) : Int))) :
    ∀ i : Nat, i ≤ a.length → A i = if eqE (a.drop i) (b.drop i) = true then yes else no := by
  refine bY ?_ ?_
  · rw [hend, List.drop_length, hlen, List.drop_length]; simp [eqE]
  · intro i hi ih
    rw [hstep i hi, ih, cY hi, cY (show i < b.length by omega)]
    simp only [eqE, bZ]
    by_cases hx : eqL a[i] (b[i]'(by omega)) = true <;> simp [hx]
theorem aJf {x : List (aA false)} (hx : dH x) : ∀ {y : List (aA false)}, dH y → Dn F.aUL [.agg x, .agg y] [] = some (aP (eqL x y), []) ∧ Dn F.aUS [.agg x, .agg y] [] = some (aP (eqL x y), []) := by
  induction hx with
  | mk i0 s1 e2 e3 h1 h2 q2 h3 q3 ih =>
    intro y hy
    cases hy with
    | mk j0 t1 f2 f3 g1 g2 r2 g3 r3 =>
      have step : ∀ (i : Nat) (hi : i < e2.length) (hib : i < f2.length), Dn F.aUL [.agg e2[i], .agg f2[i]] [] = some (aP (eqL e2[i] f2[i]), []) ∧ Dn F.aUS [.agg e2[i], .agg f2[i]] [] = some (aP (eqL e2[i] f2[i]), []) :=
        fun i hi hib => ih _ (List.getElem_mem hi) (r2 _ (List.getElem_mem hib))
      have val : eqL [.int .i64 i0, .str s1, .sl fP e2, .sl fP e3] [.int .i64 j0, .str t1, .sl fP f2, .sl fP f3] = ((i0 == j0) && ((s1.toList == t1.toList) && (eqE e2 f2 && eqE e3 f3))) := by
        simp only [eqL, eqF, Bool.and_true]
      rw [val]
      constructor
      · have hE : Dn F.aTZ [vsl e2, vsl f2, .fn F.aUL []] [] = some (aP (eqE e2 f2), []) := by
          refine bH ?_
          rw [fU]
          by_cases hlen : e2.length = f2.length
          · have hne : (((e2.length : Nat) : Int) != ((f2.length : Nat) : Int)) = false := by simp [hlen]
            rw [hne, aG]
            have := aLi (A := fun i => aX Dn (bU f2 F.aUL e2 e2.length i)) (no := some (aP false, [])) (yes := some (aP true, [])) hlen (by
              rw [dM]; simp) (fun i hi => by
              have hib : i < f2.length := by omega
              have hc := (step i hi hib).1
              obtain ⟨a0, a1, a2, a3, ha, _⟩ := (q2 _ (List.getElem_mem hi)).ex
              obtain ⟨b0, b1, b2, b3, hb, _⟩ := (r2 _ (List.getElem_mem hib)).ex
              rw [dM]
              rw [ha, hb] at hc
              simp only [Int.ofNat_lt, hi, hib, decide_true, aF, Int.natCast_nonneg, Bool.and_true, Int.toNat_natCast, aD, bB (Nat.lt_of_lt_of_le hi h2), aR (fun e he => (q2 e he).len), aR (fun e he => (r2 e he).len), bI hi, bI hib, ha, hb, dI, bL, cF, cA, aY, dK, hc, Option.bind_some, nK, aV, bQ]) 0 (Nat.zero_le _)
            simp only [List.drop_zero] at this
            rw [show ((0 : Int)) = ((0 : Nat) : Int) from rfl, this]
            cases eqE e2 f2 <;> rfl
          · have hne : (((e2.length : Nat) : Int) != ((f2.length : Nat) : Int)) = true := by simp; omega
            have : eqE e2 f2 = false := by rw [Bool.eq_false_iff]; exact fun h => hlen (aH1 _ _ h)
            rw [hne, this]; rfl
        refine bH ?_
        rw [aGi, aLh h3 q3 r3]
        simp only [Option.bind_some, aV, bQ, hE, nK]
        cases (i0 == j0) <;> cases (s1.toList == t1.toList) <;> cases eqE e3 f3 <;> cases eqE e2 f2 <;> rfl
      · have s2 : e2.length = f2.length → cD Dn (lA 0 i0 s1 e2 e3 j0 t1 f2 f3) = some (aP (eqE e2 f2), []) := fun hlen => by
          have := aLi (A := fun i => cD Dn (lA i i0 s1 e2 e3 j0 t1 f2 f3)) (no := some (aP false, [])) (yes := some (aP true, [])) hlen (by
            rw [xK]; simp) (fun i hi => by
            have hib : i < f2.length := by omega
            have hc := (step i hi hib).2
            obtain ⟨a0, a1, a2, a3, ha, _⟩ := (q2 _ (List.getElem_mem hi)).ex
            obtain ⟨b0, b1, b2, b3, hb, _⟩ := (r2 _ (List.getElem_mem hib)).ex
            rw [xK]
            rw [ha, hb] at hc
            simp only [Int.ofNat_lt, hi, hib, decide_true, aF, Int.natCast_nonneg, Bool.and_true, Int.toNat_natCast, aD, bB (Nat.lt_of_lt_of_le hi h2), aR (fun e he => (q2 e he).len), aR (fun e he => (r2 e he).len), bI hi, bI hib, ha, hb, dI, bL, cF, cA, aY, dK, hc, Option.bind_some, nK, aV, bQ]) 0 (Nat.zero_le _)
          simp only [List.drop_zero] at this
          rw [show ((0 : Int)) = ((0 : Nat) : Int) from rfl, this]
          cases eqE e2 f2 <;> rfl
        have s1' : e2.length = f2.length → e3.length = f3.length → cD Dn (kX 0 i0 s1 e2 e3 j0 t1 f2 f3) = some (aP (eqE e2 f2 && eqE e3 f3), []) := fun hl2 hl3 => by
          have := aLF (A := fun i => cD Dn (kX i i0 s1 e2 e3 j0 t1 f2 f3)) (no := some (aP false, [])) (yes := some (aP (eqE e2 f2), [])) h3 hl3 q3 r3 (by
            rw [xD, s2 hl2]; simp) (fun i hi => by
            obtain ⟨s, hs, _⟩ := q3 _ (List.getElem_mem hi)
            have hib : i < f3.length := by omega
            obtain ⟨u, hu, _⟩ := r3 _ (List.getElem_mem hib)
            rw [xD]
            simp only [Int.ofNat_lt, hi, hib, decide_true, aF, Int.natCast_nonneg, Bool.and_true, Int.toNat_natCast, aD, bB (Nat.lt_of_lt_of_le hi h3), aR (fun e he => (q3 e he).len), aR (fun e he => (r3 e he).len), bI hi, bI hib, hs, hu, bL, aY, bC, List.getElem?_cons_zero]) 0 (Nat.zero_le _)
          simp only [List.drop_zero] at this
          rw [show ((0 : Int)) = ((0 : Nat) : Int) from rfl, this]
          cases eqE e3 f3 <;> simp
        refine bH ?_
        rw [aGE]
        simp only [aEI, aF, bZ]
        by_cases hi : i0 = j0
        · subst hi
          cases hs : (s1.toList == t1.toList) with
          | true =>
            by_cases hl2 : e2.length = f2.length
            · by_cases hl3 : e3.length = f3.length
              · have n3 : (((e3.length : Nat) : Int) != ((f3.length : Nat) : Int)) = false := by simp [hl3]
                have n2 : (((e2.length : Nat) : Int) != ((f2.length : Nat) : Int)) = false := by simp [hl2]
                rw [s1' hl2 hl3]
                simp [n2, n3]
              · have : eqE e3 f3 = false := by rw [Bool.eq_false_iff]; exact fun h => hl3 (aH1 _ _ h)
                have n3 : (((e3.length : Nat) : Int) != ((f3.length : Nat) : Int)) = true := by simp; omega
                simp [n3, this]
            · have : eqE e2 f2 = false := by rw [Bool.eq_false_iff]; exact fun h => hl2 (aH1 _ _ h)
              have n2 : (((e2.length : Nat) : Int) != ((f2.length : Nat) : Int)) = true := by simp; omega
              simp [n2, this]
          | false => simp
        · have : (i0 != j0) = true := by simp [hi]
          have h2 : (i0 == j0) = false := by simp [hi]
          simp [this, h2]
end Go.Vs.Old
end
section
open Go Go.Vs Go.Proofs
set_option linter.unusedVariables false
set_option linter.unusedSimpArgs false
namespace Go.Vs.Old
def chg (code : Int) (o p : ByteArray) : List (aA false) := [.int .i64 code, .str o, .str p]
def wV (e : List (aA false)) (p : Nat) : Bool := match e[p]? with | some (.bool b) => b | _ => false
noncomputable def d1 (o p n1 w1 n2 w2 : ByteArray) : List (List (aA false)) := if (!(n1 == n2 && w1 == w2)) = true then [chg (if aAz n1 w1 n2 w2 = true then 19 else 7) o p] else []
def d2 (o p : ByteArray) (b c : Bool) (w2 : ByteArray) (xv yv : List (aA false)) : List (List (aA false)) :=
  if (b && (!c && nN w2 33)) = true then [chg 9 o p] else if (!(b == c) || !(eqL xv yv)) = true then [chg 21 o p] else []
noncomputable def aA6 (o : ByteArray) (b : List (List (aA false))) (x : List (aA false)) : List (List (aA false)) :=
  if dL (bC x 0) 0 b < 0 then [chg 6 o (bC x 0)] else
    d1 o (bC x 0) (bC x 2) (bC x 3) (bC (b.getD (dL (bC x 0) 0 b).toNat []) 2) (bC (b.getD (dL (bC x 0) 0 b).toNat []) 3) ++
    d2 o (bC x 0) (wV x 4) (wV (b.getD (dL (bC x 0) 0 b).toNat []) 4) (bC (b.getD (dL (bC x 0) 0 b).toNat []) 3) ((x.drop 5).take 4) (((b.getD (dL (bC x 0) 0 b).toNat []).drop 5).take 4)
def aIm (o : ByteArray) (a : List (List (aA false))) (y : List (aA false)) : List (List (aA false)) :=
  if dL (bC y 0) 0 a ≥ 0 then [] else [chg (if (nN (bC y 3) 33 && !(wV y 4)) = true then 8 else 20) o (bC y 0)]
noncomputable def zM (o : ByteArray) (a b : List (List (aA false))) : List (List (aA false)) := a.flatMap (aA6 o b) ++ b.flatMap (aIm o a)
theorem aTh (o p n1 w1 n2 w2 : ByteArray) : (d1 o p n1 w1 n2 w2).length ≤ 1 := by unfold d1; split <;> simp
theorem aTa (o p : ByteArray) (b c : Bool) (w2 : ByteArray) (xv yv : List (aA false)) : (d2 o p b c w2 xv yv).length ≤ 1 := by unfold d2; split <;> (try split) <;> simp
theorem aDE (o : ByteArray) (b : List (List (aA false))) (x : List (aA false)) : (aA6 o b x).length ≤ 2 := by
  unfold aA6
  split
  · simp
  · rw [List.length_append]
    have h1 := aTh o (bC x 0) (bC x 2) (bC x 3) (bC (b.getD (dL (bC x 0) 0 b).toNat []) 2) (bC (b.getD (dL (bC x 0) 0 b).toNat []) 3)
    have h2 := aTa o (bC x 0) (wV x 4) (wV (b.getD (dL (bC x 0) 0 b).toNat []) 4) (bC (b.getD (dL (bC x 0) 0 b).toNat []) 3) ((x.drop 5).take 4) (((b.getD (dL (bC x 0) 0 b).toNat []).drop 5).take 4)
    omega
theorem aLA (o : ByteArray) (a : List (List (aA false))) (y : List (aA false)) : (aIm o a y).length ≤ 1 := by unfold aIm; split <;> simp
theorem flatMap_len {α β : Type} {f : α → List β} {k : Nat} (h : ∀ x, (f x).length ≤ k) : ∀ l : List α, (l.flatMap f).length ≤ k * l.length
  | [] => by simp
  | x :: l => by
    have h1 := h x
    have h2 := flatMap_len h l
    rw [List.flatMap_cons, List.length_append, List.length_cons, Nat.mul_add]; omega
theorem xW {o : ByteArray} {a b : List (List (aA false))} : ∀ e ∈ zM o a b, dG e := by
  intro e he
  have hc : ∀ {code : Int} {p : ByteArray}, dG (chg code o p) := fun {code p} => .mk _ _ _
  have h1 : ∀ {x : List (aA false)}, e ∈ aA6 o b x → dG e := fun {x} hx => by
    unfold aA6 at hx
    split at hx
    · rw [List.mem_singleton.1 hx]; exact hc
    · rcases List.mem_append.1 hx with hx | hx
      · unfold d1 at hx
        split at hx
        · rw [List.mem_singleton.1 hx]; exact hc
        · simp at hx
      · unfold d2 at hx
        split at hx
        · rw [List.mem_singleton.1 hx]; exact hc
        · split at hx
          · rw [List.mem_singleton.1 hx]; exact hc
          · simp at hx
  have h2 : ∀ {x : List (aA false)}, e ∈ aIm o a x → dG e := fun {x} hx => by
    unfold aIm at hx
    split at hx
    · simp at hx
    · rw [List.mem_singleton.1 hx]; exact hc
  rcases List.mem_append.1 he with he | he
  · obtain ⟨x, _, hx⟩ := List.mem_flatMap.1 he; exact h1 hx
  · obtain ⟨x, _, hx⟩ := List.mem_flatMap.1 he; exact h2 hx
theorem aNL {n : Nat} (h : n ≤ 4194304) : (decide ((n + 1) * 40 ≤ aH) && true) = true := by
  have hb : aH = 140737488355328 := rfl
  rw [Bool.and_true, decide_eq_true_eq]; omega
theorem aOc {n : Nat} (h : n ≤ 4194304) : decide ((n + 1) * 40 ≤ aH) = true := by
  have hb : aH = 140737488355328 := rfl
  rw [decide_eq_true_eq]; omega
section
variable {o : ByteArray} {a b : List (List (aA false))}
theorem aQT {out : List (List (aA false))} {i : Int} {x0 x1 x2 x3 : ByteArray} {x4 : Bool} {x5 : Int} {x6 : ByteArray} {x7 x8 x9 : List (List (aA false))} {y0 y1 y2 y3 : ByteArray} {y4 : Bool} {y5 : Int} {y6 : ByteArray} {y7 y8 y9 : List (List (aA false))}
    (hx : dH [.int .i64 x5, .str x6, .sl fP x7, .sl fP x8]) (hy : dH [.int .i64 y5, .str y6, .sl fP y7, .sl fP y8]) (hw : y3.size ≤ maxLen) (hr : out.length ≤ 4194304) :
    aN Dn (nC o a b out i x0 x1 x2 x3 x4 x5 x6 x7 x8 x9 y0 y1 y2 y3 y4 y5 y6 y7 y8 y9) =
      aN Dn (gZ o a b (out ++ d2 o x0 x4 y4 y3 [.int .i64 x5, .str x6, .sl fP x7, .sl fP x8] [.int .i64 y5, .str y6, .sl fP y7, .sl fP y8]) i) := by
  have sv := (aJf hx hy).2
  rw [aFk]
  simp -implicitDefEqProofs only [vL hw, Option.bind_some, aV, bQ, aFj, aFq, sv, aNL hr, aD]
  unfold d2
  generalize eqL [.int .i64 x5, .str x6, .sl fP x7, .sl fP x8] [.int .i64 y5, .str y6, .sl fP y7, .sl fP y8] = q
  cases x4 <;> cases y4 <;> cases nN y3 33 <;> cases q <;> simp [chg]
theorem aOH (ha : a.length ≤ 1048576) (hb : b.length ≤ 1048576) (qa : ∀ e ∈ a, cI e) (qb : ∀ e ∈ b, cI e) : ∀ i : Nat, i ≤ a.length → ∀ out : List (List (aA false)), out.length ≤ 2 * i →
    aN Dn (mY o a b out i) = aN Dn (jC o a b (out ++ (a.drop i).flatMap (aA6 o b)) 0) := by
  have hml : (1048576 : Nat) ≤ maxLen := by decide
  have hla : a.length ≤ maxLen := Nat.le_trans ha hml
  have hlb : b.length ≤ maxLen := Nat.le_trans hb hml
  refine bY ?_ ?_
  · intro out ho; rw [xL]; simp
  · intro i hi ih out ho
    have hro : out.length ≤ 4194304 := by omega
    have hxi := qa _ (List.getElem_mem hi)
    obtain ⟨x0, x1, x2, x3, x4, x5, x6, x7, x8, x9, he, h0, h1, h2, h3, h6, h7, q7, h8, q8, h9, q9⟩ := hxi.ex
    have next : ∀ out' : List (List (aA false)), out' = out ++ aA6 o b a[i] → aN Dn (gZ o a b out' i) = aN Dn (jC o a b (out ++ (a.drop i).flatMap (aA6 o b)) 0) := fun out' ho' => by
      subst ho'
      rw [aFf, bB (Nat.lt_of_lt_of_le hi hla), ih _ (by have := aDE o b a[i]; rw [List.length_append]; omega), cY hi, List.flatMap_cons, List.append_assoc]
    have hin := aJv (s := x0) hlb qb
    rw [xL]
    simp -implicitDefEqProofs only [Int.ofNat_lt, hi, decide_true, aF, Int.natCast_nonneg, Bool.and_true, Int.toNat_natCast, aD, aR (fun e he => (qa e he).len), bI hi]
    rw [he]
    simp -implicitDefEqProofs only [dI, bL, cF, cA, aY, bQ, dK, hin, Option.bind_some, aV]
    rcases aHk x0 b 0 (by omega) with hk | ⟨hk0, hk1⟩
    · rw [hk]
      simp -implicitDefEqProofs only [show ((-1 : Int) < 0) by omega, decide_true, aF, aNL hro, aOc hro, aD]
      exact next _ (by rw [he]; simp -implicitDefEqProofs only [aA6, bC, List.getElem?_cons_zero, hk, show ((-1 : Int) < 0) = True from eq_true (by omega), if_true, chg])
    · obtain ⟨j, hj⟩ : ∃ j : Nat, dL x0 0 b = (j : Int) := ⟨(dL x0 0 b).toNat, by omega⟩
      have hjb : j < b.length := by omega
      obtain ⟨y0, y1, y2, y3, y4, y5, y6, y7, y8, y9, hf, g0, g1, g2, g3, g6, g7, r7, g8, r8, g9, r9⟩ := (qb _ (List.getElem_mem hjb)).ex
      have hjn : ¬ ((j : Int) < 0) := by omega
      rw [hj]
      simp -implicitDefEqProofs only [hjn, decide_false, aG, Int.ofNat_lt, hjb, decide_true, Int.natCast_nonneg, Bool.and_true, Int.toNat_natCast, aD, aR (fun e he => (qb e he).len), bI hjb]
      rw [hf]
      simp -implicitDefEqProofs only [dI, bL, cF, cA, aY, bQ, dK, aHc h3 g3, Option.bind_some, aV, aE6, aNL hro, aOc hro, aD]
      have tail := fun (out' : List (List (aA false))) (hr : out'.length ≤ 4194304) => aQT (o := o) (a := a) (b := b) (i := (i : Int)) (x0 := x0) (x1 := x1) (x2 := x2) (x3 := x3) (x4 := x4) (x9 := x9) (y0 := y0) (y1 := y1) (y2 := y2) (y4 := y4) (y9 := y9) (out := out') (.mk x5 x6 x7 x8 h6 h7 q7 h8 q8) (.mk y5 y6 y7 y8 g6 g7 r7 g8 r8) g3 hr
      have pa : aA6 o b a[i] = d1 o x0 x2 x3 y2 y3 ++ d2 o x0 x4 y4 y3 [.int .i64 x5, .str x6, .sl fP x7, .sl fP x8] [.int .i64 y5, .str y6, .sl fP y7, .sl fP y8] := by
        rw [he]
        simp -implicitDefEqProofs only [aA6, bC, wV, List.getElem?_cons_zero, List.getElem?_cons_succ, hj, hjn, if_false, Int.toNat_natCast, bI hjb, hf, List.drop_succ_cons, List.drop_zero, List.take_succ_cons, List.take_zero]
      rw [bZ]
      by_cases hne : (!(x2 == y2 && x3 == y3)) = true
      · have e1 : d1 o x0 x2 x3 y2 y3 = [chg (if aAz x2 x3 y2 y3 = true then 19 else 7) o x0] := by unfold d1; rw [if_pos hne]
        rw [if_pos hne, bZ]
        have hr2 : ∀ l : List (aA false), (out ++ [l]).length ≤ 4194304 := fun l => by rw [List.length_append]; simp; omega
        by_cases hcm : aAz x2 x3 y2 y3 = true
        · rw [if_pos hcm, Bool.and_self, aD, tail _ (hr2 _)]
          exact next _ (by rw [pa, e1, if_pos hcm]; simp only [chg, List.append_assoc])
        · rw [if_neg hcm, Bool.and_self, aD, tail _ (hr2 _)]
          exact next _ (by rw [pa, e1, if_neg hcm]; simp only [chg, List.append_assoc])
      · have e1 : d1 o x0 x2 x3 y2 y3 = [] := by unfold d1; rw [if_neg hne]
        rw [if_neg hne, tail _ hro]
        exact next _ (by rw [pa, e1]; rfl)
theorem aOs (ha : a.length ≤ 1048576) (hb : b.length ≤ 1048576) (qa : ∀ e ∈ a, cI e) (qb : ∀ e ∈ b, cI e) : ∀ i : Nat, i ≤ b.length → ∀ out : List (List (aA false)), out.length ≤ 2097152 + i →
    aN Dn (jC o a b out i) = some (.own (some T.aVQ) (out ++ (b.drop i).flatMap (aIm o a)), []) := by
  have hml : (1048576 : Nat) ≤ maxLen := by decide
  have hla : a.length ≤ maxLen := Nat.le_trans ha hml
  have hlb : b.length ≤ maxLen := Nat.le_trans hb hml
  refine bY ?_ ?_
  · intro out ho; rw [xT]; simp
  · intro i hi ih out ho
    have hro : out.length ≤ 4194304 := by omega
    obtain ⟨y0, y1, y2, y3, y4, y5, y6, y7, y8, y9, he, h0, h1, h2, h3, h6, h7, q7, h8, q8, h9, q9⟩ := (qb _ (List.getElem_mem hi)).ex
    have next : ∀ out' : List (List (aA false)), out' = out ++ aIm o a b[i] → aN Dn (mX o a b out' i) = some (.own (some T.aVQ) (out ++ (b.drop i).flatMap (aIm o a)), []) := fun out' ho' => by
      subst ho'
      rw [aEH, bB (Nat.lt_of_lt_of_le hi hlb), ih _ (by have := aLA o a b[i]; rw [List.length_append]; omega), cY hi, List.flatMap_cons, List.append_assoc]
    have hin := aJv (s := y0) hla qa
    rw [xT]
    simp -implicitDefEqProofs only [aEK, aEJ, Int.ofNat_lt, hi, decide_true, aF, Int.natCast_nonneg, Bool.and_true, Int.toNat_natCast, aD, aR (fun e he => (qb e he).len), bI hi]
    rw [he]
    simp -implicitDefEqProofs only [dI, bL, cF, cA, aY, bQ, dK, hin, vL h3, Option.bind_some, aV, aNL hro, aOc hro, aD]
    have pb : aIm o a b[i] = if dL y0 0 a ≥ 0 then [] else [chg (if (nN y3 33 && !y4) = true then 8 else 20) o y0] := by
      rw [he]; rfl
    by_cases hk : dL y0 0 a ≥ 0
    · simp -implicitDefEqProofs only [hk, decide_true, aF]
      exact next _ (by rw [pb, if_pos hk]; simp)
    · simp -implicitDefEqProofs only [hk, decide_false, aG]
      rw [if_neg hk] at pb
      cases hn : nN y3 33 <;> cases hy : y4 <;> simp -implicitDefEqProofs only [hn, hy, beq_self_eq_true, aF, aG, Bool.not_true, Bool.not_false, show ((false : Bool) == true) = false from rfl] <;> exact next _ (by rw [pb, hn, hy]; rfl)
theorem uR (ha : a.length ≤ 1048576) (hb : b.length ≤ 1048576) (qa : ∀ e ∈ a, cI e) (qb : ∀ e ∈ b, cI e) : Dn F.aUR [.leaf (.str o), vsl a, vsl b] [] = some (.own (some T.aVQ) (zM o a b), []) := by
  refine bH ?_
  rw [aGW]
  have h1 := aOH (o := o) ha hb qa qb 0 (Nat.zero_le _) [] (by simp)
  have hl := flatMap_len (fun x => aDE o b x) a
  have h2 := aOs (o := o) ha hb qa qb 0 (Nat.zero_le _) (a.flatMap (aA6 o b)) (by omega)
  simp only [List.drop_zero, List.nil_append] at h1 h2
  exact h1.trans h2
end
end Go.Vs.Old
end
section
open Go Go.Vs Go.Proofs
set_option linter.unusedVariables false
set_option linter.unusedSimpArgs false
namespace Go.Vs.Old
structure aEB (es r : List El) : Prop where
  up : rZ r
  mem : ∀ s, (∃ e ∈ r, key e = s) ↔ ∃ e ∈ es, key e = s
  len : r.length ≤ es.length
  sub : ∀ e ∈ r, e ∈ es
theorem bl (x y : List UInt8) : Op.bytesLess x y = decide (x < y) := Go.Proofs.bytesLess_eq x y
theorem aTK (x y : List UInt8) : (Op.bytesLess x y || x == y) = decide (x ≤ y) := by
  rw [bl, Bool.eq_iff_iff]
  simp only [Bool.or_eq_true, decide_eq_true_eq, beq_iff_eq]
  constructor
  · rintro (h | h)
    · exact List.le_of_lt h
    · rw [h]; exact leR y
  · intro h
    by_cases hlt : x < y
    · exact .inl hlt
    · exact .inr (leA h (ltI.1 hlt))
theorem aKh {e : El} {s : ByteArray} (h : e = [.str s]) : key e = s.toList ∧ bC e 0 = s := by subst h; exact ⟨rfl, rfl⟩
theorem aAw {n : Nat} (h : n ≤ 4194304) : (decide ((n + 1) * 16 ≤ aH) && true) = true ∧ decide ((n + 1) * 16 ≤ aH) = true := by
  have hb : aH = 140737488355328 := rfl
  have : (n + 1) * 16 ≤ aH := by omega
  simp [this]
theorem aKV {a b : List El} (ha : a.length ≤ 1048576) (hb : b.length ≤ 1048576) (qa : ∀ e ∈ a, dP e) (qb : ∀ e ∈ b, dP e) : ∀ (n i k : Nat) (out : List El), n = (a.length - i) + (b.length - k) → i ≤ a.length → k ≤ b.length → out.length ≤ i + k → (∀ e ∈ out, dP e) →
    bD Dn (jF a b out i k) = some (.own (some T.aWl) (fin (a.drop i) (b.drop k) out), []) := by
  have hml : (1048576 : Nat) ≤ maxLen := by decide
  intro n
  induction n with
  | zero =>
    intro i k out hn hi hk ho qo
    have h1 : ¬ i < a.length := by omega
    have h2 : ¬ k < b.length := by omega
    rw [xO]
    simp -implicitDefEqProofs only [Int.ofNat_lt, h1, h2, decide_false, mU, aG, beq_self_eq_true, aF]
    rw [List.drop_of_length_le (by omega), List.drop_of_length_le (by omega)]
    unfold fin; rfl
  | succ n ih =>
    intro i k out hn hi hk ho qo
    have hro : out.length ≤ 4194304 := by omega
    have st4 : ∀ (i' k' : Int) (s : ByteArray), bD Dn (nJ a b out i' k' s) = bD Dn (jF a b (tV out [.str s]) i' k') := fun i' k' s => by
      rw [aE3]
      by_cases h0 : out = []
      · subst h0
        simp -implicitDefEqProofs only [List.length_nil, Int.natCast_zero, Int.ofNat_zero, beq_self_eq_true, show ((true : Bool) == false) = false from rfl, aG, xC, aF, (aAw (n := 0) (by omega)).1, Nat.zero_add, aD]
        simp [tV]
      · have hp : 0 < out.length := List.length_pos_iff.2 h0
        have hz : (((out.length : Nat) : Int) == 0) = false := by simp; omega
        have hw : IntKind.i64.wrap ((out.length : Int) - 1) = ((out.length - 1 : Nat) : Int) := wG (show out.length ≤ maxLen from Nat.le_trans hro (by decide)) (show 1 ≤ out.length by omega)
        have hlt : out.length - 1 < out.length := by omega
        obtain ⟨u, hu, _⟩ := qo _ (List.getElem_mem hlt)
        have hlast : out.getLast? = some [.str u] := by rw [List.getLast?_eq_getElem?, List.getElem?_eq_getElem hlt, hu]
        rw [hz, hw]
        simp -implicitDefEqProofs only [beq_self_eq_true, aF, Int.natCast_nonneg, decide_true, Int.ofNat_lt, hlt, Bool.and_true, Bool.true_and, Int.toNat_natCast, aR (fun e he => (qo e he).len), aD, bI hlt, hu, bL, aY, xC, (aAw hro).1, (aAw hro).2]
        unfold tV
        rw [hlast]
        simp only [Option.map_some, Option.some.injEq, (aKh (s := u) rfl).1, (aKh (s := s) rfl).1]
        by_cases hus : u.toList = s.toList
        · simp [hus]
        · have hub : (u.toList == s.toList) = false := by simpa using hus
          rw [hub, if_neg hus, Bool.not_false, aF]
    have qo' : ∀ e, dP e → ∀ x ∈ tV out e, dP x := fun e he x hx => by
      rcases jP hx with h | rfl
      · exact qo x h
      · exact he
    have hA : ∀ h : i < a.length, bD Dn (jI a b out i k true) = some (.own (some T.aWl) (fin (a.drop (i + 1)) (b.drop k) (tV out a[i])), []) := fun h => by
      obtain ⟨s, hs, hsl⟩ := qa _ (List.getElem_mem h)
      rw [xI]
      simp -implicitDefEqProofs only [aF, Int.natCast_nonneg, decide_true, Int.ofNat_lt, h, Bool.and_true, Bool.true_and, Int.toNat_natCast, aR (fun e he => (qa e he).len), aD, bI h, hs, bL, aY, st4, bB (Nat.lt_of_lt_of_le h (Nat.le_trans ha hml))]
      exact ih (i + 1) k _ (by omega) (by omega) hk (by have := aBe out [.str s]; omega) (qo' _ ⟨s, rfl, hsl⟩)
    have hB : ∀ h : k < b.length, bD Dn (jI a b out i k false) = some (.own (some T.aWl) (fin (a.drop i) (b.drop (k + 1)) (tV out b[k])), []) := fun h => by
      obtain ⟨s, hs, hsl⟩ := qb _ (List.getElem_mem h)
      rw [xI]
      simp -implicitDefEqProofs only [aG, Int.natCast_nonneg, decide_true, Int.ofNat_lt, h, Bool.and_true, Bool.true_and, Int.toNat_natCast, aR (fun e he => (qb e he).len), aD, bI h, hs, bL, aY, st4, bB (Nat.lt_of_lt_of_le h (Nat.le_trans hb hml))]
      exact ih i (k + 1) _ (by omega) hi (by omega) (by have := aBe out [.str s]; omega) (qo' _ ⟨s, rfl, hsl⟩)
    rw [xO]
    by_cases h1 : i < a.length
    · by_cases h2 : k < b.length
      · have hge : ¬ ((k : Int) ≥ (b.length : Int)) := by omega
        obtain ⟨s, hs, _⟩ := qa _ (List.getElem_mem h1)
        obtain ⟨u, hu, _⟩ := qb _ (List.getElem_mem h2)
        simp -implicitDefEqProofs only [Int.ofNat_lt, h1, h2, decide_true, show ((true : Bool) == false) = false from rfl, aG, mU, aF, hge, decide_false, beq_self_eq_true, Int.natCast_nonneg, Bool.and_true, Bool.true_and, Int.toNat_natCast, aR (fun e he => (qa e he).len), aR (fun e he => (qb e he).len), aD, bI h1, bI h2, hs, hu, bL, aY, aTK]
        rw [cY h1, cY h2]
        unfold fin
        rw [hs, hu, (aKh (s := s) rfl).1, (aKh (s := u) rfl).1]
        by_cases hc : s.toList ≤ u.toList
        · rw [if_pos hc, decide_eq_true hc, hA h1, cY h2, hs, hu]
        · rw [if_neg hc, decide_eq_false hc, hB h2, cY h1, hs, hu]
      · have hge : ((k : Int) ≥ (b.length : Int)) := by omega
        simp -implicitDefEqProofs only [Int.ofNat_lt, h1, h2, decide_true, decide_false, show ((true : Bool) == false) = false from rfl, aG, mU, aF, hge]
        rw [hA h1, cY h1, List.drop_of_length_le (show b.length ≤ k by omega)]
        conv => rhs; unfold fin
    · have h2 : k < b.length := by omega
      have hge : ¬ ((k : Int) ≥ (b.length : Int)) := by omega
      simp -implicitDefEqProofs only [Int.ofNat_lt, h1, h2, decide_true, decide_false, beq_self_eq_true, aF, mU, hge, show ((false : Bool) == true) = false from rfl, aG]
      rw [hB h2, cY h2, List.drop_of_length_le (show a.length ≤ i by omega)]
      conv => rhs; unfold fin
theorem aMt : ∀ (n : Nat) (es : List El), es.length = n → es.length ≤ 1048576 → (∀ e ∈ es, dP e) → ∃ r, Dn F.aUO [vsl es] [] = some (.own (some T.aWl) r, []) ∧ aEB es r := by
  intro n
  induction n using Nat.strongRecOn with
  | ind n ih =>
    intro es hn hl q
    have hml : (1048576 : Nat) ≤ maxLen := by decide
    have hsz := aR (fun e he => (q e he).len)
    by_cases h2 : es.length < 2
    · have h2' : ((es.length : Nat) : Int) < 2 := by omega
      refine ⟨es, ?_, ⟨?_, fun s => Iff.rfl, Nat.le_refl _, fun e he => he⟩⟩
      · refine bH ?_
        rw [oI]
        have hb : aH = 140737488355328 := rfl
        have : decide ((0 + es.length) * 16 ≤ aH) = true := decide_eq_true (by omega)
        simp only [h2', decide_true, aF, this, hsz, Bool.and_self, aD, List.nil_append]
      · unfold rZ
        match es, h2 with
        | [], _ => exact List.Pairwise.nil
        | [x], _ => simp
    · have h2' : ¬ ((es.length : Nat) : Int) < 2 := by omega
      have hd : IntKind.i64.wrap ((es.length : Int).tdiv 2) = ((es.length / 2 : Nat) : Int) := by
        have hm : maxLen = 9223372036854775807 := rfl
        rw [Int.tdiv_eq_ediv_of_nonneg (by omega), nZ (by omega) (by omega)]; omega
      have hle : es.length / 2 ≤ es.length := Nat.div_le_self _ _
      obtain ⟨r1, k1, o1⟩ := ih (es.take (es.length / 2)).length (by rw [List.length_take]; omega) (es.take (es.length / 2)) rfl (by rw [List.length_take]; omega) (fun e he => q e (List.mem_of_mem_take he))
      obtain ⟨r2, k2, o2⟩ := ih (es.drop (es.length / 2)).length (by rw [List.length_drop]; omega) (es.drop (es.length / 2)) rfl (by rw [List.length_drop]; omega) (fun e he => q e (List.mem_of_mem_drop he))
      have l1 : r1.length ≤ 1048576 := by have := o1.len; rw [List.length_take] at this; omega
      have l2 : r2.length ≤ 1048576 := by have := o2.len; rw [List.length_drop] at this; omega
      have m := aKV l1 l2 (fun e he => q e (List.mem_of_mem_take (o1.sub e he))) (fun e he => q e (List.mem_of_mem_drop (o2.sub e he))) _ 0 0 [] rfl (Nat.zero_le _) (Nat.zero_le _) (by simp) (by simp)
      have j := aMo _ r1 r2 [] rfl o1.up o2.up List.Pairwise.nil (by simp) (by simp)
      simp only [List.drop_zero] at m
      refine ⟨fin r1 r2 [], ?_, ⟨j.up, fun s => ?_, ?_, fun e he => ?_⟩⟩
      · refine bH ?_
        rw [oI]
        simp -implicitDefEqProofs only [h2', decide_false, aG, hd, Int.natCast_nonneg, decide_true, Int.toNat_natCast, Option.getD_some, Option.getD_none, hle, Nat.le_refl, hsz, Bool.and_self, Bool.true_and, Bool.and_true, aD, List.drop_zero, k1, Option.bind_some, dQ, List.take_length]
        rw [show Dn F.aUO [SV.leaf (aA.sl (Fl.later PUnit.unit (some (es.length / 2))) (es.drop (es.length / 2)))] [] = _ from k2]
        simp only [Option.bind_some, dQ]
        exact m
      · rw [j.mem]
        simp only [List.not_mem_nil, false_and, exists_false, false_or]
        rw [o1.mem, o2.mem]
        constructor
        · rintro (⟨e, he, hs⟩ | ⟨e, he, hs⟩)
          · exact ⟨e, List.mem_of_mem_take he, hs⟩
          · exact ⟨e, List.mem_of_mem_drop he, hs⟩
        · rintro ⟨e, he, hs⟩
          rw [← List.take_append_drop (es.length / 2) es] at he
          rcases List.mem_append.1 he with he | he
          · exact .inl ⟨e, he, hs⟩
          · exact .inr ⟨e, he, hs⟩
      · have := j.len; have := o1.len; have := o2.len
        rw [List.length_take] at *; rw [List.length_drop] at *
        simp at *; omega
      · rcases j.sub e he with h | h | h
        · simp at h
        · exact List.mem_of_mem_take (o1.sub e h)
        · exact List.mem_of_mem_drop (o2.sub e h)
end Go.Vs.Old
end
section
open Go Go.Vs Go.Proofs
set_option linter.unusedVariables false
set_option linter.unusedSimpArgs false
namespace Go.Vs.Old
def eH (l : List El) (s : ByteArray) : Bool := l.any fun e => (bC e 0).toList == s.toList
def nA (o : ByteArray) (a b : List El) (gone fresh : Int) : List El :=
  (a.flatMap fun x => if eH b (bC x 0) = true then [] else [chg gone o (bC x 0)]) ++ b.flatMap fun y => if eH a (bC y 0) = true then [] else [chg fresh o (bC y 0)]
theorem aEp {l : List El} {s : ByteArray} : eH l s = true ↔ ∃ e ∈ l, key e = s.toList := by
  unfold eH key
  rw [List.any_eq_true]
  simp only [beq_iff_eq]
theorem aQH {l : List El} {s : ByteArray} (hl : l.length ≤ 1048576) (q : ∀ e ∈ l, dP e) (hr : rZ l) : ∀ (n lo hi : Nat), n = hi - lo → lo ≤ hi → hi ≤ l.length →
    (∀ (j : Nat) (h : j < l.length), j < lo → key l[j] < s.toList) → (∀ (j : Nat) (h : j < l.length), hi ≤ j → s.toList ≤ key l[j]) →
    kJ Dn (qD l s lo hi) = some (aP (eH l s), []) := by
  have hm : maxLen = 9223372036854775807 := rfl
  intro n
  induction n using Nat.strongRecOn with
  | ind n ih =>
    intro lo hi hn hlh hhl h1 h2
    rw [aJZ]
    by_cases hc : lo < hi
    · have hmid : IntKind.i64.wrap ((IntKind.i64.wrap ((lo : Int) + (hi : Int))).tdiv 2) = (((lo + hi) / 2 : Nat) : Int) := by
        rw [nZ (z := (lo : Int) + hi) (by omega) (by omega), Int.tdiv_eq_ediv_of_nonneg (by omega), nZ (by omega) (by omega)]; omega
      have hmlt : (lo + hi) / 2 < l.length := by omega
      obtain ⟨u, hu, _⟩ := q _ (List.getElem_mem hmlt)
      have hk : key l[(lo + hi) / 2] = u.toList := by rw [hu]; rfl
      have hup : IntKind.i64.wrap ((((lo + hi) / 2 : Nat) : Int) + 1) = (((lo + hi) / 2 + 1 : Nat) : Int) := bB (by omega)
      have hc' : ((lo : Int) < (hi : Int)) := by omega
      simp -implicitDefEqProofs only [hc', decide_true, aF, hmid, hup, Int.natCast_nonneg, Int.ofNat_lt, hmlt, Bool.and_true, Bool.and_self, Int.toNat_natCast, aR (fun e he => (q e he).len), aD, bI hmlt, hu, bL, aY, bl]
      rw [bZ]
      simp -implicitDefEqProofs only [decide_eq_true_eq]
      by_cases hb : u.toList < s.toList
      · rw [if_pos hb]
        have g := ih (hi - ((lo + hi) / 2 + 1)) (by omega) ((lo + hi) / 2 + 1) hi rfl (by omega) hhl (fun j hj hjl => ?_) h2
        · exact g
        have hle : j ≤ (lo + hi) / 2 := by omega
        have := aML hr hle hmlt
        rw [hk] at this
        exact List.lt_of_le_of_lt this hb
      · rw [if_neg hb]
        have g := ih ((lo + hi) / 2 - lo) (by omega) lo ((lo + hi) / 2) rfl (by omega) (by omega) h1 (fun j hj hjl => ?_)
        · exact g
        have := aML hr hjl hj
        rw [hk] at this
        exact leT (ltI.1 hb) this
    · have he : lo = hi := by omega
      subst he
      have hv := aS2 hr h1 h2
      rw [← aEp] at hv
      have hc' : ¬ ((lo : Int) < (lo : Int)) := by omega
      by_cases hlt : lo < l.length
      · obtain ⟨u, hu, _⟩ := q _ (List.getElem_mem hlt)
        have hk : key l[lo] = u.toList := by rw [hu]; rfl
        simp -implicitDefEqProofs only [hc', decide_false, aG, Int.ofNat_lt, hlt, decide_true, beq_self_eq_true, aF, Int.natCast_nonneg, Bool.and_true, Bool.and_self, Int.toNat_natCast, aR (fun e he => (q e he).len), aD, bI hlt, hu, bL, aY]
        have : (u.toList == s.toList) = eH l s := by
          rw [Bool.eq_iff_iff, hv, beq_iff_eq]
          constructor
          · intro h; exact ⟨hlt, by rw [hk]; exact h⟩
          · rintro ⟨_, h⟩; rw [hk] at h; exact h
        rw [this]
      · have : eH l s = false := by
          rw [Bool.eq_false_iff]
          intro h
          obtain ⟨h, _⟩ := hv.1 h
          exact hlt h
        simp -implicitDefEqProofs only [hc', decide_false, aG, Int.ofNat_lt, hlt, show ((false : Bool) == true) = false from rfl, this]
theorem aHO {l : List El} {s : ByteArray} (hl : l.length ≤ 1048576) (q : ∀ e ∈ l, dP e) (hr : rZ l) : Dn F.aV1 [vsl l, .leaf (.str s)] [] = some (aP (eH l s), []) := by
  refine bH ?_
  rw [aKt]
  exact aQH hl q hr l.length 0 l.length rfl (Nat.zero_le _) (Nat.le_refl _) (fun j h hj => by omega) (fun j h hj => by omega)
section
variable {o : ByteArray} {a b ra rb : List El} {gone fresh : Int}
theorem aJe {r : List El} (h : aEB a r) (s : ByteArray) : eH r s = eH a s := by
  rw [Bool.eq_iff_iff, aEp, aEp]; exact h.mem _
theorem aM0 (ha : a.length ≤ 1048576) (hb : b.length ≤ 1048576) (qa : ∀ e ∈ a, dP e) (qb : ∀ e ∈ b, dP e) (ob : aEB b rb) : ∀ i : Nat, i ≤ a.length → ∀ out : List El, out.length ≤ i →
    bP Dn (lC o a b gone fresh out ra rb i) = bP Dn (jB o b fresh (out ++ (a.drop i).flatMap fun x => if eH b (bC x 0) = true then [] else [chg gone o (bC x 0)]) ra 0) := by
  have hml : (1048576 : Nat) ≤ maxLen := by decide
  refine bY ?_ ?_
  · intro out ho; rw [uD]; simp
  · intro i hi ih out ho
    have hro : out.length ≤ 4194304 := by omega
    obtain ⟨u, hu, _⟩ := qa _ (List.getElem_mem hi)
    have hin := aHO (s := u) (Nat.le_trans ob.len hb) (fun e he => qb e (ob.sub e he)) ob.up
    rw [uD]
    simp -implicitDefEqProofs only [Int.ofNat_lt, hi, decide_true, aF, Int.natCast_nonneg, Bool.and_true, Bool.and_self, Int.toNat_natCast, aD, aR (fun e he => (qa e he).len), bI hi, hu, bL, aY, hin, aJe ob, Option.bind_some, aV, bQ, aNL hro, aOc hro, aCv, bB (Nat.lt_of_lt_of_le hi (Nat.le_trans ha hml))]
    rw [bZ]
    rw [cY hi, List.flatMap_cons, hu, show bC [aA.str u] 0 = u from rfl]
    cases eH b u
    · simp -implicitDefEqProofs only [Bool.not_false, if_true, Bool.false_eq_true, if_false]
      rw [ih _ (by rw [List.length_append]; simp; omega), List.append_assoc]; rfl
    · simp -implicitDefEqProofs only [Bool.not_true, if_true, Bool.false_eq_true, if_false, List.nil_append]
      exact ih _ (by omega)
theorem aM5 (ha : a.length ≤ 1048576) (hb : b.length ≤ 1048576) (qa : ∀ e ∈ a, dP e) (qb : ∀ e ∈ b, dP e) (oa : aEB a ra) : ∀ i : Nat, i ≤ b.length → ∀ out : List El, out.length ≤ 1048576 + i →
    bP Dn (jB o b fresh out ra i) = some (.own (some T.aVQ) (out ++ (b.drop i).flatMap fun y => if eH a (bC y 0) = true then [] else [chg fresh o (bC y 0)]), []) := by
  have hml : (1048576 : Nat) ≤ maxLen := by decide
  refine bY ?_ ?_
  · intro out ho; rw [uH]; simp
  · intro i hi ih out ho
    have hro : out.length ≤ 4194304 := by omega
    obtain ⟨u, hu, _⟩ := qb _ (List.getElem_mem hi)
    have hin := aHO (s := u) (Nat.le_trans oa.len ha) (fun e he => qa e (oa.sub e he)) oa.up
    rw [uH]
    simp -implicitDefEqProofs only [Int.ofNat_lt, hi, decide_true, aF, Int.natCast_nonneg, Bool.and_true, Bool.and_self, Int.toNat_natCast, aD, aR (fun e he => (qb e he).len), bI hi, hu, bL, aY, hin, aJe oa, Option.bind_some, aV, bQ, aNL hro, aOc hro, aCB, bB (Nat.lt_of_lt_of_le hi (Nat.le_trans hb hml))]
    rw [bZ]
    rw [cY hi, List.flatMap_cons, hu, show bC [aA.str u] 0 = u from rfl]
    cases eH a u
    · simp -implicitDefEqProofs only [Bool.not_false, if_true, Bool.false_eq_true, if_false]
      rw [ih _ (by rw [List.length_append]; simp; omega), List.append_assoc]; rfl
    · simp -implicitDefEqProofs only [Bool.not_true, if_true, Bool.false_eq_true, if_false, List.nil_append]
      exact ih _ (by omega)
theorem oA (ha : a.length ≤ 1048576) (hb : b.length ≤ 1048576) (qa : ∀ e ∈ a, dP e) (qb : ∀ e ∈ b, dP e) : Dn F.aUj [.leaf (.str o), vsl a, vsl b, aJ gone, aJ fresh] [] = some (.own (some T.aVQ) (nA o a b gone fresh), []) := by
  obtain ⟨ra, ka, oa⟩ := aMt _ a rfl ha qa
  obtain ⟨rb, kb, ob⟩ := aMt _ b rfl hb qb
  have h1 := aM0 (o := o) (ra := ra) (gone := gone) (fresh := fresh) ha hb qa qb ob 0 (Nat.zero_le _) [] (by simp)
  have hl : (a.flatMap fun x => if eH b (bC x 0) = true then [] else [chg gone o (bC x 0)]).length ≤ 1 * a.length := flatMap_len (fun x => by split <;> simp) a
  have h2 := aM5 (o := o) (fresh := fresh) ha hb qa qb oa 0 (Nat.zero_le _) (a.flatMap fun x => if eH b (bC x 0) = true then [] else [chg gone o (bC x 0)]) (by omega)
  simp only [List.drop_zero, List.nil_append] at h1 h2
  refine bH ?_
  rw [aC1]
  simp -implicitDefEqProofs only [ka, kb, Option.bind_some, dQ]
  exact h1.trans h2
end
end Go.Vs.Old
end
section
open Go Go.Vs Go.Proofs
set_option linter.unusedVariables false
set_option linter.unusedSimpArgs false
namespace Go.Vs.Old
def slAt (e : El) (p : Nat) : List El := match e[p]? with | some (.sl _ es) => es | _ => []
def intAt (e : El) (p : Nat) : Int := match e[p]? with | some (.int _ n) => n | _ => 0
abbrev dot : ByteArray := ByteArray.mk #[46]
abbrev nul : ByteArray := ByteArray.mk #[]
def aOT (nm : ByteArray) (x y : El) : List El := if (!(bC x 3 == bC y 3 && bC x 4 == bC y 4)) = true then [chg 5 nm (bC x 0)] else []
noncomputable def fldA (nm : ByteArray) (b : List El) (x : El) : List El :=
  if dL (bC x 0) 0 b < 0 then [chg 4 nm (bC x 0)] else
    aOT nm x (b.getD (dL (bC x 0) 0 b).toNat []) ++ zM (nm ++ dot ++ bC x 0) (slAt x 2) (slAt (b.getD (dL (bC x 0) 0 b).toNat []) 2)
def fldB (nm : ByteArray) (a : List El) (y : El) : List El := if dL (bC y 0) 0 a < 0 then [chg 18 nm (bC y 0)] else []
noncomputable def fldCh (nm : ByteArray) (a b : List El) : List El := a.flatMap (fldA nm b) ++ b.flatMap (fldB nm a)
def vals (l : List El) : List El := l.map fun e => [.str (bC e 0)]
structure FOk (e : El) : Prop where
  is : cE e
  nm : (bC e 0).size ≤ 1048576
  args : (slAt e 2).length ≤ 1048576
theorem aBj {n k : Nat} (h : n + k ≤ 3400000000000) : decide ((n + k) * 40 ≤ aH) = true := by
  have hb : aH = 140737488355328 := rfl
  rw [decide_eq_true_eq]; omega
theorem inCh_len (o : ByteArray) (a b : List El) : (zM o a b).length ≤ 2 * a.length + b.length := by
  unfold zM
  have h1 := flatMap_len (fun x => aDE o b x) a
  have h2 := flatMap_len (fun x => aLA o a x) b
  rw [List.length_append]; omega
theorem tyCh_len (nm : ByteArray) (x y : El) : (aOT nm x y).length ≤ 1 := by unfold aOT; split <;> simp
theorem idx_get {s : ByteArray} {b : List El} (h : ¬ dL s 0 b < 0) : ∃ j : Nat, dL s 0 b = (j : Int) ∧ j < b.length := by
  rcases aHk s b 0 (by omega) with h1 | ⟨h1, h2⟩
  · omega
  · exact ⟨(dL s 0 b).toNat, by omega, by omega⟩
theorem aC5 {nm : ByteArray} {b : List El} {x : El} (hx : FOk x) (hb : ∀ e ∈ b, FOk e) : (fldA nm b x).length ≤ 3145729 := by
  unfold fldA
  split
  · simp
  · rename_i h
    obtain ⟨j, hj, hjb⟩ := idx_get h
    rw [hj, Int.toNat_natCast, bI hjb, List.length_append]
    have h1 := tyCh_len nm x b[j]
    have h2 := inCh_len (nm ++ dot ++ bC x 0) (slAt x 2) (slAt b[j] 2)
    have h3 := hx.args
    have h4 := (hb _ (List.getElem_mem hjb)).args
    omega
theorem fldB_len (nm : ByteArray) (a : List El) (y : El) : (fldB nm a y).length ≤ 1 := by unfold fldB; split <;> simp
theorem flatMap_lenM {α β : Type} {f : α → List β} {k : Nat} : ∀ {l : List α}, (∀ x ∈ l, (f x).length ≤ k) → (l.flatMap f).length ≤ k * l.length
  | [], _ => by simp
  | x :: l, h => by
    have h1 := h x (by simp)
    have h2 := flatMap_lenM (l := l) fun y hy => h y (by simp [hy])
    rw [List.flatMap_cons, List.length_append, List.length_cons, Nat.mul_add]; omega
theorem nameCh_len (o : ByteArray) (a b : List El) (g f : Int) : (nA o a b g f).length ≤ a.length + b.length := by
  unfold nA
  have h1 : (a.flatMap fun x => if eH b (bC x 0) = true then [] else [chg g o (bC x 0)]).length ≤ 1 * a.length := flatMap_len (fun x => by split <;> simp) a
  have h2 : (b.flatMap fun y => if eH a (bC y 0) = true then [] else [chg f o (bC y 0)]).length ≤ 1 * b.length := flatMap_len (fun x => by split <;> simp) b
  rw [List.length_append]; omega
theorem aMy {nm : ByteArray} {a b : List El} (ha : a.length ≤ 1048576) (hb : b.length ≤ 1048576) (qa : ∀ e ∈ a, FOk e) (qb : ∀ e ∈ b, FOk e) : (fldCh nm a b).length ≤ 3298536980480 := by
  unfold fldCh
  have h1 := flatMap_lenM (f := fldA nm b) (l := a) fun x hx => aC5 (nm := nm) (qa x hx) qb
  have h2 := flatMap_len (f := fldB nm a) (fun x => fldB_len nm a x) b
  rw [List.length_append]; omega
theorem pT {o : ByteArray} {a b : List El} {g f : Int} : ∀ e ∈ nA o a b g f, dG e := by
  intro e he
  have h1 : ∀ {q : Bool} {c : Int} {p : ByteArray}, e ∈ (if q = true then [] else [chg c o p]) → dG e := fun {q c p} h => by
    split at h
    · simp at h
    · rw [List.mem_singleton.1 h]; exact .mk _ _ _
  rcases List.mem_append.1 he with he | he
  · obtain ⟨x, _, hx⟩ := List.mem_flatMap.1 he; exact h1 hx
  · obtain ⟨x, _, hx⟩ := List.mem_flatMap.1 he; exact h1 hx
theorem aIF {nm : ByteArray} {a b : List El} : ∀ e ∈ fldCh nm a b, dG e := by
  intro e he
  rcases List.mem_append.1 he with he | he
  · obtain ⟨x, _, hx⟩ := List.mem_flatMap.1 he
    unfold fldA at hx
    split at hx
    · rw [List.mem_singleton.1 hx]; exact .mk _ _ _
    · rcases List.mem_append.1 hx with hx | hx
      · unfold aOT at hx
        split at hx
        · rw [List.mem_singleton.1 hx]; exact .mk _ _ _
        · simp at hx
      · exact xW _ hx
  · obtain ⟨x, _, hx⟩ := List.mem_flatMap.1 he
    unfold fldB at hx
    split at hx
    · rw [List.mem_singleton.1 hx]; exact .mk _ _ _
    · simp at hx
theorem aGA {es : List El} {s : ByteArray} (hl : es.length ≤ maxLen) (hq : ∀ e ∈ es, cE e) : ∀ i : Nat, i ≤ es.length →
    iX Dn (oJ es s i) = some (aJ (dL s i (es.drop i)), []) := by
  refine bY ?_ ?_
  · rw [yM]; simp [dL]
  · intro i hi ih
    obtain ⟨s0, s1, e2, s3, s4, e5, he, h0⟩ := (hq _ (List.getElem_mem hi)).ex
    rw [yM, cY hi]
    simp only [Int.ofNat_lt, hi, decide_true, aF, Int.natCast_nonneg, Bool.and_true, Int.toNat_natCast, aD, bB (Nat.lt_of_lt_of_le hi hl), aR (fun e he => (hq e he).len), bI hi]
    rw [he]
    simp only [bL, aY, bZ, dL, bC, List.getElem?_cons_zero, ih]
    by_cases hx : (s0.toList == s.toList) = true <;> simp [hx]
theorem aCh {es : List El} {s : ByteArray} (hl : es.length ≤ maxLen) (hq : ∀ e ∈ es, cE e) : Dn F.aU8 [vsl es, .leaf (.str s)] [] = some (aJ (dL s 0 es), []) := by
  refine bH ?_
  rw [aHq]
  exact aGA hl hq 0 (Nat.zero_le _)
section
variable {i0 j0 : Int} {b1 b9 c1 c9 : Bool} {s2 nm t2 t3 : ByteArray} {e4 a e6 e7 e8 e10 f4 b f6 f7 f8 f10 : List El}
theorem aLQ (hn : nm.size ≤ 1048576) (ha : a.length ≤ 1048576) (hb : b.length ≤ 1048576) (qa : ∀ e ∈ a, FOk e) (qb : ∀ e ∈ b, FOk e) : ∀ i : Nat, i ≤ a.length → ∀ out : List El, out.length ≤ i * 3145729 →
    bE Dn (mZ out i i0 b1 s2 nm e4 a e6 e7 e8 b9 e10 j0 c1 t2 t3 f4 b f6 f7 f8 c9 f10) =
      bE Dn (gV (out ++ (a.drop i).flatMap (fldA nm b)) 0 i0 b1 s2 nm e4 a e6 e7 e8 b9 e10 j0 c1 t2 t3 f4 b f6 f7 f8 c9 f10) := by
  have hml : (1048576 : Nat) ≤ maxLen := by decide
  have hla : a.length ≤ maxLen := Nat.le_trans ha hml
  have hlb : b.length ≤ maxLen := Nat.le_trans hb hml
  refine bY ?_ ?_
  · intro out ho; rw [xU]; simp
  · intro i hi ih out ho
    have hro : out.length + 3145729 ≤ 3400000000000 := by omega
    have hxi := qa _ (List.getElem_mem hi)
    have hlen := aC5 (nm := nm) hxi qb
    obtain ⟨x0, x1, x2, x3, x4, x5, he, h0, h1, h2, q2, h3, h4, h5, q5⟩ := hxi.is.ex
    have next : ∀ out' : List El, out' = out ++ fldA nm b a[i] → bE Dn (nF out' i i0 b1 s2 nm e4 a e6 e7 e8 b9 e10 j0 c1 t2 t3 f4 b f6 f7 f8 c9 f10) = bE Dn (gV (out ++ (a.drop i).flatMap (fldA nm b)) 0 i0 b1 s2 nm e4 a e6 e7 e8 b9 e10 j0 c1 t2 t3 f4 b f6 f7 f8 c9 f10) := fun out' ho' => by
      subst ho'
      rw [aFt, bB (Nat.lt_of_lt_of_le hi hla), ih _ (by rw [List.length_append]; omega), cY hi, List.flatMap_cons, List.append_assoc]
    have hin := aCh (s := x0) hlb (fun e he => (qb e he).is)
    have hx0 : x0.size ≤ 1048576 := by have := hxi.nm; rw [he] at this; exact this
    have hx2 : x2.length ≤ 1048576 := by have := hxi.args; rw [he] at this; exact this
    rw [xU]
    simp -implicitDefEqProofs only [Int.ofNat_lt, hi, decide_true, aF, Int.natCast_nonneg, Bool.and_true, Int.toNat_natCast, aD, aR (fun e he => (qa e he).is.len), bI hi]
    rw [he]
    simp -implicitDefEqProofs only [dI, bL, cF, aY, dK, hin, Option.bind_some, aV, cA]
    by_cases hk : dL x0 0 b < 0
    · simp -implicitDefEqProofs only [hk, decide_true, aF, aBj (show out.length + 1 ≤ 3400000000000 by omega), Bool.and_true, aD]
      exact next _ (by rw [he]; simp -implicitDefEqProofs only [fldA, bC, List.getElem?_cons_zero, hk, if_true, chg])
    · obtain ⟨j, hj, hjb⟩ := idx_get hk
      have hyj := qb _ (List.getElem_mem hjb)
      obtain ⟨y0, y1, y2, y3, y4, y5, hf, g0, g1, g2, r2, g3, g4, g5, r5⟩ := hyj.is.ex
      have hy2 : y2.length ≤ 1048576 := by have := hyj.args; rw [hf] at this; exact this
      have hjn : ¬ ((j : Int) < 0) := by omega
      have pa : fldA nm b a[i] = aOT nm [.str x0, .str x1, .sl fP x2, .str x3, .str x4, .sl fP x5] [.str y0, .str y1, .sl fP y2, .str y3, .str y4, .sl fP y5] ++ zM (nm ++ dot ++ x0) x2 y2 := by
        rw [he]
        simp -implicitDefEqProofs only [fldA, bC, slAt, List.getElem?_cons_zero, List.getElem?_cons_succ, hj, hjn, if_false, Int.toNat_natCast, bI hjb, hf]
      have tail : ∀ out' : List El, out' = out ++ aOT nm [.str x0, .str x1, .sl fP x2, .str x3, .str x4, .sl fP x5] [.str y0, .str y1, .sl fP y2, .str y3, .str y4, .sl fP y5] →
          bE Dn (nD out' i j i0 b1 s2 nm e4 a e6 e7 e8 b9 e10 j0 c1 t2 t3 f4 b f6 f7 f8 c9 f10 x0 x1 x2 x3 x4 x5) = bE Dn (gV (out ++ (a.drop i).flatMap (fldA nm b)) 0 i0 b1 s2 nm e4 a e6 e7 e8 b9 e10 j0 c1 t2 t3 f4 b f6 f7 f8 c9 f10) := fun out' ho' => by
        have hch := uR (o := nm ++ dot ++ x0) hx2 hy2 q2 r2
        have hcl := inCh_len (nm ++ dot ++ x0) x2 y2
        have htl := tyCh_len nm [.str x0, .str x1, .sl fP x2, .str x3, .str x4, .sl fP x5] [.str y0, .str y1, .sl fP y2, .str y3, .str y4, .sl fP y5]
        have hol : out'.length + (zM (nm ++ dot ++ x0) x2 y2).length ≤ 3400000000000 := by rw [ho', List.length_append]; omega
        have z1 : decide (nm.size + (ByteArray.mk #[46]).size ≤ 140737488355328) = true := decide_eq_true (by show nm.size + 1 ≤ _; omega)
        have z2 : decide ((nm ++ ByteArray.mk #[46]).size + x0.size ≤ 140737488355328) = true := decide_eq_true (by rw [ByteArray.size_append]; show nm.size + 1 + _ ≤ _; omega)
        rw [aFi]
        simp -implicitDefEqProofs only [z1, z2, aD, Int.ofNat_lt, hjb, decide_true, Int.natCast_nonneg, Bool.and_true, Int.toNat_natCast, aR (fun e he => (qb e he).is.len), bI hjb]
        rw [hf]
        simp -implicitDefEqProofs only [bL, cF, dK, hch, Option.bind_some, dQ, aBj hol, aR (fun e he => (xW (o := nm ++ dot ++ x0) (a := x2) (b := y2) e he).len), Bool.and_self, aD]
        exact next _ (by rw [pa, ho', List.append_assoc])
      rw [hj]
      simp -implicitDefEqProofs only [hjn, decide_false, aG, Int.ofNat_lt, hjb, decide_true, Int.natCast_nonneg, Bool.and_true, Int.toNat_natCast, aD, aR (fun e he => (qb e he).is.len), bI hjb]
      rw [hf]
      simp -implicitDefEqProofs only [dI, bL, cF, aY, aBj (show out.length + 1 ≤ 3400000000000 by omega), aD]
      rw [bZ]
      by_cases hne : (!(x3 == y3 && x4 == y4)) = true
      · rw [if_pos hne]
        have e1 : aOT nm [.str x0, .str x1, .sl fP x2, .str x3, .str x4, .sl fP x5] [.str y0, .str y1, .sl fP y2, .str y3, .str y4, .sl fP y5] = [chg 5 nm x0] := if_pos hne
        exact tail _ (by rw [e1]; rfl)
      · rw [if_neg hne]
        have e1 : aOT nm [.str x0, .str x1, .sl fP x2, .str x3, .str x4, .sl fP x5] [.str y0, .str y1, .sl fP y2, .str y3, .str y4, .sl fP y5] = [] := if_neg hne
        exact tail _ (by rw [e1, List.append_nil])
theorem aLP (ha : a.length ≤ 1048576) (hb : b.length ≤ 1048576) (qa : ∀ e ∈ a, FOk e) (qb : ∀ e ∈ b, FOk e) : ∀ i : Nat, i ≤ b.length → ∀ out : List El, out.length ≤ 3298535931904 + i →
    bE Dn (gV out i i0 b1 s2 nm e4 a e6 e7 e8 b9 e10 j0 c1 t2 t3 f4 b f6 f7 f8 c9 f10) = some (.own (some T.aVQ) (out ++ (b.drop i).flatMap (fldB nm a)), []) := by
  have hml : (1048576 : Nat) ≤ maxLen := by decide
  have hla : a.length ≤ maxLen := Nat.le_trans ha hml
  have hlb : b.length ≤ maxLen := Nat.le_trans hb hml
  refine bY ?_ ?_
  · intro out ho; rw [xR]; simp
  · intro i hi ih out ho
    obtain ⟨y0, y1, y2, y3, y4, y5, hf, g0, g1, g2, r2, g3, g4, g5, r5⟩ := (qb _ (List.getElem_mem hi)).is.ex
    have hin := aCh (s := y0) hla (fun e he => (qa e he).is)
    rw [xR]
    simp -implicitDefEqProofs only [Int.ofNat_lt, hi, decide_true, aF, Int.natCast_nonneg, Bool.and_true, Int.toNat_natCast, aD, aR (fun e he => (qb e he).is.len), bI hi]
    rw [hf]
    simp -implicitDefEqProofs only [bL, aY, hin, Option.bind_some, aV, cA, aBj (show out.length + 1 ≤ 3400000000000 by omega), aD, aFn, bB (Nat.lt_of_lt_of_le hi hlb)]
    rw [bZ, cY hi, List.flatMap_cons, hf]
    by_cases hk : dL y0 0 a < 0
    · rw [if_pos (decide_eq_true hk), ih _ (by rw [List.length_append]; simp; omega), List.append_assoc]
      simp -implicitDefEqProofs only [fldB, bC, List.getElem?_cons_zero, hk, if_true, chg]
    · rw [if_neg (by simpa using hk), ih _ (by omega)]
      simp -implicitDefEqProofs only [fldB, bC, List.getElem?_cons_zero, hk, if_false, List.nil_append]
theorem aIt (hn : nm.size ≤ 1048576) (ha : a.length ≤ 1048576) (hb : b.length ≤ 1048576) (qa : ∀ e ∈ a, FOk e) (qb : ∀ e ∈ b, FOk e) :
    Dn F.aUW [.agg [.int .i64 i0, .bool b1, .str s2, .str nm, .sl fP e4, .sl fP a, .sl fP e6, .sl fP e7, .sl fP e8, .bool b9, .sl fP e10], .agg [.int .i64 j0, .bool c1, .str t2, .str t3, .sl fP f4, .sl fP b, .sl fP f6, .sl fP f7, .sl fP f8, .bool c9, .sl fP f10]] [] = some (.own (some T.aVQ) (fldCh nm a b), []) := by
  refine bH ?_
  rw [aGt]
  have h1 := aLQ (i0 := i0) (b1 := b1) (s2 := s2) (e4 := e4) (e6 := e6) (e7 := e7) (e8 := e8) (b9 := b9) (e10 := e10) (j0 := j0) (c1 := c1) (t2 := t2) (t3 := t3) (f4 := f4) (f6 := f6) (f7 := f7) (f8 := f8) (c9 := c9) (f10 := f10) hn ha hb qa qb 0 (Nat.zero_le _) [] (by simp)
  have hl := flatMap_lenM (f := fldA nm b) (l := a) fun x hx => aC5 (nm := nm) (qa x hx) qb
  have h2 := aLP (i0 := i0) (b1 := b1) (s2 := s2) (nm := nm) (e4 := e4) (e6 := e6) (e7 := e7) (e8 := e8) (b9 := b9) (e10 := e10) (j0 := j0) (c1 := c1) (t2 := t2) (t3 := t3) (f4 := f4) (f6 := f6) (f7 := f7) (f8 := f8) (c9 := c9) (f10 := f10) ha hb qa qb 0 (Nat.zero_le _) (a.flatMap (fldA nm b)) (by omega)
  simp only [List.drop_zero, List.nil_append] at h1 h2
  exact h1.trans h2
theorem aOp (ha : e7.length ≤ 1048576) (qa : ∀ e ∈ e7, cK e) : ∀ i : Nat, i ≤ e7.length → ∀ out : List El, out.length ≤ i →
    hM Dn (nH out i i0 b1 s2 nm e4 a e6 e7 e8 b9 e10) = some (.own (some T.aWl) (out ++ vals (e7.drop i)), []) := by
  have hml : (1048576 : Nat) ≤ maxLen := by decide
  refine bY ?_ ?_
  · intro out ho; rw [xH]; simp [vals]
  · intro i hi ih out ho
    obtain ⟨x0, x1, x2, he, _⟩ := (qa _ (List.getElem_mem hi)).ex
    rw [xH]
    simp -implicitDefEqProofs only [Int.ofNat_lt, hi, decide_true, aF, Int.natCast_nonneg, Bool.and_true, Int.toNat_natCast, aD, aR (fun e he => (qa e he).len), bI hi]
    rw [he]
    simp -implicitDefEqProofs only [bL, aY, (aAw (show out.length ≤ 4194304 by omega)).1, (aAw (show out.length ≤ 4194304 by omega)).2, aD, bB (Nat.lt_of_lt_of_le hi (Nat.le_trans ha hml))]
    rw [ih _ (by rw [List.length_append]; simp; omega), cY hi, he, List.append_assoc]
    rfl
theorem aAF (ha : e7.length ≤ 1048576) (qa : ∀ e ∈ e7, cK e) : Dn F.aUU [.agg [.int .i64 i0, .bool b1, .str s2, .str nm, .sl fP e4, .sl fP a, .sl fP e6, .sl fP e7, .sl fP e8, .bool b9, .sl fP e10]] [] = some (.own (some T.aWl) (vals e7), []) := by
  refine bH ?_
  rw [aF9]
  exact aOp ha qa 0 (Nat.zero_le _) [] (by simp)
end
end Go.Vs.Old
end
section
open Go Go.Vs Go.Proofs
set_option linter.unusedVariables false
set_option linter.unusedSimpArgs false
namespace Go.Vs.Old
def rep (c : Int) (o : ByteArray) (q : Bool) : List El := if q = true then [chg c o nul] else []
noncomputable def tailCh (o nm : ByteArray) (k : Int) (r r' : Bool) (e4 e5 e6 e7 f4 f5 f6 f7 : List El) : List El :=
  if (k == 2 || k == 3) = true then nA o e4 f4 12 24 ++ fldCh nm e5 f5
  else if (k == 4) = true then nA o e4 f4 11 23
  else if (k == 5) = true then nA o (vals e7) (vals f7) 10 22
  else if (k == 6) = true then zM o e6 f6
  else if (k == 7) = true then nA o e4 f4 14 26 ++ (rep 15 o (r && !r') ++ (rep 27 o (!r && r') ++ zM o e6 f6))
  else []
def dirNm (k : Int) (nm : ByteArray) : ByteArray := if (k == 7) = true then ByteArray.mk #[64] ++ nm else nm
noncomputable def defCh (x y : El) : List El :=
  if (intAt x 0 != intAt y 0) = true then [chg 3 (bC x 3) nul] else
    rep 28 (dirNm (intAt x 0) (bC x 3)) (!((bC x 2).toList == (bC y 2).toList)) ++
      tailCh (dirNm (intAt x 0) (bC x 3)) (bC x 3) (intAt x 0) (wV x 9) (wV y 9) (slAt x 4) (slAt x 5) (slAt x 6) (slAt x 7) (slAt y 4) (slAt y 5) (slAt y 6) (slAt y 7)
structure DOk (nm : ByteArray) (e4 e5 e6 e7 : List El) : Prop where
  nm : nm.size ≤ 1048576
  l4 : e4.length ≤ 1048576
  q4 : ∀ e ∈ e4, dP e
  l5 : e5.length ≤ 1048576
  q5 : ∀ e ∈ e5, FOk e
  l6 : e6.length ≤ 1048576
  q6 : ∀ e ∈ e6, cI e
  l7 : e7.length ≤ 1048576
  q7 : ∀ e ∈ e7, cK e
theorem vals_len (l : List El) : (vals l).length = l.length := List.length_map _
theorem aHQ {l : List El} (h : ∀ e ∈ l, cK e) : ∀ e ∈ vals l, dP e := by
  intro e he
  obtain ⟨x, hx, rfl⟩ := List.mem_map.1 he
  obtain ⟨x0, x1, x2, rfl, h0, _⟩ := (h x hx).ex
  exact ⟨x0, rfl, h0⟩
theorem FOk.of {e : El} (h : cE e) (hb : bdL 1048576 e) : FOk e := by
  refine ⟨h, ?_, ?_⟩ <;> (cases h; simp only [bdL, bdF] at hb)
  · exact hb.1
  · exact hb.2.2.1.1
theorem rep_len (c : Int) (o : ByteArray) (q : Bool) : (rep c o q).length ≤ 1 := by unfold rep; split <;> simp
theorem aNK {c : Int} {o : ByteArray} {q : Bool} : ∀ e ∈ rep c o q, dG e := by
  intro e he
  unfold rep at he
  split at he
  · rw [List.mem_singleton.1 he]; exact .mk _ _ _
  · simp at he
theorem aPR {o nm : ByteArray} {k : Int} {r r' : Bool} {e4 e5 e6 e7 f4 f5 f6 f7 : List El} : ∀ e ∈ tailCh o nm k r r' e4 e5 e6 e7 f4 f5 f6 f7, dG e := by
  intro e he
  unfold tailCh at he
  split at he
  · rcases List.mem_append.1 he with he | he
    · exact pT e he
    · exact aIF e he
  · split at he
    · exact pT e he
    · split at he
      · exact pT e he
      · split at he
        · exact xW e he
        · split at he
          · rcases List.mem_append.1 he with he | he
            · exact pT e he
            · rcases List.mem_append.1 he with he | he
              · exact aNK e he
              · rcases List.mem_append.1 he with he | he
                · exact aNK e he
                · exact xW e he
          · simp at he
theorem defCh_all {x y : El} : ∀ e ∈ defCh x y, dG e := by
  intro e he
  unfold defCh at he
  split at he
  · rw [List.mem_singleton.1 he]; exact .mk _ _ _
  · rcases List.mem_append.1 he with he | he
    · exact aNK e he
    · exact aPR e he
section
variable {k j0 : Int} {b1 b9 c1 c9 : Bool} {o s2 nm t2 t3 : ByteArray} {e4 e5 e6 e7 e8 e10 f4 f5 f6 f7 f8 f10 : List El}
theorem aLe (hx : DOk nm e4 e5 e6 e7) (hy : DOk t3 f4 f5 f6 f7) {out : List El} (ho : out.length ≤ 4000000) :
    aQ Dn (mD out o k b1 s2 nm e4 e5 e6 e7 e8 b9 e10 j0 c1 t2 t3 f4 f5 f6 f7 f8 c9 f10) = some (.own (some T.aVQ) (out ++ zM o e6 f6), []) := by
  have hcl := inCh_len o e6 f6
  have l6 := hx.l6
  have m6 := hy.l6
  rw [aEk]
  simp -implicitDefEqProofs only [uR hx.l6 hy.l6 hx.q6 hy.q6, Option.bind_some, dQ, aBj (show out.length + (zM o e6 f6).length ≤ 3400000000000 by omega), aR (fun e he => (xW (o := o) (a := e6) (b := f6) e he).len), Bool.and_self, aD, hY]
theorem aKK (hx : DOk nm e4 e5 e6 e7) (hy : DOk t3 f4 f5 f6 f7) (p : Bool) {out : List El} (ho : out.length ≤ 3500000) : aQ Dn (mG out o p k b1 s2 nm e4 e5 e6 e7 e8 b9 e10 j0 c1 t2 t3 f4 f5 f6 f7 f8 c9 f10) = some (.own (some T.aVQ) (out ++ (rep 27 o p ++ zM o e6 f6)), []) := by
  rw [aD4]
  cases p
  · simp -implicitDefEqProofs only [aG]
    rw [aLe hx hy (by omega)]; rfl
  · simp -implicitDefEqProofs only [aF, aBj (show out.length + 1 ≤ 3400000000000 by omega), Bool.and_true, aD]
    rw [aLe hx hy (by rw [List.length_append]; simp; omega), List.append_assoc]; rfl
theorem aKM (hx : DOk nm e4 e5 e6 e7) (hy : DOk t3 f4 f5 f6 f7) {out : List El} (ho : out.length ≤ 3500000) : aQ Dn (mC out o k b1 s2 nm e4 e5 e6 e7 e8 b9 e10 j0 c1 t2 t3 f4 f5 f6 f7 f8 c9 f10) = some (.own (some T.aVQ) (out ++ (rep 27 o (!b9 && c9) ++ zM o e6 f6)), []) := by
  rw [aDX, aKK hx hy c9 ho, aKK hx hy false ho]
  cases b9 <;> rfl
theorem aPW (hx : DOk nm e4 e5 e6 e7) (hy : DOk t3 f4 f5 f6 f7) (q : Bool) {out : List El} (ho : out.length ≤ 3000000) :
    aQ Dn (lS out o q k b1 s2 nm e4 e5 e6 e7 e8 b9 e10 j0 c1 t2 t3 f4 f5 f6 f7 f8 c9 f10) = some (.own (some T.aVQ) (out ++ (rep 15 o q ++ (rep 27 o (!b9 && c9) ++ zM o e6 f6))), []) := by
  rw [aCS]
  cases q
  · simp -implicitDefEqProofs only [aG]
    rw [aKM hx hy (by omega)]; rfl
  · simp -implicitDefEqProofs only [aF, aBj (show out.length + 1 ≤ 3400000000000 by omega), Bool.and_true, aD]
    rw [aKM hx hy (by rw [List.length_append]; simp; omega), List.append_assoc]; rfl
theorem aLD (hx : DOk nm e4 e5 e6 e7) (hy : DOk t3 f4 f5 f6 f7) {out : List El} (ho : out.length ≤ 1) :
    aQ Dn (jX out o k b1 s2 nm e4 e5 e6 e7 e8 b9 e10 j0 c1 t2 t3 f4 f5 f6 f7 f8 c9 f10) = some (.own (some T.aVQ) (out ++ tailCh o nm k b9 c9 e4 e5 e6 e7 f4 f5 f6 f7), []) := by
  have two : aQ Dn (jX out o k b1 s2 nm e4 e5 e6 e7 e8 b9 e10 j0 c1 t2 t3 f4 f5 f6 f7 f8 c9 f10) = aQ Dn (lV out o k (k == 2 || k == 3) k b1 s2 nm e4 e5 e6 e7 e8 b9 e10 j0 c1 t2 t3 f4 f5 f6 f7 f8 c9 f10) := by
    rw [aC7, bZ]
    cases h : k == 2 <;> simp -implicitDefEqProofs only [if_true, Bool.false_eq_true, if_false, Bool.true_or, Bool.false_or]
  have x4 := hx.l4; have x5 := hx.l5; have x6 := hx.l6; have x7 := hx.l7
  have y4 := hy.l4; have y5 := hy.l5; have y6 := hy.l6; have y7 := hy.l7
  have nl := fun g f => nameCh_len o e4 f4 g f
  have vl := nameCh_len o (vals e7) (vals f7) 10 22
  rw [vals_len, vals_len] at vl
  have fl := aMy (nm := nm) hx.l5 hy.l5 hx.q5 hy.q5
  have il := inCh_len o e6 f6
  have nr : ∀ g f, decide ((out.length + (nA o e4 f4 g f).length) * 40 ≤ aH) = true := fun g f => aBj (by have := nl g f; omega)
  have ns : ∀ g f, sized 3 (nA o e4 f4 g f) = true := fun g f => aR fun e he => (pT e he).len
  have vn := oA (o := o) (gone := 10) (fresh := 22) (a := vals e7) (b := vals f7) (by rw [vals_len]; exact x7) (by rw [vals_len]; exact y7) (aHQ hx.q7) (aHQ hy.q7)
  rw [two, aDa, bZ]
  unfold tailCh
  by_cases h23 : (k == 2 || k == 3) = true
  · rw [if_pos h23, if_pos h23]
    have fr : decide (((out ++ nA o e4 f4 12 24).length + (fldCh nm e5 f5).length) * 40 ≤ aH) = true := aBj (by have := nl 12 24; rw [List.length_append]; omega)
    simp -implicitDefEqProofs only [oA hx.l4 hy.l4 hx.q4 hy.q4, Option.bind_some, dQ, nr, ns, Bool.and_self, aD, aIt hx.nm hx.l5 hy.l5 hx.q5 hy.q5, fr, aR (fun e he => (aIF (nm := nm) (a := e5) (b := f5) e he).len), hY, List.append_assoc]
  · rw [if_neg h23, if_neg h23, bZ]
    by_cases h4 : (k == 4) = true
    · rw [if_pos h4, if_pos h4]
      simp -implicitDefEqProofs only [oA hx.l4 hy.l4 hx.q4 hy.q4, Option.bind_some, dQ, nr, ns, Bool.and_self, aD, hY]
    · rw [if_neg h4, if_neg h4, bZ]
      by_cases h5 : (k == 5) = true
      · rw [if_pos h5, if_pos h5]
        simp -implicitDefEqProofs only [aAF hx.l7 hx.q7, aAF hy.l7 hy.q7, vn, Option.bind_some, dQ, aBj (show out.length + (nA o (vals e7) (vals f7) 10 22).length ≤ 3400000000000 by omega), aR (fun e he => (pT (o := o) (a := vals e7) (b := vals f7) (g := 10) (f := 22) e he).len), Bool.and_self, aD, hY]
      · rw [if_neg h5, if_neg h5, bZ]
        by_cases h6 : (k == 6) = true
        · rw [if_pos h6, if_pos h6]
          simp -implicitDefEqProofs only [uR hx.l6 hy.l6 hx.q6 hy.q6, Option.bind_some, dQ, aBj (show out.length + (zM o e6 f6).length ≤ 3400000000000 by omega), aR (fun e he => (xW (o := o) (a := e6) (b := f6) e he).len), Bool.and_self, aD, hY]
        · rw [if_neg h6, if_neg h6, bZ]
          by_cases h7 : (k == 7) = true
          · rw [if_pos h7, if_pos h7]
            have ol : (out ++ nA o e4 f4 14 26).length ≤ 3000000 := by have := nl 14 26; rw [List.length_append]; omega
            simp -implicitDefEqProofs only [oA hx.l4 hy.l4 hx.q4 hy.q4, Option.bind_some, dQ, nr, ns, Bool.and_self, aD, aPW hx hy _ ol]
            cases b9 <;> simp -implicitDefEqProofs only [beq_self_eq_true, show ((false : Bool) == true) = false from rfl, aF, aG, Bool.true_and, Bool.false_and, List.append_assoc]
          · rw [if_neg h7, if_neg h7, hY, List.append_nil]
theorem aR9 : defCh [.int .i64 k, .bool b1, .str s2, .str nm, .sl fP e4, .sl fP e5, .sl fP e6, .sl fP e7, .sl fP e8, .bool b9, .sl fP e10] [.int .i64 j0, .bool c1, .str t2, .str t3, .sl fP f4, .sl fP f5, .sl fP f6, .sl fP f7, .sl fP f8, .bool c9, .sl fP f10] =
    if (k != j0) = true then [chg 3 nm nul] else rep 28 (dirNm k nm) (!(s2.toList == t2.toList)) ++ tailCh (dirNm k nm) nm k b9 c9 e4 e5 e6 e7 f4 f5 f6 f7 := rfl
theorem d_spec_DefChanges (hx : DOk nm e4 e5 e6 e7) (hy : DOk t3 f4 f5 f6 f7) :
    Dn F.aUx [.agg [.int .i64 k, .bool b1, .str s2, .str nm, .sl fP e4, .sl fP e5, .sl fP e6, .sl fP e7, .sl fP e8, .bool b9, .sl fP e10], .agg [.int .i64 j0, .bool c1, .str t2, .str t3, .sl fP f4, .sl fP f5, .sl fP f6, .sl fP f7, .sl fP f8, .bool c9, .sl fP f10]] [] =
      some (.own (some T.aVQ) (defCh [.int .i64 k, .bool b1, .str s2, .str nm, .sl fP e4, .sl fP e5, .sl fP e6, .sl fP e7, .sl fP e8, .bool b9, .sl fP e10] [.int .i64 j0, .bool c1, .str t2, .str t3, .sl fP f4, .sl fP f5, .sl fP f6, .sl fP f7, .sl fP f8, .bool c9, .sl fP f10]), []) := by
  have z : decide ((ByteArray.mk #[64]).size + nm.size ≤ 140737488355328) = true := decide_eq_true (by have := hx.nm; show 1 + _ ≤ _; omega)
  have s0 : ∀ o : ByteArray, aQ Dn (lT o k b1 s2 nm e4 e5 e6 e7 e8 b9 e10 j0 c1 t2 t3 f4 f5 f6 f7 f8 c9 f10) = some (.own (some T.aVQ) (rep 28 o (!(s2.toList == t2.toList)) ++ tailCh o nm k b9 c9 e4 e5 e6 e7 f4 f5 f6 f7), []) := fun o => by
    rw [aC2]
    cases h : s2.toList == t2.toList
    · simp -implicitDefEqProofs only [Bool.not_false, aF]
      rw [aLD hx hy (by simp)]; rfl
    · simp -implicitDefEqProofs only [Bool.not_true, aG]
      rw [aLD hx hy (by simp)]; rfl
  refine bH ?_
  rw [aES, s0, s0, z, aD, bZ, bZ]
  rw [aR9]
  unfold dirNm
  by_cases h : (k != j0) = true
  · rw [if_pos h, if_pos h]; rfl
  · rw [if_neg h, if_neg h]
    by_cases h7 : (k == 7) = true
    · rw [if_pos h7, if_pos h7]
    · rw [if_neg h7, if_neg h7]
end
end Go.Vs.Old
end
section
open Go Go.Vs Go.Proofs
set_option linter.unusedVariables false
set_option linter.unusedSimpArgs false
namespace Go.Vs.Old
theorem aQc {s : ByteArray} : ∀ (l : List El) (i : Int), 0 ≤ i → eH l s = decide (dL s i l ≥ 0)
  | [], i, h => by simp [eH, dL]
  | e :: l, i, h => by
    have ih := aQc (s := s) l (i + 1) (by omega)
    unfold eH at ih ⊢
    rw [List.any_cons, ih]
    rw [show dL s i (e :: l) = if ((bC e 0).toList == s.toList) = true then i else dL s (i + 1) l from rfl]
    cases hc : (bC e 0).toList == s.toList
    · simp only [Bool.false_or, Bool.false_eq_true, if_false]
    · simp [h]
theorem aSw (a b : List UInt8) : (a == b) = (b == a) := by rw [Bool.eq_iff_iff, beq_iff_eq, beq_iff_eq]; exact eq_comm
theorem aHY {es : List El} {s : ByteArray} (hl : es.length ≤ maxLen) (hq : ∀ e ∈ es, dP e) : ∀ i : Nat, i ≤ es.length →
    cW Dn (eD es s es.length i) = some (aJ (dL s i (es.drop i)), []) := by
  refine bY ?_ ?_
  · rw [lO]; simp [dL]
  · intro i hi ih
    obtain ⟨u, hu, _⟩ := hq _ (List.getElem_mem hi)
    rw [lO, cY hi]
    simp only [Int.ofNat_lt, hi, decide_true, aF, Int.natCast_nonneg, Bool.and_true, Int.toNat_natCast, aD, bB (Nat.lt_of_lt_of_le hi hl), aR (fun e he => (hq e he).len), bI hi]
    rw [hu]
    simp only [bL, aY, bZ, dL, bC, List.getElem?_cons_zero, ih]
    rw [aSw s.toList u.toList]
    by_cases hx : (u.toList == s.toList) = true <;> simp [hx]
theorem aAn {es : List El} {s : ByteArray} (hl : es.length ≤ maxLen) (hq : ∀ e ∈ es, dP e) : Dn F.aT6 [vsl es, .leaf (.str s)] [] = some (aP (eH es s), []) := by
  have key : Dn F.aUa [vsl es, .leaf (.str s)] [] = some (aJ (dL s 0 es), []) := by
    refine bH ?_
    rw [sT]
    exact aHY hl hq 0 (Nat.zero_le _)
  refine bH ?_
  rw [rD, key, aQc es 0 (by omega)]
  simp only [Option.bind_some, aV, cA]
def aA9 (q : Bool) (code : Int) (s p : ByteArray) : List El := if q = true then [chg code s p] else []
theorem oL (q : Bool) (code : Int) (s p : ByteArray) : (aA9 q code s p).length ≤ 1 := by unfold aA9; split <;> simp
theorem pS {q : Bool} {code : Int} {s p : ByteArray} {out : List El} (hr : out.length ≤ 4194304) : Dn F.aUi [.ptr 0 0, aP q, aJ code, .leaf (.str s), .leaf (.str p)] [[.own (some T.aVQ) out]] =
    some (.tup [], [[.own (some T.aVQ) (out ++ aA9 q code s p)]]) := by
  refine bH ?_
  rw [wL]
  simp only [aNL hr, aD, bZ]
  unfold aA9
  cases q
  · simp
  · simp only [if_true, chg]
section
variable {o : ByteArray} {a b : List El} {gone fresh : Int}
theorem aNf (ha : a.length ≤ 1048576) (hb : b.length ≤ 1048576) (qa : ∀ e ∈ a, dP e) (qb : ∀ e ∈ b, dP e) : ∀ i : Nat, i ≤ a.length → ∀ out : List El, out.length ≤ i →
    cR Dn (lH o a b gone fresh a a.length i out) = cR Dn (jG o a fresh b b.length 0 (out ++ (a.drop i).flatMap fun x => if eH b (bC x 0) = true then [] else [chg gone o (bC x 0)])) := by
  have hml : (1048576 : Nat) ≤ maxLen := by decide
  refine bY ?_ ?_
  · intro out ho; rw [tZ]; simp
  · intro i hi ih out ho
    obtain ⟨u, hu, _⟩ := qa _ (List.getElem_mem hi)
    have hl1 := oL (!(eH b u)) gone o u
    have hin := aAn (s := u) (Nat.le_trans hb hml) qb
    have had := pS (q := !(eH b u)) (code := gone) (s := o) (p := u) (out := out) (by omega)
    rw [tZ]
    simp -implicitDefEqProofs only [Int.ofNat_lt, hi, decide_true, aF, Int.natCast_nonneg, Bool.and_true, Bool.and_self, Int.toNat_natCast, aD, aR (fun e he => (qa e he).len), bI hi, hu, bL, aY, hin, Option.bind_some, aV, bQ, had, sB, jH, dQ, kZ, nK, nY, bB (Nat.lt_of_lt_of_le hi (Nat.le_trans ha hml))]
    rw [ih _ (by rw [List.length_append]; omega), cY hi, List.flatMap_cons, hu, show bC [aA.str u] 0 = u from rfl, List.append_assoc]
    unfold aA9
    cases eH b u <;> rfl
theorem aNh (ha : a.length ≤ 1048576) (hb : b.length ≤ 1048576) (qa : ∀ e ∈ a, dP e) (qb : ∀ e ∈ b, dP e) : ∀ i : Nat, i ≤ b.length → ∀ out : List El, out.length ≤ 1048576 + i →
    cR Dn (jG o a fresh b b.length i out) = some (.own (some T.aVQ) (out ++ (b.drop i).flatMap fun y => if eH a (bC y 0) = true then [] else [chg fresh o (bC y 0)]), []) := by
  have hml : (1048576 : Nat) ≤ maxLen := by decide
  refine bY ?_ ?_
  · intro out ho; rw [uC]; simp
  · intro i hi ih out ho
    obtain ⟨u, hu, _⟩ := qb _ (List.getElem_mem hi)
    have hl1 := oL (!(eH a u)) fresh o u
    have hin := aAn (s := u) (Nat.le_trans ha hml) qa
    have had := pS (q := !(eH a u)) (code := fresh) (s := o) (p := u) (out := out) (by omega)
    rw [uC]
    simp -implicitDefEqProofs only [Int.ofNat_lt, hi, decide_true, aF, Int.natCast_nonneg, Bool.and_true, Bool.and_self, Int.toNat_natCast, aD, aR (fun e he => (qb e he).len), bI hi, hu, bL, aY, hin, Option.bind_some, aV, bQ, had, sB, jH, dQ, kZ, nK, nY, bB (Nat.lt_of_lt_of_le hi (Nat.le_trans hb hml))]
    rw [ih _ (by rw [List.length_append]; omega), cY hi, List.flatMap_cons, hu, show bC [aA.str u] 0 = u from rfl, List.append_assoc]
    unfold aA9
    cases eH a u <;> rfl
theorem yH (ha : a.length ≤ 1048576) (hb : b.length ≤ 1048576) (qa : ∀ e ∈ a, dP e) (qb : ∀ e ∈ b, dP e) : Dn F.aUn [.leaf (.str o), vsl a, vsl b, aJ gone, aJ fresh] [] = some (.own (some T.aVQ) (nA o a b gone fresh), []) := by
  have h1 := aNf (o := o) (gone := gone) (fresh := fresh) ha hb qa qb 0 (Nat.zero_le _) [] (by simp)
  have hl : (a.flatMap fun x => if eH b (bC x 0) = true then [] else [chg gone o (bC x 0)]).length ≤ 1 * a.length := flatMap_len (fun x => by split <;> simp) a
  have h2 := aNh (o := o) (fresh := fresh) ha hb qa qb 0 (Nat.zero_le _) (a.flatMap fun x => if eH b (bC x 0) = true then [] else [chg gone o (bC x 0)]) (by omega)
  simp only [List.drop_zero, List.nil_append] at h1 h2
  refine bH ?_
  rw [aDd]
  exact h1.trans h2
end
theorem aOj {a : List El} (ha : a.length ≤ 1048576) (qa : ∀ e ∈ a, cK e) : ∀ i : Nat, i ≤ a.length → ∀ out : List El, out.length ≤ i →
    gD Dn (mI out a a.length i) = some (.own (some T.aWl) (out ++ vals (a.drop i)), []) := by
  have hml : (1048576 : Nat) ≤ maxLen := by decide
  refine bY ?_ ?_
  · intro out ho; rw [vX]; simp [vals]
  · intro i hi ih out ho
    obtain ⟨x0, x1, x2, he, _⟩ := (qa _ (List.getElem_mem hi)).ex
    rw [vX]
    simp -implicitDefEqProofs only [Int.ofNat_lt, hi, decide_true, aF, Int.natCast_nonneg, Bool.and_true, Int.toNat_natCast, aD, aR (fun e he => (qa e he).len), bI hi]
    rw [he]
    simp -implicitDefEqProofs only [dI, bL, cF, aY, dK, (aAw (show out.length ≤ 4194304 by omega)).1, (aAw (show out.length ≤ 4194304 by omega)).2, aD, bB (Nat.lt_of_lt_of_le hi (Nat.le_trans ha hml))]
    rw [ih _ (by rw [List.length_append]; simp; omega), cY hi, he, List.append_assoc]
    rfl
theorem zX {a : List El} (ha : a.length ≤ 1048576) (qa : ∀ e ∈ a, cK e) : Dn F.aUD [vsl a] [] = some (.own (some T.aWl) (vals a), []) := by
  refine bH ?_
  rw [aEL]
  exact aOj ha qa 0 (Nat.zero_le _) [] (by simp)
theorem aI5 {e : El} {s : ByteArray} (h : cE e) : Dn F.aUH [.agg e, .ptr 0 0] [[.leaf (.str s)]] = some (aP ((bC e 0).toList == s.toList), [[.leaf (.str s)]]) := by
  cases h
  refine bH ?_
  rw [aGY]
  rfl
theorem aNQ {es : List El} {s : ByteArray} (hl : es.length ≤ maxLen) (hq : ∀ e ∈ es, cE e) : ∀ i : Nat, i ≤ es.length →
    bK Dn (cJ es F.aUH es.length i s) = some (aJ (dL s i (es.drop i)), [[.leaf (.str s)]]) := by
  refine bY ?_ ?_
  · rw [eK]; simp [dL]
  · intro i hi ih
    have hci := aI5 (s := s) (hq _ (List.getElem_mem hi))
    obtain ⟨s0, s1, e2, s3, s4, e5, he, h0⟩ := (hq _ (List.getElem_mem hi)).ex
    rw [eK, cY hi]
    simp only [Int.ofNat_lt, hi, decide_true, aF, Int.natCast_nonneg, Bool.and_true, Int.toNat_natCast, aD, bB (Nat.lt_of_lt_of_le hi hl), aR (fun e he => (hq e he).len), bI hi]
    rw [he] at hci ⊢
    simp only [dI, bL, cF, cA, aY, bQ, dK, hci, Option.bind_some, sB, jH, aV, kZ, nK, bZ, dL, bC, List.getElem?_cons_zero, ih]
    by_cases hx : (s0.toList == s.toList) = true <;> simp [hx]
def aSD : El := [.str nul, .str nul, .sl fP [], .str nul, .str nul, .sl fP []]
def fieldAt (l : List El) (s : ByteArray) : El := if dL s 0 l < 0 then aSD else l.getD (dL s 0 l).toNat []
theorem aDB {k : Int} {b1 b9 : Bool} {s2 nm s : ByteArray} {e4 a e6 e7 e8 e10 : List El} (hl : a.length ≤ maxLen) (hq : ∀ e ∈ a, cE e) :
    Dn F.aVr [.agg [.int .i64 k, .bool b1, .str s2, .str nm, .sl fP e4, .sl fP a, .sl fP e6, .sl fP e7, .sl fP e8, .bool b9, .sl fP e10], .leaf (.str s)] [] =
      some (.tup [.agg (fieldAt a s), aP (!(decide (dL s 0 a < 0)))], []) := by
  have key : Dn F.aT1 [vsl a, .fn F.aUH [.ptr 0 0]] [[.leaf (.str s)]] = some (aJ (dL s 0 a), [[.leaf (.str s)]]) := by
    refine bH ?_
    rw [jS]
    exact aNQ hl hq 0 (Nat.zero_le _)
  refine bH ?_
  rw [aIq, key]
  simp -implicitDefEqProofs only [Option.bind_some, sB, jH, aV, aY, kZ, nK, cA]
  unfold fieldAt
  by_cases hk : dL s 0 a < 0
  · simp -implicitDefEqProofs only [hk, decide_true, aF, if_true, Bool.not_true]
    rfl
  · obtain ⟨j, hj, hjb⟩ := idx_get hk
    obtain ⟨y0, y1, y2, y3, y4, y5, hf, g0⟩ := (hq _ (List.getElem_mem hjb)).ex
    have hjn : ¬ ((j : Int) < 0) := by omega
    rw [hj]
    simp -implicitDefEqProofs only [hjn, decide_false, aG, if_false, Bool.not_false, Int.ofNat_lt, hjb, decide_true, Int.natCast_nonneg, Bool.and_true, Int.toNat_natCast, aD, aR (fun e he => (hq e he).len), bI hjb, hf, dI, bL, cF, aY, dK]
end Go.Vs.Old
end
section
open Go Go.Vs Go.Proofs
set_option linter.unusedVariables false
set_option linter.unusedSimpArgs false
namespace Go.Vs.Old
section
variable {o : ByteArray} {a b : List El}
theorem aSW {x : bV} (hx : cI x.l) : dH [.int .i64 x.a5, .str x.a6, .sl fP x.a7, .sl fP x.a8] := by
  obtain ⟨h0, h1, h2, h3, h6, h7, q7, h8, q8, _⟩ := hx.p
  exact .mk _ _ _ _ h6 h7 q7 h8 q8
theorem aSs {out e1 e2 e19 : List El} {n i : Int} {x y : bV} (hx : cI x.l) (hy : cI y.l) (hr : out.length ≤ 4194000) :
    aT Dn (qJ o e1 e2 e19 n i x y out) = aT Dn (jE o e1 e2 e19 n i (out ++ d2 o x.a0 x.a4 y.a4 y.a3 [.int .i64 x.a5, .str x.a6, .sl fP x.a7, .sl fP x.a8] [.int .i64 y.a5, .str y.a6, .sl fP y.a7, .sl fP y.a8])) := by
  have sv : Dn F.aUL [.agg (fX.l ⟨x.a5, x.a6, x.a7, x.a8⟩), .agg (fX.l ⟨y.a5, y.a6, y.a7, y.a8⟩)] [] = _ := (aJf (aSW hx) (aSW hy)).1
  have hw : y.a3.size ≤ maxLen := hy.p.2.2.2.1
  have nd : Dn F.aVL [.agg (oM.l ⟨y.a2, y.a3⟩)] [] = _ := aFZ hw
  have r0 : out.length ≤ 4194304 := by omega
  have ad0 := fun (q : Bool) (code : Int) (s p : ByteArray) => pS (q := q) (code := code) (s := s) (p := p) r0
  have ad1 := fun (q q' : Bool) (code code' : Int) (s p s' p' : ByteArray) => pS (q := q) (code := code) (s := s) (p := p) (out := out ++ aA9 q' code' s' p') (by have := oL q' code' s' p'; rw [List.length_append]; omega)
  rw [aFd]
  simp -implicitDefEqProofs only [nd, qV, aEM, ad0, gQ, ad1, sv]
  unfold d2 aA9
  generalize eqL [.int .i64 x.a5, .str x.a6, .sl fP x.a7, .sl fP x.a8] [.int .i64 y.a5, .str y.a6, .sl fP y.a7, .sl fP y.a8] = q
  cases x.a4 <;> cases y.a4 <;> cases nN y.a3 33 <;> cases q <;> simp -implicitDefEqProofs only [aF, aG, beq_self_eq_true, Bool.not_true, Bool.not_false, Bool.and_true, Bool.and_false, Bool.false_and, Bool.true_and, Bool.or_true, Bool.or_false, Bool.true_or, Bool.false_or, if_true, Bool.false_eq_true, if_false, List.append_nil, show ((false : Bool) == true) = false from rfl, show ((true : Bool) == false) = false from rfl]
theorem aTY (ha : a.length ≤ 1048576) (hb : b.length ≤ 1048576) (qa : ∀ e ∈ a, cI e) (qb : ∀ e ∈ b, cI e) : ∀ i : Nat, i ≤ a.length → ∀ out : List El, out.length ≤ 2 * i →
    aT Dn (qE o a b a a.length i out) = aT Dn (kW o a b b.length 0 (out ++ (a.drop i).flatMap (aA6 o b))) := by
  have hml : (1048576 : Nat) ≤ maxLen := by decide
  have hla : a.length ≤ maxLen := Nat.le_trans ha hml
  have hlb : b.length ≤ maxLen := Nat.le_trans hb hml
  refine bY ?_ ?_
  · intro out ho; rw [xF]; simp
  · intro i hi ih out ho
    have hro : out.length ≤ 4194304 := by omega
    obtain ⟨x, he, ix⟩ := (qa _ (List.getElem_mem hi)).st
    have next : ∀ out' : List El, out' = out ++ aA6 o b a[i] → aT Dn (jE o a b a a.length i out') = aT Dn (kW o a b b.length 0 (out ++ (a.drop i).flatMap (aA6 o b))) := fun out' ho' => by
      subst ho'
      rw [aE7, bB (Nat.lt_of_lt_of_le hi hla), ih _ (by have := aDE o b a[i]; rw [List.length_append]; omega), cY hi, List.flatMap_cons, List.append_assoc]
    have hin := aJx (s := x.a0) hlb qb
    have ad0 := fun (q : Bool) (code : Int) (s p : ByteArray) => pS (q := q) (code := code) (s := s) (p := p) hro
    rw [xF]
    simp -implicitDefEqProofs only [Int.ofNat_lt, hi, decide_true, aF, Int.natCast_nonneg, Bool.and_true, Bool.and_self, Int.toNat_natCast, aD, aR fun e he => (qa e he).len, bI hi, he, bV.rd_l, hin, yD]
    rcases aHk x.a0 b 0 (by omega) with hk | ⟨hk0, hk1⟩
    · rw [hk]
      simp -implicitDefEqProofs only [show ((-1 : Int) < 0) by omega, decide_true, aF, ad0, gQ]
      refine next _ ?_
      rw [he]
      show _ = out ++ aA6 o b x.l
      unfold aA6
      rw [show bC x.l 0 = x.a0 from rfl, hk, if_pos (by omega)]
      rfl
    · obtain ⟨j, hj⟩ : ∃ j : Nat, dL x.a0 0 b = (j : Int) := ⟨(dL x.a0 0 b).toNat, by omega⟩
      have hjb : j < b.length := by omega
      obtain ⟨y, hf, iy⟩ := (qb _ (List.getElem_mem hjb)).st
      have hjn : ¬ ((j : Int) < 0) := by omega
      have r1 : ∀ l : List El, l.length ≤ 1 → (out ++ l).length ≤ 4194000 := fun l hl => by rw [List.length_append]; omega
      have ad1 := fun (q q' : Bool) (code code' : Int) (s p s' p' : ByteArray) => pS (q := q) (code := code) (s := s) (p := p) (out := out ++ aA9 q' code' s' p') (by have := r1 _ (oL q' code' s' p'); omega)
      have cp : Dn F.aUu [.agg (oM.l ⟨x.a2, x.a3⟩), .agg (oM.l ⟨y.a2, y.a3⟩)] [] = _ := aHa ix.p.2.2.2.1 iy.p.2.2.2.1
      rw [hj]
      simp -implicitDefEqProofs only [hjn, decide_false, aG, Int.ofNat_lt, hjb, decide_true, Int.natCast_nonneg, Bool.and_true, Bool.and_self, Int.toNat_natCast, aD, aR fun e he => (qb e he).len, bI hjb, hf, bV.rd_l, cp, qV, aFh, ad0, ad1, gQ]
      have tail := fun (out' : List El) (hr : out'.length ≤ 4194000) => aSs (o := o) (out := out') (e1 := a) (e2 := b) (e19 := a) (n := (a.length : Int)) (i := (i : Int)) ix iy hr
      have pa : aA6 o b a[i] = d1 o x.a0 x.a2 x.a3 y.a2 y.a3 ++ d2 o x.a0 x.a4 y.a4 y.a3 [.int .i64 x.a5, .str x.a6, .sl fP x.a7, .sl fP x.a8] [.int .i64 y.a5, .str y.a6, .sl fP y.a7, .sl fP y.a8] := by
        rw [he]
        unfold aA6
        rw [show bC x.l 0 = x.a0 from rfl, hj, if_neg hjn, Int.toNat_natCast, bI hjb, hf]
        rfl
      rw [bZ]
      by_cases hne : (!(x.a2 == y.a2 && x.a3 == y.a3)) = true
      · simp -implicitDefEqProofs only [Bool.and_true, hne, beq_self_eq_true, if_true, aF]
        rw [tail _ (by have h1 := oL (!aAz x.a2 x.a3 y.a2 y.a3) 7 o x.a0; have h2 := oL (aAz x.a2 x.a3 y.a2 y.a3) 19 o x.a0; rw [List.length_append, List.length_append]; omega)]
        refine next _ ?_
        rw [pa]
        unfold d1 aA9
        rw [if_pos hne]
        cases aAz x.a2 x.a3 y.a2 y.a3 <;> simp
      · have hne' : (!(x.a2 == y.a2 && x.a3 == y.a3)) = false := by simpa using hne
        have i0 : ∀ c s p, aA9 false c s p = [] := fun _ _ _ => rfl
        simp -implicitDefEqProofs only [Bool.and_true, hne', show ((false : Bool) == true) = false from rfl, Bool.false_eq_true, if_false, aG, i0, List.append_nil]
        rw [tail _ (by omega)]
        refine next _ ?_
        rw [pa]
        unfold d1
        rw [if_neg hne]
        simp
theorem aTS (ha : a.length ≤ 1048576) (hb : b.length ≤ 1048576) (qa : ∀ e ∈ a, cI e) (qb : ∀ e ∈ b, cI e) : ∀ i : Nat, i ≤ b.length → ∀ out : List El, out.length ≤ 2097152 + i →
    aT Dn (kW o a b b.length i out) = some (.own (some T.aVQ) (out ++ (b.drop i).flatMap (aIm o a)), []) := by
  have hml : (1048576 : Nat) ≤ maxLen := by decide
  have hla : a.length ≤ maxLen := Nat.le_trans ha hml
  have hlb : b.length ≤ maxLen := Nat.le_trans hb hml
  refine bY ?_ ?_
  · intro out ho; rw [xN]; simp
  · intro i hi ih out ho
    have hro : out.length ≤ 4194304 := by omega
    obtain ⟨y, he, iy⟩ := (qb _ (List.getElem_mem hi)).st
    have next : ∀ out' : List El, out' = out ++ aIm o a b[i] → aT Dn (qG o a b b.length i out') = some (.own (some T.aVQ) (out ++ (b.drop i).flatMap (aIm o a)), []) := fun out' ho' => by
      subst ho'
      rw [aFe, bB (Nat.lt_of_lt_of_le hi hlb), ih _ (by have := aLA o a b[i]; rw [List.length_append]; omega), cY hi, List.flatMap_cons, List.append_assoc]
    have hin := aJx (s := y.a0) hla qa
    have nd : Dn F.aVL [.agg (oM.l ⟨y.a2, y.a3⟩)] [] = _ := aFZ iy.p.2.2.2.1
    have ad0 := fun (q : Bool) (code : Int) (s p : ByteArray) => pS (q := q) (code := code) (s := s) (p := p) hro
    have ad1 := fun (q q' : Bool) (code code' : Int) (s p s' p' : ByteArray) => pS (q := q) (code := code) (s := s) (p := p) (out := out ++ aA9 q' code' s' p') (by have := oL q' code' s' p'; rw [List.length_append]; omega)
    rw [xN]
    simp -implicitDefEqProofs only [Int.ofNat_lt, hi, decide_true, aF, Int.natCast_nonneg, Bool.and_true, Bool.and_self, Int.toNat_natCast, aD, aR fun e he => (qb e he).len, bI hi, he, bV.rd_l, hin, yD, nd, qV, aEV, ad0, ad1, gQ]
    have pb : aIm o a b[i] = if dL y.a0 0 a ≥ 0 then [] else [chg (if (nN y.a3 33 && !y.a4) = true then 8 else 20) o y.a0] := by
      rw [he]; rfl
    by_cases hk : dL y.a0 0 a ≥ 0
    · simp -implicitDefEqProofs only [hk, decide_true, aF]
      exact next _ (by rw [pb, if_pos hk]; simp)
    · simp -implicitDefEqProofs only [hk, decide_false, aG]
      rw [if_neg hk] at pb
      cases hn : nN y.a3 33 <;> cases hy : y.a4 <;> simp -implicitDefEqProofs only [beq_self_eq_true, aF, aG, Bool.not_true, Bool.not_false, if_true, Bool.false_eq_true, if_false, List.append_nil, show ((false : Bool) == true) = false from rfl] <;> exact next _ (by rw [pb, hn, hy]; simp [aA9])
theorem uL (ha : a.length ≤ 1048576) (hb : b.length ≤ 1048576) (qa : ∀ e ∈ a, cI e) (qb : ∀ e ∈ b, cI e) : Dn F.aUN [.leaf (.str o), vsl a, vsl b] [] = some (.own (some T.aVQ) (zM o a b), []) := by
  refine bH ?_
  rw [aGR]
  have h1 := aTY (o := o) ha hb qa qb 0 (Nat.zero_le _) [] (by simp)
  have hl := flatMap_len (fun x => aDE o b x) a
  have h2 := aTS (o := o) ha hb qa qb 0 (Nat.zero_le _) (a.flatMap (aA6 o b)) (by omega)
  simp only [List.drop_zero, List.nil_append] at h1 h2
  exact h1.trans h2
end
end Go.Vs.Old
end
section
open Go Go.Vs Go.Proofs
set_option linter.unusedVariables false
set_option linter.unusedSimpArgs false
namespace Go.Vs.Old
theorem d_addL {q : Bool} {code : Int} {s p : ByteArray} {out : List El} (hr : out.length ≤ 3390000000000) : Dn F.aUi [.ptr 0 0, aP q, aJ code, .leaf (.str s), .leaf (.str p)] [[.own (some T.aVQ) out]] =
    some (.tup [], [[.own (some T.aVQ) (out ++ aA9 q code s p)]]) := by
  refine bH ?_
  rw [wL]
  simp only [aBj (n := out.length) (k := 1) (by omega), Bool.and_true, aD, bZ]
  unfold aA9
  cases q
  · simp
  · simp only [if_true, chg]
theorem d_all {l out : List El} (hl : ∀ e ∈ l, dG e) (ho : out.length + l.length ≤ 3400000000000) : Dn F.aUk [.ptr 0 0, vsl l] [[.own (some T.aVQ) out]] = some (.tup [], [[.own (some T.aVQ) (out ++ l)]]) := by
  refine bH ?_
  rw [aEi]
  simp only [aBj ho, aR fun e he => (hl e he).len, Bool.and_self, aD]
section
variable {x y : aE}
def aSV : cQ := ⟨nul, nul, [], nul, nul, []⟩
theorem aR3 (hn : x.a3.size ≤ 1048576) (ha : x.a5.length ≤ 1048576) (hb : y.a5.length ≤ 1048576) (qa : ∀ e ∈ x.a5, FOk e) (qb : ∀ e ∈ y.a5, FOk e) : ∀ i : Nat, i ≤ x.a5.length → ∀ out : List El, out.length ≤ i * 3145729 →
    bW Dn (mQ x.a5 x.a5.length i x y out) = bW Dn (iN y.a5 y.a5.length 0 x (out ++ (x.a5.drop i).flatMap (fldA x.a3 y.a5))) := by
  have hml : (1048576 : Nat) ≤ maxLen := by decide
  have hla : x.a5.length ≤ maxLen := Nat.le_trans ha hml
  have hlb : y.a5.length ≤ maxLen := Nat.le_trans hb hml
  refine bY ?_ ?_
  · intro out ho; rw [sV]; simp
  · intro i hi ih out ho
    have hro : out.length + 3145729 ≤ 3390000000000 := by omega
    have hxi := qa _ (List.getElem_mem hi)
    have hlen := aC5 (nm := x.a3) hxi qb
    obtain ⟨u, he, iu⟩ := hxi.is.st
    have next : ∀ out' : List El, out' = out ++ fldA x.a3 y.a5 x.a5[i] → bW Dn (mT x.a5 x.a5.length i x y out') = bW Dn (iN y.a5 y.a5.length 0 x (out ++ (x.a5.drop i).flatMap (fldA x.a3 y.a5))) := fun out' ho' => by
      subst ho'
      rw [aBB, bB (Nat.lt_of_lt_of_le hi hla), ih _ (by rw [List.length_append]; omega), cY hi, List.flatMap_cons, List.append_assoc]
    have hin : Dn F.aVr [.agg y.l, .leaf (.str u.a0)] [] = some (.tup [.agg (fieldAt y.a5 u.a0), aP (!(decide (dL u.a0 0 y.a5 < 0)))], []) := aDB (s := u.a0) hlb (fun e he => (qb e he).is)
    have hx0 : u.a0.size ≤ 1048576 := by have := hxi.nm; rw [he] at this; exact this
    have hx2 : u.a2.length ≤ 1048576 := by have := hxi.args; rw [he] at this; exact this
    rw [sV]
    simp -implicitDefEqProofs only [Int.ofNat_lt, hi, decide_true, aF, Int.natCast_nonneg, Bool.and_true, Bool.and_self, Int.toNat_natCast, aD, aR fun e he => (qa e he).is.len, bI hi, he, cQ.rd_l, hin, Option.bind_some, nY, jH]
    by_cases hk : dL u.a0 0 y.a5 < 0
    · have ad := d_addL (q := true) (code := 4) (s := x.a3) (p := u.a0) (out := out) (by omega)
      have fa : fieldAt y.a5 u.a0 = aSV.l := by unfold fieldAt; rw [if_pos hk]; rfl
      rw [fa]
      simp -implicitDefEqProofs only [cQ.va_l, jH, aAG, kZ, hk, decide_true, Bool.not_true, Bool.not_false, aF, ad, gQ]
      refine next _ ?_
      rw [he]
      unfold fldA
      rw [show bC u.l 0 = u.a0 from rfl, if_pos hk]
      rfl
    · obtain ⟨j, hj, hjb⟩ := idx_get hk
      have hyj := qb _ (List.getElem_mem hjb)
      obtain ⟨v, hf, iv⟩ := hyj.is.st
      have hy2 : v.a2.length ≤ 1048576 := by have := hyj.args; rw [hf] at this; exact this
      have hjn : ¬ ((j : Int) < 0) := by omega
      have fa : fieldAt y.a5 u.a0 = v.l := by unfold fieldAt; rw [if_neg hk, hj, Int.toNat_natCast, bI hjb, hf]
      have pa : fldA x.a3 y.a5 x.a5[i] = aA9 (!(u.a3 == v.a3 && u.a4 == v.a4)) 5 x.a3 u.a0 ++ zM (x.a3 ++ dot ++ u.a0) u.a2 v.a2 := by
        rw [he]
        unfold fldA
        rw [show bC u.l 0 = u.a0 from rfl, if_neg hk, hj, Int.toNat_natCast, bI hjb, hf]
        rfl
      have hl1 := oL (!(u.a3 == v.a3 && u.a4 == v.a4)) 5 x.a3 u.a0
      have ad := d_addL (q := !(u.a3 == v.a3 && u.a4 == v.a4)) (code := 5) (s := x.a3) (p := u.a0) (out := out) (by omega)
      have hch := uL (o := x.a3 ++ dot ++ u.a0) hx2 hy2 iu.p.2.2.2.1 iv.p.2.2.2.1
      have hcl := inCh_len (x.a3 ++ dot ++ u.a0) u.a2 v.a2
      have al := d_all (l := zM (x.a3 ++ dot ++ u.a0) u.a2 v.a2) (out := out ++ aA9 (!(u.a3 == v.a3 && u.a4 == v.a4)) 5 x.a3 u.a0) xW (by rw [List.length_append]; omega)
      have z1 : decide (x.a3.size + (ByteArray.mk #[46]).size ≤ 140737488355328) = true := decide_eq_true (by show x.a3.size + 1 ≤ _; omega)
      have z2 : decide ((x.a3 ++ ByteArray.mk #[46]).size + u.a0.size ≤ 140737488355328) = true := decide_eq_true (by rw [ByteArray.size_append]; show x.a3.size + 1 + _ ≤ _; omega)
      have hkd : decide (dL u.a0 0 y.a5 < 0) = false := decide_eq_false hk
      rw [fa, hkd]
      simp -implicitDefEqProofs only [cQ.va_l, jH, aAG, kZ, Bool.not_true, Bool.not_false, aG, Bool.and_true, ad, gQ, z1, z2, aD, hch, mW, al]
      exact next _ (by rw [pa, List.append_assoc])
theorem aRL (ha : x.a5.length ≤ 1048576) (hb : y.a5.length ≤ 1048576) (qa : ∀ e ∈ x.a5, FOk e) (qb : ∀ e ∈ y.a5, FOk e) : ∀ i : Nat, i ≤ y.a5.length → ∀ out : List El, out.length ≤ 3298535931904 + i →
    bW Dn (iN y.a5 y.a5.length i x out) = some (.own (some T.aVQ) (out ++ (y.a5.drop i).flatMap (fldB x.a3 x.a5)), []) := by
  have hml : (1048576 : Nat) ≤ maxLen := by decide
  have hla : x.a5.length ≤ maxLen := Nat.le_trans ha hml
  have hlb : y.a5.length ≤ maxLen := Nat.le_trans hb hml
  refine bY ?_ ?_
  · intro out ho; rw [sX]; simp
  · intro i hi ih out ho
    obtain ⟨u, he, iu⟩ := (qb _ (List.getElem_mem hi)).is.st
    have hin : Dn F.aVr [.agg x.l, .leaf (.str u.a0)] [] = some (.tup [.agg (fieldAt x.a5 u.a0), aP (!(decide (dL u.a0 0 x.a5 < 0)))], []) := aDB (s := u.a0) hla (fun e he => (qa e he).is)
    have hst : ∃ z : cQ, fieldAt x.a5 u.a0 = z.l := by
      by_cases hk : dL u.a0 0 x.a5 < 0
      · exact ⟨aSV, by unfold fieldAt; rw [if_pos hk]; rfl⟩
      · obtain ⟨j, hj, hjb⟩ := idx_get hk
        obtain ⟨v, hf, iv⟩ := (qa _ (List.getElem_mem hjb)).is.st
        exact ⟨v, by unfold fieldAt; rw [if_neg hk, hj, Int.toNat_natCast, bI hjb, hf]⟩
    obtain ⟨z, hz⟩ := hst
    have ad := d_addL (q := decide (dL u.a0 0 x.a5 < 0)) (code := 18) (s := x.a3) (p := u.a0) (out := out) (by omega)
    have hl1 := oL (decide (dL u.a0 0 x.a5 < 0)) 18 x.a3 u.a0
    rw [sX]
    simp -implicitDefEqProofs only [Int.ofNat_lt, hi, decide_true, aF, Int.natCast_nonneg, Bool.and_true, Bool.and_self, Int.toNat_natCast, aD, aR fun e he => (qb e he).is.len, bI hi, he, cQ.rd_l, hin, Option.bind_some, nY, jH, hz, cQ.va_l, aAG, kZ, Bool.not_not, ad, gQ, bB (Nat.lt_of_lt_of_le hi hlb)]
    rw [ih _ (by rw [List.length_append]; omega), cY hi, List.flatMap_cons, he, List.append_assoc]
    unfold fldB aA9
    rw [show bC u.l 0 = u.a0 from rfl]
    by_cases hk : dL u.a0 0 x.a5 < 0
    · simp [hk]
    · simp [hk]
theorem aFb (hn : x.a3.size ≤ 1048576) (ha : x.a5.length ≤ 1048576) (hb : y.a5.length ≤ 1048576) (qa : ∀ e ∈ x.a5, FOk e) (qb : ∀ e ∈ y.a5, FOk e) :
    Dn F.aUh [.agg x.l, .agg y.l] [] = some (.own (some T.aVQ) (fldCh x.a3 x.a5 y.a5), []) := by
  refine bH ?_
  rw [aCL]
  have h1 := aR3 (x := x) (y := y) hn ha hb qa qb 0 (Nat.zero_le _) [] (by simp)
  have hl : (x.a5.flatMap (fldA x.a3 y.a5)).length ≤ 3145729 * x.a5.length := flatMap_lenM fun e he => aC5 (qa e he) qb
  have h2 := aRL (x := x) (y := y) ha hb qa qb 0 (Nat.zero_le _) (x.a5.flatMap (fldA x.a3 y.a5)) (by omega)
  simp only [List.drop_zero, List.nil_append] at h1 h2
  exact h1.trans h2
end
end Go.Vs.Old
end
section
open Go Go.Vs Go.Proofs
set_option linter.unusedVariables false
set_option linter.unusedSimpArgs false
namespace Go.Vs.Old
section
variable {x y : aE} {o : ByteArray}
abbrev XOk (x : aE) : Prop := DOk x.a3 x.a4 x.a5 x.a6 x.a7
theorem aPA {q : Bool} {code : Int} : rep code o q = aA9 q code o nul := rfl
theorem aMu (hx : XOk x) (hy : XOk y) {out : List El} (ho : out.length ≤ 4000000) :
    aZ Dn (pC o x y out) = some (.own (some T.aVQ) (out ++ zM o x.a6 y.a6), []) := by
  have hcl := inCh_len o x.a6 y.a6
  have l6 := hx.l6
  have m6 := hy.l6
  rw [aDr]
  simp -implicitDefEqProofs only [uL hx.l6 hy.l6 hx.q6 hy.q6, mW, d_all (l := zM o x.a6 y.a6) (out := out) xW (by omega), gQ, hU]
theorem aRb (hx : XOk x) (hy : XOk y) {out : List El} (ho : out.length ≤ 3500000) :
    aZ Dn (oS o x y out) = some (.own (some T.aVQ) (out ++ (rep 27 o (!x.a9 && y.a9) ++ zM o x.a6 y.a6)), []) := by
  have ad := fun q => d_addL (q := q) (code := 27) (s := o) (p := nul) (out := out) (by omega)
  have al := fun q => oL q 27 o nul
  rw [aDM]
  simp -implicitDefEqProofs only [ad, gQ]
  rw [aMu hx hy (by have := al y.a9; rw [List.length_append]; omega), aMu hx hy (by have := al false; rw [List.length_append]; omega), aPA, List.append_assoc, List.append_assoc]
  cases x.a9 <;> rfl
theorem aMV (hx : XOk x) (hy : XOk y) {out : List El} (ho : out.length ≤ 1) {q : Bool} (hq : q = (x.a0 == 2 || x.a0 == 3)) :
    aZ Dn (oT o x.a0 q x y out) = some (.own (some T.aVQ) (out ++ tailCh o x.a3 x.a0 x.a9 y.a9 x.a4 x.a5 x.a6 x.a7 y.a4 y.a5 y.a6 y.a7), []) := by
  have x4 := hx.l4; have x5 := hx.l5; have x6 := hx.l6; have x7 := hx.l7
  have y4 := hy.l4; have y5 := hy.l5; have y6 := hy.l6; have y7 := hy.l7
  have nl := fun g f => nameCh_len o x.a4 y.a4 g f
  have vl := nameCh_len o (vals x.a7) (vals y.a7) 10 22
  rw [vals_len, vals_len] at vl
  have fcl := aMy (nm := x.a3) hx.l5 hy.l5 hx.q5 hy.q5
  have il := inCh_len o x.a6 y.a6
  have na := fun g f => d_all (l := nA o x.a4 y.a4 g f) (out := out) pT (by have := nl g f; omega)
  have tn := fun g f => yH (o := o) (gone := g) (fresh := f) hx.l4 hy.l4 hx.q4 hy.q4
  subst hq
  rw [aC3, bZ]
  unfold tailCh
  by_cases h23 : (x.a0 == 2 || x.a0 == 3) = true
  · rw [if_pos h23, if_pos h23]
    have fa := d_all (l := fldCh x.a3 x.a5 y.a5) (out := out ++ nA o x.a4 y.a4 12 24) aIF (by have := nl 12 24; rw [List.length_append]; omega)
    simp -implicitDefEqProofs only [tn, na, fa, mW, gQ, aFb hx.nm hx.l5 hy.l5 hx.q5 hy.q5, hU, List.append_assoc]
  · rw [if_neg h23, if_neg h23, bZ]
    by_cases h4 : (x.a0 == 4) = true
    · rw [if_pos h4, if_pos h4]
      simp -implicitDefEqProofs only [tn, na, mW, gQ, hU]
    · rw [if_neg h4, if_neg h4, bZ]
      by_cases h5 : (x.a0 == 5) = true
      · rw [if_pos h5, if_pos h5]
        have vn := yH (o := o) (gone := 10) (fresh := 22) (a := vals x.a7) (b := vals y.a7) (by rw [vals_len]; exact x7) (by rw [vals_len]; exact y7) (aHQ hx.q7) (aHQ hy.q7)
        have va := d_all (l := nA o (vals x.a7) (vals y.a7) 10 22) (out := out) pT (by omega)
        simp -implicitDefEqProofs only [zX hx.l7 hx.q7, zX hy.l7 hy.q7, vn, va, mW, gQ, hU]
      · rw [if_neg h5, if_neg h5, bZ]
        by_cases h6 : (x.a0 == 6) = true
        · rw [if_pos h6, if_pos h6]
          simp -implicitDefEqProofs only [uL hx.l6 hy.l6 hx.q6 hy.q6, d_all (l := zM o x.a6 y.a6) (out := out) xW (by omega), mW, gQ, hU]
        · rw [if_neg h6, if_neg h6, bZ]
          by_cases h7 : (x.a0 == 7) = true
          · rw [if_pos h7, if_pos h7]
            have ol : (out ++ nA o x.a4 y.a4 14 26).length ≤ 3000000 := by have := nl 14 26; rw [List.length_append]; omega
            have ad := fun q => d_addL (q := q) (code := 15) (s := o) (p := nul) (out := out ++ nA o x.a4 y.a4 14 26) (by omega)
            have t3' := fun q => aRb (o := o) hx hy (out := out ++ nA o x.a4 y.a4 14 26 ++ aA9 q 15 o nul) (by have := oL q 15 o nul; rw [List.length_append]; omega)
            simp -implicitDefEqProofs only [tn, na, mW, gQ, ad, t3']
            rw [aPA (code := 15)]
            cases x.a9 <;> simp -implicitDefEqProofs only [beq_self_eq_true, show ((false : Bool) == true) = false from rfl, aF, aG, Bool.true_and, Bool.false_and, List.append_assoc]
          · rw [if_neg h7, if_neg h7, hU, List.append_nil]
theorem d_impl_DefChanges (hx : XOk x) (hy : XOk y) : Dn F.aUF [.agg x.l, .agg y.l] [] = some (.own (some T.aVQ) (defCh x.l y.l), []) := by
  have z : decide ((ByteArray.mk #[64]).size + x.a3.size ≤ 140737488355328) = true := decide_eq_true (by have := hx.nm; show 1 + _ ≤ _; omega)
  have s0 : ∀ o : ByteArray, aZ Dn (oX o x y) = some (.own (some T.aVQ) (rep 28 o (!(x.a2.toList == y.a2.toList)) ++ tailCh o x.a3 x.a0 x.a9 y.a9 x.a4 x.a5 x.a6 x.a7 y.a4 y.a5 y.a6 y.a7), []) := fun o => by
    have ad := d_addL (q := !(x.a2.toList == y.a2.toList)) (code := 28) (s := o) (p := nul) (out := []) (by simp)
    have hl := oL (!(x.a2.toList == y.a2.toList)) 28 o nul
    simp only [List.nil_append] at ad
    rw [aDR]
    simp -implicitDefEqProofs only [ad, gQ]
    rw [bZ, aPA]
    by_cases h2 : (x.a0 == 2) = true
    · rw [if_pos h2]
      exact aMV hx hy hl (by rw [h2]; rfl)
    · rw [if_neg h2]
      exact aMV hx hy hl (by rw [Bool.not_eq_true] at h2; rw [h2]; rfl)
  have ad3 := d_addL (q := true) (code := 3) (s := x.a3) (p := nul) (out := []) (by simp)
  simp only [List.nil_append] at ad3
  refine bH ?_
  rw [aE0, s0, s0, z, aD, bZ, bZ]
  have hd : defCh x.l y.l = if (x.a0 != y.a0) = true then [chg 3 x.a3 nul] else rep 28 (dirNm x.a0 x.a3) (!(x.a2.toList == y.a2.toList)) ++ tailCh (dirNm x.a0 x.a3) x.a3 x.a0 x.a9 y.a9 x.a4 x.a5 x.a6 x.a7 y.a4 y.a5 y.a6 y.a7 := rfl
  rw [hd]
  unfold dirNm
  by_cases h : (x.a0 != y.a0) = true
  · rw [if_pos h, if_pos h]
    simp -implicitDefEqProofs only [ad3, gQ]
    rfl
  · rw [if_neg h, if_neg h]
    by_cases h7 : (x.a0 == 7) = true
    · rw [if_pos h7, if_pos h7]
    · rw [if_neg h7, if_neg h7]
end
end Go.Vs.Old
end
section
set_option linter.unusedVariables false
namespace Go.Vs
def aGa (l : List El) : Prop := l.Pairwise fun a b => key a < key b
theorem aTz {a b : List UInt8} (h : a ≤ b) (hn : a ≠ b) : a < b := Decidable.byContradiction fun hc => hn (leA h (ltI.1 hc))
theorem ltT {a b c : List UInt8} (h : a < b) (k : b ≤ c) : a < c := Decidable.byContradiction fun hc => ltI.2 (leT k (ltI.1 hc)) h
theorem aTP {a b c : List UInt8} (h : a ≤ b) (k : b < c) : a < c := Decidable.byContradiction fun hc => ltI.2 (leT (ltI.1 hc) h) k
theorem aTG {a b : List UInt8} (h : a < b) : a ≤ b := List.le_of_lt h
theorem ltN (a : List UInt8) : ¬ a < a := ltI.2 (leR a)
theorem aAo {out : List El} {x : El} (h : aGa out) (hx : ∀ o ∈ out, key o ≤ key x) : aGa (tV out x) := by
  unfold tV
  split
  · exact h
  · rename_i hl
    refine List.pairwise_append.2 ⟨h, by simp, fun a ha b hb => ?_⟩
    rw [List.mem_singleton.1 hb]
    refine aTz (hx a ha) fun he => hl ?_
    rcases List.eq_nil_or_concat out with rfl | ⟨l0, z, rfl⟩
    · simp at ha
    · have hz := hx z (by simp)
      rw [List.concat_eq_append, List.getLast?_append]
      simp only [List.getLast?_singleton, Option.some_or, Option.map_some, Option.some.injEq]
      rw [List.concat_eq_append] at ha h
      rcases List.mem_append.1 ha with h1 | h1
      · have := (List.pairwise_append.1 h).2.2 a h1 z (by simp)
        exact leA hz (by rw [← he]; exact aTG this)
      · rw [← List.mem_singleton.1 h1]; exact he
theorem aPI : ∀ (n : Nat) (xs ys out : List El), xs.length + ys.length = n → rZ xs → rZ ys → aGa out → (∀ o ∈ out, ∀ x ∈ xs, key o ≤ key x) → (∀ o ∈ out, ∀ y ∈ ys, key o ≤ key y) → aGa (fin xs ys out) := by
  intro n
  induction n using Nat.strongRecOn with
  | ind n ih =>
    intro xs ys out hn hx hy ho h1 h2
    match xs, ys with
    | [], [] => unfold fin; exact ho
    | x :: xs, [] =>
      unfold fin
      have hx' := List.pairwise_cons.1 hx
      exact ih (xs.length + 0) (by simp at hn; omega) xs [] (tV out x) rfl hx'.2 hy (aAo ho fun o h => h1 o h x (by simp)) (fun o h z hz => by
        rcases jP h with h | rfl
        · exact h1 o h z (by simp [hz])
        · exact hx'.1 z hz) (fun o h z hz => by simp at hz)
    | [], y :: ys =>
      unfold fin
      have hy' := List.pairwise_cons.1 hy
      exact ih (0 + ys.length) (by simp at hn; omega) [] ys (tV out y) rfl hx hy'.2 (aAo ho fun o h => h2 o h y (by simp)) (fun o h z hz => by simp at hz) (fun o h z hz => by
        rcases jP h with h | rfl
        · exact h2 o h z (by simp [hz])
        · exact hy'.1 z hz)
    | x :: xs, y :: ys =>
      have hx' := List.pairwise_cons.1 hx
      have hy' := List.pairwise_cons.1 hy
      unfold fin
      by_cases hc : key x ≤ key y
      · rw [if_pos hc]
        exact ih (xs.length + (y :: ys).length) (by simp at hn ⊢; omega) xs (y :: ys) (tV out x) rfl hx'.2 hy (aAo ho fun o h => h1 o h x (by simp)) (fun o h z hz => by
          rcases jP h with h | rfl
          · exact h1 o h z (by simp [hz])
          · exact hx'.1 z hz) (fun o h z hz => by
          rcases jP h with h | rfl
          · exact h2 o h z hz
          · rcases List.mem_cons.1 hz with rfl | hz
            · exact hc
            · exact leT hc (hy'.1 z hz))
      · rw [if_neg hc]
        have hc' := leN hc
        exact ih ((x :: xs).length + ys.length) (by simp at hn ⊢; omega) (x :: xs) ys (tV out y) rfl hx hy'.2 (aAo ho fun o h => h2 o h y (by simp)) (fun o h z hz => by
          rcases jP h with h | rfl
          · exact h1 o h z hz
          · rcases List.mem_cons.1 hz with rfl | hz
            · exact hc'
            · exact leT hc' (hx'.1 z hz)) (fun o h z hz => by
          rcases jP h with h | rfl
          · exact h2 o h z (by simp [hz])
          · exact hy'.1 z hz)
theorem aKI : ∀ {a b : List (List UInt8)}, a.Pairwise (· < ·) → b.Pairwise (· < ·) → (∀ s, s ∈ a ↔ s ∈ b) → a = b
  | [], [], _, _, _ => rfl
  | [], y :: b, _, _, h => by have := (h y).2 (by simp); simp at this
  | x :: a, [], _, _, h => by have := (h x).1 (by simp); simp at this
  | x :: a, y :: b, ha, hb, h => by
    have ha' := List.pairwise_cons.1 ha
    have hb' := List.pairwise_cons.1 hb
    have hxy : x = y := by
      rcases List.mem_cons.1 ((h x).1 (by simp)) with e | hm
      · exact e
      · rcases List.mem_cons.1 ((h y).2 (by simp)) with e | hm2
        · exact e.symm
        · exact absurd (ltT (hb'.1 x hm) (aTG (ha'.1 y hm2))) (ltN y)
    subst hxy
    rw [aKI ha'.2 hb'.2 fun s => ?_]
    constructor
    · intro hs
      rcases List.mem_cons.1 ((h s).1 (by simp [hs])) with e | hm
      · subst e; exact absurd (ha'.1 s hs) (ltN s)
      · exact hm
    · intro hs
      rcases List.mem_cons.1 ((h s).2 (by simp [hs])) with e | hm
      · subst e; exact absurd (hb'.1 s hs) (ltN s)
      · exact hm
theorem aNo {d : Array (List UInt8)} (hd : ∀ i j, i ≤ j → j < d.size → d[i]! ≤ d[j]!) : ∀ m, m ≤ d.size → (Lib.compactUpTo d m).Pairwise (· < ·) ∧ (∀ x ∈ Lib.compactUpTo d m, ∃ j, j < m ∧ x = d[j]!) ∧ ∀ j, j < m → d[j]! ∈ Lib.compactUpTo d m := by
  intro m
  induction m with
  | zero => intro _; refine ⟨by simp [Lib.compactUpTo], by simp [Lib.compactUpTo], fun j hj => by omega⟩
  | succ m ih =>
    intro hm
    obtain ⟨h1, h2, h3⟩ := ih (by omega)
    rw [Lib.compactUpTo_succ]
    by_cases hk : Lib.keeps d m = true
    · rw [if_pos hk]
      refine ⟨List.pairwise_append.2 ⟨h1, by simp, fun x hx y hy => ?_⟩, fun x hx => ?_, fun j hj => ?_⟩
      · rw [List.mem_singleton.1 hy]
        obtain ⟨j, hj, rfl⟩ := h2 x hx
        have hne : d[m]! ≠ d[m - 1]! := by
          intro he
          have := Lib.keeps_neg (d := d) (m := m) (by omega) he
          rw [this] at hk; exact absurd hk (by simp)
        exact aTP (hd j (m - 1) (by omega) (by omega)) (aTz (hd (m - 1) m (by omega) (by omega)) (Ne.symm hne))
      · rcases List.mem_append.1 hx with hx | hx
        · obtain ⟨j, hj, e⟩ := h2 x hx; exact ⟨j, by omega, e⟩
        · exact ⟨m, by omega, List.mem_singleton.1 hx⟩
      · by_cases hjm : j = m
        · subst hjm; simp
        · exact List.mem_append_left _ (h3 j (by omega))
    · rw [if_neg hk, List.append_nil]
      have hm0 : 0 < m := Nat.pos_of_ne_zero fun h0 => hk (Lib.keeps_lt_one d m (by omega))
      have he : d[m]! = d[m - 1]! := Decidable.byContradiction fun hne => hk (Lib.keeps_pos hne)
      refine ⟨h1, fun x hx => ?_, fun j hj => ?_⟩
      · obtain ⟨j, hj, e⟩ := h2 x hx; exact ⟨j, by omega, e⟩
      · by_cases hjm : j = m
        · subst hjm; rw [he]; exact h3 _ (by omega)
        · exact h3 j (by omega)
theorem aDO (zs : List (List UInt8)) : (Lib.compact (zs.mergeSort fun x y => decide (x ≤ y))).Pairwise (· < ·) ∧ ∀ s, s ∈ Lib.compact (zs.mergeSort fun x y => decide (x ≤ y)) ↔ s ∈ zs := by
  have hs : (zs.mergeSort fun x y => decide (x ≤ y)).Pairwise fun a b => (decide (a ≤ b)) = true := List.pairwise_mergeSort (fun a b c h k => by simp only [decide_eq_true_eq] at *; exact leT h k) (fun a b => by
    rcases List.le_total a b with h | h <;> simp [h]) zs
  have hmem : ∀ s, s ∈ zs.mergeSort (fun x y => decide (x ≤ y)) ↔ s ∈ zs := fun s => List.mem_mergeSort
  generalize zs.mergeSort (fun x y => decide (x ≤ y)) = l at hs hmem
  have hget : ∀ i, (h : i < l.length) → l.toArray[i]! = l[i] := fun i h => by rw [getElem!_pos _ i (by simpa using h)]; simp
  obtain ⟨h1, h2, h3⟩ := aNo (d := l.toArray) (fun i j hij hj => by
    have hj' : j < l.length := by simpa using hj
    rw [hget i (by omega), hget j hj']
    rcases Nat.lt_or_ge i j with h | h
    · exact of_decide_eq_true (List.pairwise_iff_getElem.1 hs i j (by omega) hj' h)
    · have : i = j := by omega
      subst this; exact leR _) l.length (by simp)
  refine ⟨h1, fun s => ?_⟩
  rw [← hmem]
  constructor
  · intro h
    obtain ⟨j, hj, rfl⟩ := h2 s h
    rw [hget j hj]; exact List.getElem_mem hj
  · intro h
    obtain ⟨j, hj, rfl⟩ := List.getElem_of_mem h
    rw [← hget j hj]; exact h3 j hj
end Go.Vs
end
section
open Go Go.Vs Go.Proofs
set_option linter.unusedVariables false
set_option linter.unusedSimpArgs false
namespace Go.Vs.Old
theorem sorted_st : ∀ (n : Nat) (es : List El), es.length = n → es.length ≤ 1048576 → (∀ e ∈ es, dP e) → ∃ r, Dn F.aUO [vsl es] [] = some (.own (some T.aWl) r, []) ∧ aEB es r ∧ aGa r := by
  intro n
  induction n using Nat.strongRecOn with
  | ind n ih =>
    intro es hn hl q
    have hml : (1048576 : Nat) ≤ maxLen := by decide
    have hsz := aR (fun e he => (q e he).len)
    by_cases h2 : es.length < 2
    · have h2' : ((es.length : Nat) : Int) < 2 := by omega
      refine ⟨es, ?_, ⟨?_, fun s => Iff.rfl, Nat.le_refl _, fun e he => he⟩, ?_⟩
      · refine bH ?_
        rw [oI]
        have hb : aH = 140737488355328 := rfl
        have : decide ((0 + es.length) * 16 ≤ aH) = true := decide_eq_true (by omega)
        simp only [h2', decide_true, aF, this, hsz, Bool.and_self, aD, List.nil_append]
      · unfold rZ
        match es, h2 with
        | [], _ => exact List.Pairwise.nil
        | [x], _ => simp
      · unfold aGa
        match es, h2 with
        | [], _ => exact List.Pairwise.nil
        | [x], _ => simp
    · have h2' : ¬ ((es.length : Nat) : Int) < 2 := by omega
      have hd : IntKind.i64.wrap ((es.length : Int).tdiv 2) = ((es.length / 2 : Nat) : Int) := by
        have hm : maxLen = 9223372036854775807 := rfl
        rw [Int.tdiv_eq_ediv_of_nonneg (by omega), nZ (by omega) (by omega)]; omega
      have hle : es.length / 2 ≤ es.length := Nat.div_le_self _ _
      obtain ⟨r1, k1, o1, _⟩ := ih (es.take (es.length / 2)).length (by rw [List.length_take]; omega) (es.take (es.length / 2)) rfl (by rw [List.length_take]; omega) (fun e he => q e (List.mem_of_mem_take he))
      obtain ⟨r2, k2, o2, _⟩ := ih (es.drop (es.length / 2)).length (by rw [List.length_drop]; omega) (es.drop (es.length / 2)) rfl (by rw [List.length_drop]; omega) (fun e he => q e (List.mem_of_mem_drop he))
      have l1 : r1.length ≤ 1048576 := by have := o1.len; rw [List.length_take] at this; omega
      have l2 : r2.length ≤ 1048576 := by have := o2.len; rw [List.length_drop] at this; omega
      have m := aKV l1 l2 (fun e he => q e (List.mem_of_mem_take (o1.sub e he))) (fun e he => q e (List.mem_of_mem_drop (o2.sub e he))) _ 0 0 [] rfl (Nat.zero_le _) (Nat.zero_le _) (by simp) (by simp)
      have j := aMo _ r1 r2 [] rfl o1.up o2.up List.Pairwise.nil (by simp) (by simp)
      simp only [List.drop_zero] at m
      refine ⟨fin r1 r2 [], ?_, ⟨j.up, fun s => ?_, ?_, fun e he => ?_⟩, aPI _ r1 r2 [] rfl o1.up o2.up List.Pairwise.nil (by simp) (by simp)⟩
      · refine bH ?_
        rw [oI]
        simp -implicitDefEqProofs only [h2', decide_false, aG, hd, Int.natCast_nonneg, decide_true, Int.toNat_natCast, Option.getD_some, Option.getD_none, hle, Nat.le_refl, hsz, Bool.and_self, Bool.true_and, Bool.and_true, aD, List.drop_zero, k1, Option.bind_some, dQ, List.take_length]
        rw [show Dn F.aUO [SV.leaf (aA.sl (Fl.later PUnit.unit (some (es.length / 2))) (es.drop (es.length / 2)))] [] = _ from k2]
        simp only [Option.bind_some, dQ]
        exact m
      · rw [j.mem]
        simp only [List.not_mem_nil, false_and, exists_false, false_or]
        rw [o1.mem, o2.mem]
        constructor
        · rintro (⟨e, he, hs⟩ | ⟨e, he, hs⟩)
          · exact ⟨e, List.mem_of_mem_take he, hs⟩
          · exact ⟨e, List.mem_of_mem_drop he, hs⟩
        · rintro ⟨e, he, hs⟩
          rw [← List.take_append_drop (es.length / 2) es] at he
          rcases List.mem_append.1 he with he | he
          · exact .inl ⟨e, he, hs⟩
          · exact .inr ⟨e, he, hs⟩
      · have := j.len; have := o1.len; have := o2.len
        rw [List.length_take] at *; rw [List.length_drop] at *
        simp at *; omega
      · rcases j.sub e he with h | h | h
        · simp at h
        · exact List.mem_of_mem_take (o1.sub e h)
        · exact List.mem_of_mem_drop (o2.sub e h)
end Go.Vs.Old
end
section
open Go Go.Vs Go.Proofs
set_option linter.unusedVariables false
set_option linter.unusedSimpArgs false
set_option maxRecDepth 100000
namespace Go.Vs.Old
def rowN (l : List (List UInt8)) : List El := l.map fun n => [.str (bsB n)]
theorem rowN_len (l : List (List UInt8)) : (rowN l).length = l.length := by simp [rowN]
theorem aRU (l : List (List UInt8)) : aCx (rowN l) = nL l := by
  unfold aCx rowN nL
  induction l with
  | nil => rfl
  | cons a l ih => simp only [List.map_cons, List.flatten_cons, List.map_append] at ih ⊢; rw [ih]; rfl
theorem aPu (l : List (List UInt8)) : cN (nL l) = some (l.map fun n => (.str (bsB n) : aA false)) := by
  have : nL l = (l.map fun n => (.str (bsB n) : aA false)).map SV.leaf := by simp [nL]
  rw [this]; exact aBw _
theorem aRc (l : List (List UInt8)) : jN 1 l.length (l.map fun n => (.str (bsB n) : aA false)) = rowN l := by
  induction l with
  | nil => rfl
  | cons a l ih => simp only [List.length_cons, List.map_cons, jN, List.take_succ_cons, List.take_zero, List.drop_succ_cons, List.drop_zero, rowN] at ih ⊢; rw [ih]
theorem aN7 {a b : List (List UInt8)} (h : nL a = nL b) : a = b := by
  induction a generalizing b with
  | nil => cases b with
    | nil => rfl
    | cons y b => simp [nL] at h
  | cons x a ih => cases b with
    | nil => simp [nL] at h
    | cons y b =>
      simp only [nL, List.map_cons, List.cons.injEq, SV.leaf.injEq, aA.str.injEq] at h
      have h1 : x = y := congrArg (fun s : ByteArray => s.data.toList) h.1
      rw [h1, ih h.2]
theorem aTl {l : List (List UInt8)} (h : l.length ≤ 1000000) : Dn F.aUc [.bsl 0 1 0 l.length] [nL l] = some (.tup [], [nL (nG l)]) := by
  refine aHM (T := aLV) (t := aMU) (by unfold aLV; rw [if_neg (by decide)]; exact if_pos rfl) ?_
  unfold aMU
  have hex : ∃ xs, nL l = nL xs ∧ l.length = xs.length ∧ xs.length ≤ 1000000 := ⟨l, rfl, rfl, h⟩
  refine Eq.trans (dif_pos hex) ?_
  rw [← aN7 hex.choose_spec.1]
theorem aQr {l : List (List UInt8)} (h : l.length ≤ 1000000) : Dn F.aT9 [.bsl 0 1 0 l.length] [nL l] = some (.bsl 0 1 0 (Lib.compact l).length, [nL (aCl l)]) := by
  refine aHM (T := aLV) (t := aAS) (by unfold aLV; rw [if_neg (by decide), if_neg (by decide)]; exact if_pos rfl) ?_
  unfold aAS
  have hex : ∃ xs, nL l = nL xs ∧ l.length = xs.length ∧ xs.length ≤ 1000000 := ⟨l, rfl, rfl, h⟩
  refine Eq.trans (dif_pos hex) ?_
  rw [← aN7 hex.choose_spec.1]
theorem aTB : iDf.bytes = 200 := by kernel_rfl
theorem aRM {es : List El} (hl : es.length ≤ 1048576) (hq : ∀ e ∈ es, dV e) : Dn F.aT5 [vsl es] [] = some (.own (some T.aWj) es, []) := by
  have hb : aH = 140737488355328 := rfl
  refine aHM (T := aLV) (t := aIl Tryz.prog T.aWj iDf false) (by unfold aLV; exact if_pos rfl) ?_
  show (if es.length * iDf.bytes ≤ aH ∧ sized iDf.size es = true then some (SV.mkO (m := false) false (some T.aWj) es, []) else none) = _
  rw [if_pos ⟨by rw [aTB]; omega, by rw [aTy]; exact aR fun e he => (hq e he).len⟩]
  rfl
def defNames (es : List El) : List (List UInt8) := es.map fun e => (bC e 3).data.toList
def namesOf (a b : List El) : List (List UInt8) := Lib.compact (nG (defNames (a ++ b)))
theorem d_impl_dirNames {x y : cT} (hx : bX x.l) (hy : bX y.l) (lx : x.a1.length ≤ 400000) (ly : y.a1.length ≤ 400000) :
    Dn F.aVc [.agg x.l, .agg y.l] [] = some (vsl (rowN (namesOf x.a1 y.a1)), []) := by
  have hb : aH = 140737488355328 := rfl
  have hm : (1048576 : Nat) ≤ maxLen := by decide
  have qx : ∀ e ∈ x.a1, dV e := hx.p.2.2.2.1
  have qy : ∀ e ∈ y.a1, dV e := hy.p.2.2.2.1
  have q : ∀ e ∈ x.a1 ++ y.a1, dV e := fun e he => (List.mem_append.1 he).elim (qx e) (qy e)
  have hl : (x.a1 ++ y.a1).length ≤ 800000 := by rw [List.length_append]; omega
  have loop : ∀ i : Nat, i ≤ (x.a1 ++ y.a1).length → iT Dn (rL (rowN (defNames ((x.a1 ++ y.a1).take i))) (x.a1 ++ y.a1) (x.a1 ++ y.a1).length i x y) = some (vsl (rowN (namesOf x.a1 y.a1)), []) := by
    refine bY ?_ ?_
    · have hn : (defNames ((x.a1 ++ y.a1).take (x.a1 ++ y.a1).length)) = defNames (x.a1 ++ y.a1) := by rw [List.take_length]
      have hlen : (defNames (x.a1 ++ y.a1)).length ≤ 1000000 := by unfold defNames; rw [List.length_map]; omega
      have hr : (nG (defNames (x.a1 ++ y.a1))).length = (defNames (x.a1 ++ y.a1)).length := zK _
      have c1 := aTl hlen
      have c2 := aQr (l := nG (defNames (x.a1 ++ y.a1))) (by rw [hr]; exact hlen)
      rw [hr] at c2
      have f1 : ∀ l : List (List UInt8), ([nL l].all fun (x : List (SV false)) => x.all SV.flat) = true := fun l => by
        simp only [List.all_cons, List.all_nil, Bool.and_true, List.all_eq_true]; exact aIT l
      have hole := aMR (nG (defNames (x.a1 ++ y.a1)))
      have hcl := zD (nG (defNames (x.a1 ++ y.a1)))
      have ht : (nL (aCl (nG (defNames (x.a1 ++ y.a1))))).take (Lib.compact (nG (defNames (x.a1 ++ y.a1)))).length = nL (Lib.compact (nG (defNames (x.a1 ++ y.a1)))) := by
        unfold nL aCl
        rw [List.map_append, List.take_left' (by rw [List.length_map])]
      rw [hn, yR]
      simp -implicitDefEqProofs only [show ¬ (((x.a1 ++ y.a1).length : Int) < (x.a1 ++ y.a1).length) from by omega, decide_false, aG, aRU, rowN_len, f1, aD, c1, c2, Option.bind_some, sB, nK, nY, kZ]
      rw [show ∀ f : Nat → Nat → Ret false, aDp 0 1 (.bsl 0 1 0 (Lib.compact (nG (defNames (x.a1 ++ y.a1)))).length) f = f 0 (Lib.compact (nG (defNames (x.a1 ++ y.a1)))).length from fun f => by simp [aDp]]
      simp -implicitDefEqProofs only [beq_self_eq_true, Bool.and_true, aD, Nat.mul_one, aLl, hole, hcl, decide_true, ht, aPu, Option.bind_some, aRc]
      rfl
    · intro i hi ih
      obtain ⟨u, hu, iu⟩ := (q _ (List.getElem_mem hi)).st
      have hl5 : (defNames ((x.a1 ++ y.a1).take i)).length ≤ 800000 := by unfold defNames; rw [List.length_map, List.length_take]; omega
      have hr : decide (((rowN (defNames ((x.a1 ++ y.a1).take i))).length + 1) * 16 ≤ aH) = true := decide_eq_true (by rw [rowN_len]; omega)
      have hn : rowN (defNames ((x.a1 ++ y.a1).take (i + 1))) = rowN (defNames ((x.a1 ++ y.a1).take i)) ++ [[.str u.a3]] := by
        unfold rowN defNames
        rw [List.take_succ_eq_append_getElem hi, List.map_append, List.map_append, hu]
        rfl
      rw [hn] at ih
      rw [yR]
      simp -implicitDefEqProofs only [Int.ofNat_lt, hi, decide_true, aF, Int.natCast_nonneg, Bool.and_true, Bool.and_self, Int.toNat_natCast, aD, aR fun e he => (q e he).len, bI hi, hu, aE.rd_l, hr, bB (show i < maxLen by omega)]
      exact ih
  refine bH ?_
  have hc := aRM (es := x.a1) (by omega) qx
  have hz : decide ((x.a1.length + y.a1.length) * 200 ≤ aH) = true := decide_eq_true (by omega)
  rw [aHm]
  simp -implicitDefEqProofs only [hc, mW, hz, aR fun e he => (qy e he).len, Bool.and_self, aD]
  exact loop 0 (Nat.zero_le _)
end Go.Vs.Old
end
section
open Go Go.Vs Go.Proofs
set_option linter.unusedVariables false
set_option linter.unusedSimpArgs false
namespace Go.Vs.Old
theorem aSM {r : List El} (h : ∀ e ∈ r, dP e) : r = rowN (r.map fun e => (Go.Vs.bC e 0).data.toList) := by
  induction r with
  | nil => rfl
  | cons e r ih =>
    obtain ⟨s, rfl, _⟩ := h e (by simp)
    rw [List.map_cons]
    unfold rowN at ih ⊢
    rw [List.map_cons, ← ih fun e he => h e (by simp [he])]
    rfl
theorem aAB (e : El) : key e = (Go.Vs.bC e 0).data.toList := tl _
theorem names_one {l : List (List UInt8)} {r : List El} (ho : aEB (rowN l) r) (hs : aGa r) (hq : ∀ e ∈ rowN l, dP e) : r = rowN (Lib.compact (nG l)) := by
  have hr : ∀ e ∈ r, dP e := fun e he => hq e (ho.sub e he)
  rw [aSM hr]
  congr 1
  obtain ⟨c1, c2⟩ := aDO l
  refine aKI ?_ c1 fun s => ?_
  · rw [List.pairwise_map]
    refine hs.imp fun {a b} h => ?_
    rw [aAB, aAB] at h
    exact h
  · rw [show Lib.compact (nG l) = Lib.compact (l.mergeSort fun x y => decide (x ≤ y)) from rfl, c2]
    have hm := ho.mem s
    have k1 : (∃ e ∈ r, key e = s) ↔ s ∈ r.map fun e => (Go.Vs.bC e 0).data.toList := by
      simp only [List.mem_map, aAB]
    have k2 : (∃ e ∈ rowN l, key e = s) ↔ s ∈ l := by
      unfold rowN
      constructor
      · rintro ⟨e, he, hk⟩
        obtain ⟨n, hn, rfl⟩ := List.mem_map.1 he
        rw [aAB] at hk
        have : n = s := hk
        rwa [← this]
      · intro h
        exact ⟨[.str (bsB s)], List.mem_map.2 ⟨s, h, rfl⟩, by rw [aAB]; rfl⟩
    rw [← k1, hm, k2]
end Go.Vs.Old
end
section
open Go Go.Vs Go.Proofs
set_option linter.unusedVariables false
set_option linter.unusedSimpArgs false
set_option maxRecDepth 100000
namespace Go.Vs
theorem aPl {nm : ByteArray} {b : List El} {x : El} (hx : (slAt x 2).length ≤ 100) (hb : ∀ e ∈ b, (slAt e 2).length ≤ 100) : (Old.fldA nm b x).length ≤ 301 := by
  unfold Old.fldA
  split
  · simp
  · rename_i h
    obtain ⟨j, hj, hjb⟩ := Old.idx_get h
    rw [hj, Int.toNat_natCast, bI hjb, List.length_append]
    have h1 := Old.tyCh_len nm x b[j]
    have h2 := Old.inCh_len (nm ++ Old.dot ++ bC x 0) (Old.slAt x 2) (Old.slAt b[j] 2)
    have h3 : (Old.slAt x 2).length ≤ 100 := hx
    have h4 : (Old.slAt b[j] 2).length ≤ 100 := hb _ (List.getElem_mem hjb)
    omega
theorem aOx {nm : ByteArray} {a b : List El} (la : a.length ≤ 100) (lb : b.length ≤ 100) (ha : ∀ e ∈ a, (slAt e 2).length ≤ 100) (hb : ∀ e ∈ b, (slAt e 2).length ≤ 100) : (Old.fldCh nm a b).length ≤ 30200 := by
  unfold Old.fldCh
  have h1 := Old.flatMap_lenM (f := Old.fldA nm b) (l := a) fun x hx => aPl (nm := nm) (ha x hx) hb
  have h2 := Old.flatMap_len (f := Old.fldB nm a) (fun x => Old.fldB_len nm a x) b
  rw [List.length_append]; omega
theorem aNA {o nm : ByteArray} {k : Int} {r r' : Bool} {x y : aE} (bx : tU x = false) (by_ : tU y = false) : (Old.tailCh o nm k r r' x.a4 x.a5 x.a6 x.a7 y.a4 y.a5 y.a6 y.a7).length ≤ 31000 := by
  obtain ⟨x4, x5, x6, x7, xq⟩ := aOu bx
  obtain ⟨y4, y5, y6, y7, yq⟩ := aOu by_
  have n1 := Old.nameCh_len o x.a4 y.a4 12 24
  have n2 := Old.nameCh_len o x.a4 y.a4 11 23
  have n3 := Old.nameCh_len o (Old.vals x.a7) (Old.vals y.a7) 10 22
  have n4 := Old.nameCh_len o x.a4 y.a4 14 26
  have f1 := aOx (nm := nm) x5 y5 xq yq
  have i1 := Old.inCh_len o x.a6 y.a6
  have r1 := Old.rep_len 15 o (r && !r')
  have r2 := Old.rep_len 27 o (!r && r')
  rw [Old.vals_len, Old.vals_len] at n3
  unfold Old.tailCh
  split
  · rw [List.length_append]; omega
  · split
    · omega
    · split
      · omega
      · split
        · omega
        · split
          · rw [List.length_append, List.length_append, List.length_append]; omega
          · simp
theorem sH {x y : aE} (bx : tU x = false) (by_ : tU y = false) : (Old.defCh x.l y.l).length ≤ 32000 := by
  unfold Old.defCh
  split
  · simp
  · have h1 := Old.rep_len 28 (Old.dirNm (Old.intAt x.l 0) (bC x.l 3)) (!((bC x.l 2).toList == (bC y.l 2).toList))
    have h2 := aNA (o := Old.dirNm x.a0 x.a3) (nm := x.a3) (k := x.a0) (r := x.a9) (r' := y.a9) bx by_
    rw [List.length_append]
    exact Nat.le_trans (Nat.add_le_add h1 (show _ ≤ 31000 from h2)) (by decide)
def jY (s : cT) : Bool := decide ((s.a0.length : Int) > 60) || (decide ((s.a1.length : Int) > 60) || (s.a0.any (fun e => tU (.of e)) || s.a1.any fun e => tU (.of e)))
theorem gT {s : cT} (h : jY s = false) : s.a0.length ≤ 60 ∧ s.a1.length ≤ 60 ∧ (∀ e ∈ s.a0, tU (.of e) = false) ∧ ∀ e ∈ s.a1, tU (.of e) = false := by
  unfold jY at h
  simp only [Bool.or_eq_false_iff, decide_eq_false_iff_not, List.any_eq_false] at h
  obtain ⟨h1, h2, h3, h4⟩ := h
  exact ⟨by omega, by omega, fun e he => Bool.eq_false_iff.2 (h3 e he), fun e he => Bool.eq_false_iff.2 (h4 e he)⟩
theorem xok {x : aE} (hx : dV x.l) (bx : bdL 1048576 x.l) : Old.XOk x := by
  obtain ⟨_, _, _, q4, _, q5, _, q6, _, q7, _⟩ := hx.p
  obtain ⟨_, _, _, b3, ⟨b4, _⟩, ⟨b5, b5'⟩, ⟨b6, _⟩, ⟨b7, _⟩, _⟩ := bx
  exact ⟨b3, b4, q4, b5, fun e he => .of (q5 e he) (aBy b5' e he), b6, q6, b7, q7⟩
theorem aRs : ∀ e ∈ fY, bdL 1048576 e := fun e he => by
  simp only [fY, List.mem_cons, List.not_mem_nil, or_false] at he
  have n1 : ∀ s : ByteArray, s.size ≤ 100 → s.size ≤ 1048576 := fun s h => by omega
  rcases he with rfl | rfl | rfl <;> simp [aSo, aMs, aRX, ifL, aE.l, bdE, bdL, bdF, n1] <;> decide
theorem aQG : ∀ e ∈ fY, tU (.of e) = false := fun e he => by
  simp only [fY, List.mem_cons, List.not_mem_nil, or_false] at he
  rcases he with rfl | rfl | rfl <;> rfl
section
variable {a b : cT}
theorem aI3 {n : ByteArray} (hs : bX a.l) (bs : bdL 1048576 a.l) (ht : jY a = false) : dV (uE a n).l ∧ Old.XOk (uE a n) ∧ tU (uE a n) = false := by
  have key : ∀ (es : List El) (j : Nat) (hj : j < es.length), (∀ e ∈ es, dV e) → (∀ e ∈ es, bdL 1048576 e) → (∀ e ∈ es, tU (.of e) = false) → dV (aE.of (es.getD j [])).l ∧ Old.XOk (.of (es.getD j [])) ∧ tU (.of (es.getD j [])) = false := fun es j hj hq hb hg => by
    have hm := List.getElem_mem hj
    obtain ⟨y, hy, iy⟩ := (hq _ hm).st
    have b1 := hb _ hm
    have g1 := hg _ hm
    rw [bI hj]
    rw [hy] at b1 g1 ⊢
    exact ⟨iy, xok iy b1, g1⟩
  unfold uE
  split
  · split
    · exact ⟨aQo, xok aQo (by simp [aHN, aE.l, bdE, bdL, bdF]; decide), rfl⟩
    · rename_i h
      obtain ⟨j, hj, hi, _⟩ := aHZ h
      rw [hi, Int.toNat_natCast]
      exact key _ j hj aEw aRs aQG
  · rename_i h
    obtain ⟨_, ⟨_, bs1⟩, _⟩ := bs
    obtain ⟨j, hj, y, hi, hy, iy⟩ := aK5 hs.p.2.2.2.1 h
    rw [hi, Int.toNat_natCast]
    exact key _ j hj hs.p.2.2.2.1 (aBy bs1) (gT ht).2.2.2
def jD (a b : cT) (k : Int) : List El :=
  ifP (!((tB a k).toList == (ByteArray.mk #[]).toList) && !((tB a k).toList == (tB b k).toList)) (Old.chg 1 (opW k) (tB a k)) ++
  ifP ((tB a k).toList == (ByteArray.mk #[]).toList && !((tB b k).toList == (ByteArray.mk #[]).toList)) (Old.chg 16 (opW k) (tB b k))
noncomputable def uN (b : cT) (e : El) : List El := if uB b (bC e 3) < 0 then [Old.chg 2 (bC e 3) nul] else Old.defCh e (aMD b (bC e 3)).l
def xY (a : cT) (e : El) : List El := ifP (decide (uB a (bC e 3) < 0)) (Old.chg 17 (bC e 3) nul)
noncomputable def aCa (a b : cT) (e : El) : List El :=
  if oR b (bC e 0) = false then [Old.chg 13 (bC e 0) nul] else if oR a (bC e 0) = false then [Old.chg 25 (bC e 0) nul] else Old.defCh (uE a (bC e 0)).l (uE b (bC e 0)).l
noncomputable def aP7 (a b : cT) : List El :=
  jD a b 1 ++ (jD a b 2 ++ (jD a b 3 ++ (nP (fun _ => uN b) 0 a.a0 ++ (nP (fun _ => xY a) 0 b.a0 ++ nP (fun _ => aCa a b) 0 (Old.rowN (Old.namesOf a.a1 b.a1))))))
noncomputable def aD3 (a b : cT) : List El := if (jY a || jY b) = true then [] else aP7 a b
theorem oE {k : Int} : (jD a b k).length ≤ 2 := by
  unfold jD
  rw [List.length_append]
  exact Nat.add_le_add (uY _ _) (uY _ _)
theorem yP (hs : bX b.l) (ta : jY a = false) (tb : jY b = false) {j : Nat} (hj : j < a.a0.length) (qa : ∀ e ∈ a.a0, dV e) : (uN b a.a0[j]).length ≤ 32000 := by
  unfold uN
  split
  · simp
  · rename_i h
    obtain ⟨i, hi, y, h1, hy, iy⟩ := aEE hs h
    obtain ⟨x, hx, ix⟩ := (qa _ (List.getElem_mem hj)).st
    have g1 := (gT ta).2.2.1 _ (List.getElem_mem hj)
    have g2 := (gT tb).2.2.1 _ (List.getElem_mem hi)
    rw [hx] at g1 h1 ⊢
    rw [hy] at g2
    rw [aHf h1 hy]
    exact sH g1 g2
theorem aIM (ha : bX a.l) (hb : bX b.l) (ba : bdL 1048576 a.l) (bb : bdL 1048576 b.l) (ta : jY a = false) (tb : jY b = false) (e : El) : (aCa a b e).length ≤ 32000 := by
  unfold aCa
  split
  · simp
  · split
    · simp
    · exact sH (aI3 ha ba ta).2.2 (aI3 hb bb tb).2.2
theorem aMi : (Old.namesOf a.a1 b.a1).length ≤ a.a1.length + b.a1.length := by
  unfold Old.namesOf
  refine Nat.le_trans (zD _) ?_
  rw [zK]
  unfold Old.defNames
  rw [List.length_map, List.length_append]
  exact Nat.le_refl _
theorem aQ0 (ha : bX a.l) (hb : bX b.l) (ba : bdL 1048576 a.l) (bb : bdL 1048576 b.l) : (aD3 a b).length ≤ 7000000 := by
  unfold aD3
  split
  · simp
  · rename_i h
    obtain ⟨ta, tb⟩ : jY a = false ∧ jY b = false := by simpa using h
    obtain ⟨a0, a1, _⟩ := gT ta
    obtain ⟨b0, b1, _⟩ := gT tb
    have r1 := oE (a := a) (b := b) (k := 1)
    have r2 := oE (a := a) (b := b) (k := 2)
    have r3 := oE (a := a) (b := b) (k := 3)
    have t1 := sJ (g := fun _ => uN b) (c := 32000) a.a0 0 fun j hj => yP hb ta tb hj ha.p.2.1
    have t2 := sJ (g := fun _ => xY a) (c := 1) b.a0 0 fun j hj => uY _ _
    have t3 := sJ (g := fun _ => aCa a b) (c := 32000) (Old.rowN (Old.namesOf a.a1 b.a1)) 0 fun j hj => aIM ha hb ba bb ta tb _
    have n1 := aMi (a := a) (b := b)
    rw [Old.rowN_len] at t3
    unfold aP7
    simp only [List.length_append]
    omega
theorem aSL {c : Int} {o p : ByteArray} : dG (Old.chg c o p) := .mk _ _ _
theorem ifC {q : Bool} {c : Int} {o p : ByteArray} : ∀ e ∈ ifP q (Old.chg c o p), dG e := fun e he => by obtain ⟨_, rfl⟩ := aSu he; exact aSL
theorem aNU {x y : List El} (hx : ∀ e ∈ x, dG e) (hy : ∀ e ∈ y, dG e) : ∀ e ∈ x ++ y, dG e := fun e he => (List.mem_append.1 he).elim (hx e) (hy e)
theorem aR8 {g : Nat → El → List El} {l : List El} {i : Nat} (h : ∀ (j : Nat) (x : El), ∀ e ∈ g j x, dG e) : ∀ e ∈ nP g i l, dG e := fun e he => by
  obtain ⟨j, hj, hx⟩ := aMC l i he
  exact h _ _ e hx
theorem aMp : ∀ e ∈ aD3 a b, dG e := by
  have one : ∀ {x : El}, dG x → ∀ e ∈ [x], dG e := fun {x} h e he => by rw [List.mem_singleton.1 he]; exact h
  unfold aD3
  split
  · intro e he; cases he
  · refine aNU (aNU ifC ifC) (aNU (aNU ifC ifC) (aNU (aNU ifC ifC) (aNU (aR8 fun j x => ?_) (aNU (aR8 fun j x => ifC) (aR8 fun j x => ?_)))))
    · unfold uN
      split
      · exact one aSL
      · exact Old.defCh_all
    · unfold aCa
      split
      · exact one aSL
      · split
        · exact one aSL
        · exact Old.defCh_all
end
end Go.Vs
end
