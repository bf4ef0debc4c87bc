/- What the program's functions compute, read off their text by the shadow runner (MLx, MLy, MLz, MLin, MLf, MLt, MLs, MTf, VsShape, MTx, VsDoor); no condition. -/
import Derived.Test.YtndacingbfeonaaGreatDoorRows
import Derived.FnData
import Derived.MakeChecks
import Derived.Test.YtndacingbfeonaaGreatDoorVB7
section
open Go Go.Vs Go.Proofs
set_option linter.unusedVariables false
set_option linter.unusedSimpArgs false
namespace Go.Vs
def few (t : dR) : dR := ⟨t.a0, if iB t.a1 33 then cut t.a1 else t.a1⟩
def inn (t : dR) : dR := ⟨t.a0, if iB (few t).a1 93 then cut (few t).a1 else nul⟩
theorem aF3 (t : dR) : (few t).a1.size ≤ t.a1.size := by
  unfold few
  show (if iB t.a1 33 = true then cut t.a1 else t.a1).size ≤ _
  split
  · rw [qC]; omega
  · exact Nat.le_refl _
theorem aWR (t : dR) : (inn t).a1.size ≤ t.a1.size := by
  have := aF3 t
  unfold inn
  show (if iB (few t).a1 93 = true then cut (few t).a1 else nul).size ≤ _
  split
  · rw [qC]; omega
  · exact Nat.zero_le _
theorem aUd {w : ByteArray} {a b : UInt8} (h : iB w a = true) (hab : (a == b) = false) : iB w b = false := by
  unfold iB at h ⊢
  rw [Bool.and_eq_true, beq_iff_eq] at h
  rw [h.2, hab, Bool.and_false]
theorem aVl {t : dR} (h : iB (few t).a1 93 = true) : (inn (few t)).a1.size < t.a1.size := by
  have h1 := aF3 t
  have hp := uS h
  have h3 : few (few t) = few t := by
    show (⟨t.a0, if iB (few t).a1 33 = true then cut (few t).a1 else (few t).a1⟩ : dR) = few t
    rw [aUd h (by decide)]
    rfl
  have : (inn (few t)).a1 = cut (few t).a1 := by
    show (if iB (few (few t)).a1 93 = true then cut (few (few t)).a1 else nul) = _
    rw [h3, if_pos h]
  rw [this, qC]; omega
theorem aP4 {s : ByteArray} {c : UInt8} (hs : s.size ≤ maxLen) : Dn F.aXz [.leaf (.str s), .leaf (.str ⟨#[c]⟩)] [] = some (.leaf (.str (if iB s c then cut s else s)), []) := by
  have h1 : (ByteArray.mk #[c]).size = 1 := rfl
  have key : Dn F.aXj [.leaf (.str s), .leaf (.str ⟨#[c]⟩)] [] = some (.leaf (.str (if iB s c then cut s else s)), []) := by
    refine aQ ?_
    rw [uO, aGZ hs, h1, bY]
    cases he : iB s c with
    | false => simp -implicitDefEqProofs only [aC, Bool.false_eq_true, if_false]
    | true =>
      have h := uS he
      have hw := aKd hs (show 1 ≤ s.size by omega)
      simp -implicitDefEqProofs only [hw, aD, Int.natCast_nonneg, decide_true, Bool.true_and, Int.toNat_natCast, Nat.sub_le, aH, if_true]
      rfl
  refine aQ ?_
  rw [aEj, key, aAm]
theorem aKg {t : dR} (ht : t.a1.size ≤ maxLen) : Dn F.aZW [.agg t.l] [] = some (.agg (few t).l, []) := by
  refine aQ ?_
  rw [aN0, aP4 ht, aAm]
  rfl
theorem aJV {t : dR} (ht : t.a1.size ≤ maxLen) : Dn F.aZT [.agg t.l] [] = some (.agg (few t).l, []) := by
  refine aQ ?_
  rw [aNX, aC7 ht, bY]
  unfold few
  cases he : iB t.a1 33 with
  | false => simp -implicitDefEqProofs only [aC, aEZ, Bool.false_eq_true, if_false]
  | true =>
    have h := uS he
    simp -implicitDefEqProofs only [aD, aIo h ht, aII h ht, aH, aEZ, if_true]
theorem aJj {t : dR} (ht : t.a1.size ≤ maxLen) : Dn F.aZO [.agg t.l] [] = some (.agg (inn t).l, []) := by
  refine aQ ?_
  rw [aOa, aKg ht]
  simp -implicitDefEqProofs only [rdR, rB, beq_self_eq_true, Bool.not_true, Bool.not_false, Bool.and_true, Bool.true_and, bT, bF, dR.va_l, aMh (c := 93) (Nat.le_trans (aF3 t) ht)]
  unfold inn
  cases iB (few t).a1 93 with
  | false => simp -implicitDefEqProofs only [rdR, rB, beq_self_eq_true, Bool.not_true, Bool.not_false, Bool.and_true, Bool.true_and, bT, bF, Bool.false_eq_true, if_false]
  | true => simp -implicitDefEqProofs only [rdR, rB, beq_self_eq_true, Bool.not_true, Bool.not_false, Bool.and_true, Bool.true_and, bT, bF, if_true]
theorem aVV {w : ByteArray} (hw : w.size ≤ maxLen) (c : Nat) (hc : c < 256) {β : Type} (A : Bool → Option β) :
    aA (decide ((w.size : Int) > 0)) (aB (decide (0 ≤ IntKind.i64.wrap ((w.size : Int) - 1)) && decide (IntKind.i64.wrap ((w.size : Int) - 1) < (w.size : Int))) (A (((w.data.toList.getD (IntKind.i64.wrap ((w.size : Int) - 1)).toNat 0).toNat : Int) == (c : Int)))) (A false) = A (iB w (UInt8.ofNat c)) := by
  by_cases h : 0 < w.size
  · have h1 : ((w.size : Nat) : Int) > 0 := by omega
    simp -implicitDefEqProofs only [h1, decide_true, aD, aEx h hw, aH, aM5 c hc h hw]
  · have h1 : ¬ ((w.size : Nat) : Int) > 0 := by omega
    have : iB w (UInt8.ofNat c) = false := by unfold iB; simp [h]
    simp -implicitDefEqProofs only [h1, decide_false, aC, this]
theorem aQr {t : dR} (ht : t.a1.size ≤ maxLen) : Dn F.aZV [.agg t.l] [] = some (.agg (inn t).l, []) := by
  have hf := Nat.le_trans (aF3 t) ht
  refine aQ ?_
  rw [aNP, aJV ht]
  simp -implicitDefEqProofs only [rdR, rB, beq_self_eq_true, Bool.not_true, Bool.not_false, Bool.and_true, Bool.true_and, bT, bF, dR.va_l]
  have h := aVV hf 93 (by omega) (fun b => mE Dn (xZ b (few t)))
  rw [show ((93 : Nat) : Int) = 93 from rfl] at h
  refine h.trans ?_
  show mE Dn (xZ (iB (few t).a1 93) (few t)) = _
  rw [aMz]
  unfold inn
  cases he : iB (few t).a1 93 with
  | false => simp -implicitDefEqProofs only [aC, Bool.false_eq_true, if_false]; rfl
  | true =>
    have h := uS he
    simp -implicitDefEqProofs only [aD, aIo h hf, aII h hf, aH, if_true]
    rfl
def aSW (n : ByteArray) (x : cX) : Bool :=
  if (n.toList == (ByteArray.mk #[73, 110, 116]).toList) = true then x.a0 == 2 && aLC x.a1
  else if (n.toList == (ByteArray.mk #[70, 108, 111, 97, 116]).toList) = true then x.a0 == 2 || x.a0 == 3
  else if (n.toList == (ByteArray.mk #[83, 116, 114, 105, 110, 103]).toList) = true then x.a0 == 4
  else if (n.toList == (ByteArray.mk #[66, 111, 111, 108, 101, 97, 110]).toList) = true then x.a0 == 5 && (x.a1.toList == (ByteArray.mk #[116, 114, 117, 101]).toList || x.a1.toList == (ByteArray.mk #[102, 97, 108, 115, 101]).toList)
  else x.a0 == 2 || x.a0 == 4
theorem aLN {n : ByteArray} {x : cX} (hs : x.a1.size ≤ maxLen) : Dn F.aYe [.leaf (.str n), .agg x.l] [] = some (aJ (aSW n x), []) := by
  refine aQ ?_
  rw [aID, aOT hs, bY]
  unfold aSW
  simp -implicitDefEqProofs only [kS, bT, bF]
  generalize (n.toList == (ByteArray.mk #[73, 110, 116]).toList) = q1
  generalize (n.toList == (ByteArray.mk #[70, 108, 111, 97, 116]).toList) = q2
  generalize (n.toList == (ByteArray.mk #[83, 116, 114, 105, 110, 103]).toList) = q3
  generalize (n.toList == (ByteArray.mk #[66, 111, 111, 108, 101, 97, 110]).toList) = q4
  generalize (x.a1.toList == (ByteArray.mk #[116, 114, 117, 101]).toList) = q5
  generalize (x.a1.toList == (ByteArray.mk #[102, 97, 108, 115, 101]).toList) = q6
  generalize (x.a0 == 2) = r2
  generalize (x.a0 == 3) = r3
  generalize (x.a0 == 4) = r4
  generalize (x.a0 == 5) = r5
  cases q1 <;> cases q2 <;> cases q3 <;> cases q4 <;> cases q5 <;> cases r2 <;> cases r5 <;> rfl
theorem aI4 {n : ByteArray} {x : cX} (hs : x.a1.size ≤ 1048576) : Dn F.aXR [.agg x.l, .leaf (.str n)] [] = some (aJ (aSW n x), []) := by
  refine aQ ?_
  rw [aGE, aOL hs, bY]
  unfold aSW
  simp -implicitDefEqProofs only [kS, bT, bF]
  generalize (n.toList == (ByteArray.mk #[73, 110, 116]).toList) = q1
  generalize (n.toList == (ByteArray.mk #[70, 108, 111, 97, 116]).toList) = q2
  generalize (n.toList == (ByteArray.mk #[83, 116, 114, 105, 110, 103]).toList) = q3
  generalize (n.toList == (ByteArray.mk #[66, 111, 111, 108, 101, 97, 110]).toList) = q4
  generalize (x.a1.toList == (ByteArray.mk #[116, 114, 117, 101]).toList) = q5
  generalize (x.a1.toList == (ByteArray.mk #[102, 97, 108, 115, 101]).toList) = q6
  generalize (x.a0 == 2) = r2
  generalize (x.a0 == 3) = r3
  generalize (x.a0 == 4) = r4
  generalize (x.a0 == 5) = r5
  cases q1 <;> cases q2 <;> cases q3 <;> cases q4 <;> cases q5 <;> cases r2 <;> cases r5 <;> rfl
theorem aB3 {n : ByteArray} : Dn F.aYP [.leaf (.str n)] [] = some (aJ (wE n), []) := by
  refine aQ ?_
  rw [aLS]
  unfold wE
  simp -implicitDefEqProofs only [aJG]
  generalize (n.toList == (ByteArray.mk #[73, 110, 116]).toList) = q1
  generalize (n.toList == (ByteArray.mk #[70, 108, 111, 97, 116]).toList) = q2
  generalize (n.toList == (ByteArray.mk #[83, 116, 114, 105, 110, 103]).toList) = q3
  generalize (n.toList == (ByteArray.mk #[66, 111, 111, 108, 101, 97, 110]).toList) = q4
  generalize (n.toList == (ByteArray.mk #[73, 68]).toList) = q5
  cases q1 <;> cases q2 <;> cases q3 <;> cases q4 <;> cases q5 <;> rfl
theorem uX {s : bK} {n : ByteArray} (hs : bL s.l) : Dn F.aZG [.agg s.l, .leaf (.str n)] [] = some (aK (kL s n), []) := by
  refine aQ ?_
  rw [aMX, nD hs, aB3]
  simp -implicitDefEqProofs only [rdR, rB, beq_self_eq_true, Bool.not_true, Bool.not_false, Bool.and_true, Bool.true_and, bT, bF, aG.va_l]
  unfold kL
  by_cases h : nE s n < 0
  · rw [if_pos h]
    simp -implicitDefEqProofs only [h, decide_true, Bool.not_true, aC]
    cases wE n <;> rfl
  · rw [if_neg h]
    simp -implicitDefEqProofs only [h, decide_false, Bool.not_false, aD]
def aK2 (s : bK) (n : ByteArray) : Bool := kL s n == 1 || (kL s n == 5 || kL s n == 6)
theorem aN4 {s : bK} {n : ByteArray} (hs : bL s.l) : Dn F.aY4 [.agg s.l, .leaf (.str n)] [] = some (aJ (aK2 s n), []) := by
  refine aQ ?_
  rw [aLh, mU hs, fK]
  unfold aK2
  cases (kL s n == 1) <;> cases (kL s n == 5) <;> rfl
theorem aNk {s : bK} {n : ByteArray} (hs : bL s.l) : Dn F.aYW [.agg s.l, .leaf (.str n)] [] = some (aJ (aK2 s n), []) := by
  refine aQ ?_
  rw [aK9, uX hs, fK]
  unfold aK2
  cases (kL s n == 1) <;> cases (kL s n == 5) <;> rfl
def hR (s : ByteArray) : Bool := decide (2 ≤ s.size) && ((s.extract 0 2).toList == (ByteArray.mk #[95, 95]).toList)
theorem rC {s : ByteArray} : Dn F.aYq [.leaf (.str s)] [] = some (aJ (hR s), []) := by
  refine aQ ?_
  rw [aKy]
  unfold hR
  by_cases h : 2 ≤ s.size
  · have h1 : ((s.size : Nat) : Int) ≥ 2 := by omega
    simp -implicitDefEqProofs only [h, h1, decide_true, bT, aD, Bool.true_and, show Int.toNat 2 = 2 from rfl, aH]
  · have h1 : ¬ ((s.size : Nat) : Int) ≥ 2 := by omega
    simp -implicitDefEqProofs only [h, h1, decide_false, bT, aC, Bool.false_and]
theorem rG {s : ByteArray} : Dn F.aYI [.leaf (.str s)] [] = some (aJ (hR s), []) := by
  have h2 : (ByteArray.mk #[95, 95]).size = 2 := rfl
  have key : Dn F.aXm [.leaf (.str s), .leaf (.str ⟨#[95, 95]⟩)] [] = some (aJ (hR s), []) := by
    refine aQ ?_
    rw [nG, h2]
    unfold hR
    by_cases h : 2 ≤ s.size
    · have h1 : ((s.size : Nat) : Int) ≥ ((2 : Nat) : Int) := by omega
      simp -implicitDefEqProofs only [h, h1, decide_true, bT, aD, Bool.true_and, Int.toNat_natCast, aH]
    · have h1 : ¬ ((s.size : Nat) : Int) ≥ ((2 : Nat) : Int) := by omega
      simp -implicitDefEqProofs only [h, h1, decide_false, bT, aC, Bool.false_and]
  have k2 : Dn F.aXH [.leaf (.str s), .leaf (.str ⟨#[95, 95]⟩)] [] = some (aJ (hR s), []) := by
    refine aQ ?_
    rw [aFp, key, bY]
  refine aQ ?_
  rw [aJv, k2, bY]
end Go.Vs
end
section
open Go Go.Vs Go.Proofs
set_option linter.unusedVariables false
set_option linter.unusedSimpArgs false
namespace Go.Vs
section
variable {s : bK}
open Classical in
noncomputable def aE3 (s : bK) (e : El) (t : dR) : Bool := decide (Dn F.aZ0 [.agg s.l, .agg e, .agg t.l] [] = some (aJ true, []))
def aEH (s : bK) (e : El) (t : dR) : Prop := Dn F.aZ0 [.agg s.l, .agg e, .agg t.l] [] = some (aJ (aE3 s e t), []) ∧ Dn F.aZ1 [.agg s.l, .agg e, .agg t.l] [] = some (aJ (aE3 s e t), [])
theorem aHd {e : El} {t : dR} {b : Bool} (h1 : Dn F.aZ0 [.agg s.l, .agg e, .agg t.l] [] = some (aJ b, [])) (h2 : Dn F.aZ1 [.agg s.l, .agg e, .agg t.l] [] = some (aJ b, [])) : aEH s e t := by
  have : aE3 s e t = b := by
    unfold aE3
    rw [h1]
    cases b
    · simp
    · simp
  unfold aEH
  rw [this]
  exact ⟨h1, h2⟩
theorem aSg {es : List El} {t : dR} (hl : es.length ≤ maxLen) (hq : ∀ e ∈ es, dB e) (ht : t.a1.size ≤ maxLen) (H : ∀ e ∈ es, aEH s e (inn t)) :
    Dn F.aXb [vsl es, .fn F.aZn [.ptr 0 0, .ptr 1 0]] [[vsl s.a0, vsl s.a1, vsl s.a2], [.leaf (.str t.a0), .leaf (.str t.a1)]] =
      some (aJ (es.any fun e => !aE3 s e (inn t)), [[vsl s.a0, vsl s.a1, vsl s.a2], [.leaf (.str t.a0), .leaf (.str t.a1)]]) := by
  have key : Dn F.aXd [vsl es, .fn F.aZn [.ptr 0 0, .ptr 1 0]] [[vsl s.a0, vsl s.a1, vsl s.a2], [.leaf (.str t.a0), .leaf (.str t.a1)]] =
      some (aK (iK (fun e => !aE3 s e (inn t)) 0 es), [[vsl s.a0, vsl s.a1, vsl s.a2], [.leaf (.str t.a0), .leaf (.str t.a1)]]) := by
    refine aQ ?_
    rw [nP]
    refine nA (es := es) (A := fun i => cB Dn (dT es F.aZn es.length i s t)) (by rw [gP]; simp) fun i hi => ?_
    have hf := H _ (List.getElem_mem hi)
    obtain ⟨x, hx, _⟩ := (hq _ (List.getElem_mem hi)).st
    rw [hx] at hf
    have hc : Dn F.aZn [.agg x.l, .ptr 0 0, .ptr 1 0] [[vsl s.a0, vsl s.a1, vsl s.a2], [.leaf (.str t.a0), .leaf (.str t.a1)]] = some (aJ (!aE3 s x.l (inn t)), [[vsl s.a0, vsl s.a1, vsl s.a2], [.leaf (.str t.a0), .leaf (.str t.a1)]]) := by
      refine aQ ?_
      rw [aMR]
      have h1 := aJj ht
      have h2 := hf.2
      simp -implicitDefEqProofs only [h1, rdR, rB, beq_self_eq_true, Bool.not_true, Bool.not_false, Bool.and_true, Bool.true_and, bT, bF, dR.va_l, h2]
    rw [gP]
    simp -implicitDefEqProofs only [inI, hi, aX (Nat.lt_of_lt_of_le hi hl), aP (fun e he => (hq e he).len), bJ hi, hx, cX.rd_l, hc, rdR, rB, beq_self_eq_true, Bool.not_true, Bool.not_false, Bool.and_true, Bool.true_and, bT, bF]
  refine aQ ?_
  rw [mK, key]
  simp -implicitDefEqProofs only [rdR, rB, beq_self_eq_true, Bool.not_true, Bool.not_false, Bool.and_true, Bool.true_and, bT, bF, ← oB _ es 0 (by omega)]
theorem aRF {es : List El} {x : cX} (hl : es.length ≤ maxLen) (hq : ∀ e ∈ es, cZ e) :
    Dn F.aW8 [vsl es, .fn F.aX2 [.ptr 0 0]] [[aK x.a0, .leaf (.str x.a1), vsl x.a2, vsl x.a3]] = some (aJ (es.any (at0 x.a1)), [[aK x.a0, .leaf (.str x.a1), vsl x.a2, vsl x.a3]]) := by
  have key : Dn F.aXa [vsl es, .fn F.aX2 [.ptr 0 0]] [[aK x.a0, .leaf (.str x.a1), vsl x.a2, vsl x.a3]] = some (aK (iK (at0 x.a1) 0 es), [[aK x.a0, .leaf (.str x.a1), vsl x.a2, vsl x.a3]]) := by
    refine aQ ?_
    rw [lT]
    refine nA (es := es) (A := fun i => bR Dn (dK es F.aX2 es.length i x)) (by rw [fN]; simp) fun i hi => ?_
    obtain ⟨y, hy, _⟩ := (hq _ (List.getElem_mem hi)).st
    have hc : Dn F.aX2 [.agg y.l, .ptr 0 0] [[aK x.a0, .leaf (.str x.a1), vsl x.a2, vsl x.a3]] = some (aJ (y.a0.toList == x.a1.toList), [[aK x.a0, .leaf (.str x.a1), vsl x.a2, vsl x.a3]]) := aQ (aHh ..)
    rw [fN]
    simp -implicitDefEqProofs only [inI, hi, aX (Nat.lt_of_lt_of_le hi hl), aP (fun e he => (hq e he).len), bJ hi, hy, kO.rd_l, hc, rdR, rB, beq_self_eq_true, Bool.not_true, Bool.not_false, Bool.and_true, Bool.true_and, bT, bF]
    rfl
  refine aQ ?_
  rw [lE, key]
  simp -implicitDefEqProofs only [rdR, rB, beq_self_eq_true, Bool.not_true, Bool.not_false, Bool.and_true, Bool.true_and, bT, bF, ← oB _ es 0 (by omega)]
theorem aSr {es : List El} {x : cX} (hl : es.length ≤ maxLen) (hq : ∀ e ∈ es, lZ e) (hx : dB x.l) :
    Dn F.aXh [vsl es, .fn F.aXO [.ptr 0 0]] [[aK x.a0, .leaf (.str x.a1), vsl x.a2, vsl x.a3]] = some (aJ (es.any fun e => !x.a3.any (at0 (bM e 0))), [[aK x.a0, .leaf (.str x.a1), vsl x.a2, vsl x.a3]]) := by
  have key : Dn F.aXi [vsl es, .fn F.aXO [.ptr 0 0]] [[aK x.a0, .leaf (.str x.a1), vsl x.a2, vsl x.a3]] = some (aK (iK (fun e => !x.a3.any (at0 (bM e 0))) 0 es), [[aK x.a0, .leaf (.str x.a1), vsl x.a2, vsl x.a3]]) := by
    refine aQ ?_
    rw [rA]
    refine nA (es := es) (A := fun i => cO Dn (eM es F.aXO es.length i x)) (by rw [jQ]; simp) fun i hi => ?_
    obtain ⟨u, hu, _⟩ := hq _ (List.getElem_mem hi)
    have hc : Dn F.aXO [.leaf (.str u), .ptr 0 0] [[aK x.a0, .leaf (.str x.a1), vsl x.a2, vsl x.a3]] = some (aJ (!x.a3.any (at0 u)), [[aK x.a0, .leaf (.str x.a1), vsl x.a2, vsl x.a3]]) := by
      refine aQ ?_
      rw [aGH, iS (s := u) hx.p.2.2.2.1 hx.p.2.2.2.2, bY]
    rw [jQ]
    simp -implicitDefEqProofs only [inI, hi, aX (Nat.lt_of_lt_of_le hi hl), aP (fun e he => (hq e he).len), bJ hi, hu, uB, hc, rdR, rB, beq_self_eq_true, Bool.not_true, Bool.not_false, Bool.and_true, Bool.true_and, bT, bF]
    rfl
  refine aQ ?_
  rw [qF, key]
  simp -implicitDefEqProofs only [rdR, rB, beq_self_eq_true, Bool.not_true, Bool.not_false, Bool.and_true, Bool.true_and, bT, bF, ← oB _ es 0 (by omega)]
theorem aWm {n : ByteArray} {B : Nat} (hs : bL s.l) (bs : bdL B s.l) : (gG s n).a6.length ≤ B ∧ bdE B (gG s n).a6 := by
  by_cases h : nE s n < 0
  · have : gG s n = aE4 := by unfold gG; rw [if_pos h]
    rw [this]
    exact ⟨Nat.zero_le _, trivial⟩
  · obtain ⟨j, hj, y, hi, hy, iy⟩ := tM hs h
    rw [aAr hi hy]
    have b0 : bdE B s.a0 := bs.1.2
    have b1 : bdL B y.l := hy ▸ yB b0 _ (List.getElem_mem hj)
    exact ⟨b1.2.2.2.2.2.2.1.1, b1.2.2.2.2.2.2.1.2⟩
theorem aUR {d : aG} {x : cX} (hs : bL s.l) (hd : eA d.l) (bd : d.a6.length ≤ 1048576) (hx : dB x.l) (H : ∀ e ∈ x.a2, ∀ t : dR, t.a1.size ≤ maxLen → aEH s e t) :
    ∃ b, Dn F.aYJ [.agg s.l, vsl d.a6, .agg x.l] [] = some (aJ b, []) ∧ Dn F.aYk [.agg s.l, .agg x.l, .agg d.l] [] = some (aJ b, []) := by
  have hml : (1048576 : Nat) ≤ maxLen := by decide
  obtain ⟨_, l2, q2, l3, q3⟩ := hx.p
  have qd : ∀ e ∈ d.a6, dF e := hd.p.2.2.2.2.2.2.2.1
  have ld : d.a6.length ≤ maxLen := Nat.le_trans bd hml
  have S := aJH Dn s d.a6 x
  have I := aI6 Dn s x d
  suffices h : x.a0 = 8 → x.a3.length = x.a2.length → x.a3.length ≤ 100 → ∃ b, cE Dn (nY d.a6 0 s x) = some (aJ b, []) ∧ cM Dn (kQ x.a3 x.a3.length 0 s x d) = some (aJ b, []) by
    simp -implicitDefEqProofs only [bF, jN] at S I
    by_cases h8 : x.a0 = 8
    · have e8 : (x.a0 != 8) = false := by simp [h8]
      simp -implicitDefEqProofs only [e8, aC] at S I
      by_cases hl : x.a3.length = x.a2.length
      · have el : (((x.a3.length : Nat) : Int) != ((x.a2.length : Nat) : Int)) = false := by simp [hl]
        simp -implicitDefEqProofs only [el, aC, wD, tZ] at S I
        by_cases h100 : x.a3.length ≤ 100
        · have g1 : ¬ ((x.a3.length : Nat) : Int) > 100 := by omega
          have g2 : ¬ ((x.a2.length : Nat) : Int) > 100 := by omega
          simp -implicitDefEqProofs only [g1, g2, decide_false, aC] at S I
          obtain ⟨b, k1, k2⟩ := h h8 hl h100
          exact ⟨b, aQ (S.trans k1), aQ (I.trans k2)⟩
        · have g1 : ((x.a3.length : Nat) : Int) > 100 := by omega
          have g2 : ((x.a2.length : Nat) : Int) > 100 := by omega
          simp -implicitDefEqProofs only [g1, g2, decide_true, aD] at S I
          exact ⟨false, aQ S, aQ I⟩
      · have el : (((x.a3.length : Nat) : Int) != ((x.a2.length : Nat) : Int)) = true := by simp; omega
        simp -implicitDefEqProofs only [el, aD, wD, tZ] at S I
        exact ⟨false, aQ S, aQ I⟩
    · have e8 : (x.a0 != 8) = true := by simp [h8]
      simp -implicitDefEqProofs only [e8, aD, wD, tZ] at S I
      exact ⟨false, aQ S, aQ I⟩
  intro _ hlen _
  clear S I
  have key : ∀ i : Nat, i ≤ x.a3.length → ∃ b, cE Dn (nY d.a6 i s x) = some (aJ b, []) ∧ cM Dn (kQ x.a3 x.a3.length i s x d) = some (aJ b, []) := by
    refine cU ?_ ?_
    · refine ⟨!(yT d.a6).any fun e => !x.a3.any (at0 (bM e 0)), ?_, ?_⟩
      · rw [aBV]
        simp -implicitDefEqProofs only [Int.lt_irrefl, decide_false, aC, aCw bd qd, kJ]
        have := aJt (es := yT d.a6) (p := fun e => !x.a3.any (at0 (bM e 0))) (A := fun i => cE Dn (vJ (yT d.a6) i x)) (yes := some (aJ false, [])) (no := some (aJ true, [])) (by rw [aBG]; simp) fun i hi => by
          obtain ⟨u, hu, _⟩ := zL qd _ (List.getElem_mem hi)
          rw [aBG]
          simp -implicitDefEqProofs only [inI, hi, aX (Nat.lt_of_lt_of_le hi (Nat.le_trans (aDi d.a6) ld)), aP (fun e he => (zL qd e he).len), bJ hi, hu, uB, kU (s := u) l3 q3, bY]
          rfl
        rw [this]
        cases (yT d.a6).any fun e => !x.a3.any (at0 (bM e 0)) <;> rfl
      · rw [aBa]
        have h1 := aSr (x := x) (Nat.le_trans (aDi d.a6) ld) (zL qd) hx
        simp -implicitDefEqProofs only [Int.lt_irrefl, decide_false, aC, aCM bd qd, kJ, h1, rdR, rB, beq_self_eq_true, Bool.not_true, Bool.not_false, Bool.and_true, Bool.true_and, bT, bF]
    · intro i hi ⟨b, k1, k2⟩
      obtain ⟨u, hu, _⟩ := q3 _ (List.getElem_mem hi)
      have hw := aX (Nat.lt_of_lt_of_le hi l3)
      have hle : i ≤ x.a3.length := by omega
      have hi2 : i < x.a2.length := by omega
      have S : cE Dn (nY d.a6 i s x) = _ := aBV ..
      have I : cM Dn (kQ x.a3 x.a3.length i s x d) = _ := aBa ..
      have z3 : sized 1 x.a3 = true := aP (fun e he => (q3 e he).len)
      have z2 : sized 4 x.a2 = true := aP (fun e he => (q2 e he).len)
      have zd : sized 10 d.a6 = true := aP (fun e he => (qd e he).len)
      have sS : ∀ b', cE Dn (rE d.a6 i b' s x) = some (aJ (if b' = true then false else b), []) := fun b' => by
        rw [aIq]
        cases b' <;> simp -implicitDefEqProofs only [aD, aC, hw, k1, if_true, Bool.false_eq_true, if_false]
      have sI : ∀ b', cM Dn (qH x.a3 x.a3.length i b' s x d) = some (aJ (if b' = true then false else b), []) := fun b' => by
        rw [aHj]
        cases b' <;> simp -implicitDefEqProofs only [aD, aC, hw, k2, if_true, Bool.false_eq_true, if_false]
      have qt : ∀ e ∈ x.a3.take i, lZ e := fun e he => q3 e (List.mem_of_mem_take he)
      have lt : (x.a3.take i).length ≤ maxLen := by rw [List.length_take]; omega
      simp -implicitDefEqProofs only [inI, hi, z3, bJ hi, hu, uB, aCo (s := u) ld qd, aCD (s := u) ld qd, fK, bF, hle, List.drop_zero, kU (s := u) lt qt, iS (s := u) lt qt, bY, sS, sI] at S I
      rw [S, I]
      by_cases hn : iK (at0 u) 0 d.a6 < 0
      · simp -implicitDefEqProofs only [hn, decide_true, Bool.not_true, aC]
        exact ⟨_, rfl, rfl⟩
      · obtain ⟨j, hj, hij, _⟩ := yK hn
        obtain ⟨y, hy, iy⟩ := (qd _ (List.getElem_mem hj)).st
        have nj : ¬ ((j : Nat) : Int) < 0 := by omega
        simp -implicitDefEqProofs only [hij, nj, decide_false, Bool.not_false, aD]
        cases (x.a3.take i).any (at0 u) with
        | true => simp -implicitDefEqProofs only [Bool.not_true, aC]; exact ⟨_, rfl, rfl⟩
        | false =>
          obtain ⟨v, hv, iv⟩ := (q2 _ (List.getElem_mem hi2)).st
          have hf := H _ (List.getElem_mem hi2) ⟨y.a2, y.a3⟩ iy.p.2.2.2.1
          rw [hv] at hf
          have h1 := hf.1
          have h2 := hf.2
          simp -implicitDefEqProofs only [Bool.not_false, aD, inI, hi2, z2, bJ hi2, hv, cX.rd_l, hj, zd, bJ hj, hy, eJ, atP, h1, h2, bY, sS, sI]
          exact ⟨_, rfl, rfl⟩
  exact key 0 (Nat.zero_le _)
end
end Go.Vs
end
section
open Go Go.Vs Go.Proofs
set_option linter.unusedVariables false
set_option linter.unusedSimpArgs false
namespace Go.Vs
section
variable {s : bK}
theorem aT5 {x : cX} : Dn F.aZB [.agg x.l] [] = some (aJ (x.a0 == 5 && (x.a1.toList == (ByteArray.mk #[110, 117, 108, 108]).toList)), []) := by
  refine aQ ?_
  rw [aMn]
  cases (x.a0 == 5) <;> simp -implicitDefEqProofs only [bT, aD, aC, Bool.true_and, Bool.false_and]
theorem aVh {x : cX} {n : ByteArray} (hs : bL s.l) (bs : bdL 1048576 s.l) (hx : dB x.l) (bx : x.a1.size ≤ 1048576) (H : ∀ e ∈ x.a2, ∀ t : dR, t.a1.size ≤ maxLen → aEH s e t) (w : ByteArray) (hw : w.size = 0) :
    ∃ b, cL Dn (wM false s x ⟨n, w⟩) = some (aJ b, []) ∧ Dn F.aYt [.agg s.l, .agg x.l, .leaf (.str n)] [] = some (aJ b, []) := by
  have hml : (1048576 : Nat) ≤ maxLen := by decide
  have S := aBS Dn false s x ⟨n, w⟩
  have I := aJN Dn s x n
  have w0 : ¬ ((w.size : Nat) : Int) > 0 := by omega
  have id := (aCr (n := n) hs)
  have ce := aRF (x := x) id.p.2.2.2.2.2.2.2.2.1 id.p.2.2.2.2.2.2.2.2.2.1
  simp -implicitDefEqProofs only [aC, w0, decide_false, rJ hs, fK, aB7, bY, aLN (n := n) hx.p.1] at S
  simp -implicitDefEqProofs only [nD hs, rdR, rB, beq_self_eq_true, Bool.not_true, Bool.not_false, Bool.and_true, Bool.true_and, bT, bF, aG.va_l, aB3, aI4 (n := n) bx, ce] at I
  rw [S]
  by_cases h : nE s n < 0
  · simp -implicitDefEqProofs only [h, decide_true, aD, Bool.not_true, aC, Bool.not_false] at I ⊢
    cases hb : wE n with
    | false => simp -implicitDefEqProofs only [hb, bT, aC] at I ⊢; exact ⟨_, rfl, aQ I⟩
    | true => simp -implicitDefEqProofs only [hb, bT, aD] at I ⊢; exact ⟨_, rfl, aQ I⟩
  · obtain ⟨j, hj, y, hi, hy, iy⟩ := tM hs h
    have hd := aAr hi hy
    rw [hd] at I id
    have nj : ¬ ((j : Nat) : Int) < 0 := by omega
    have hbd := aWm (n := n) hs bs
    rw [hd] at hbd
    obtain ⟨bi, k1, k2⟩ := aUR hs iy hbd.1 hx H
    simp -implicitDefEqProofs only [h, hi, nj, decide_false, aC, Bool.not_false, aD, Bool.not_true, inI, hj, aP (fun e he => (hs.p.2.1 e he).len), bJ hj, hy, aG.rd_l, k1, k2, bY] at I ⊢
    cases h1 : (y.a0 == 1) with
    | true => simp -implicitDefEqProofs only [h1, aD] at I ⊢; exact ⟨_, rfl, aQ I⟩
    | false =>
      simp -implicitDefEqProofs only [h1, aC] at I ⊢
      cases h5 : (y.a0 == 5) with
      | true =>
        simp -implicitDefEqProofs only [h5, aD] at I ⊢
        obtain ⟨_, _, _, _, _, _, _, _, l7, q7, _⟩ := iy.p
        have := aJt (es := y.a7) (p := fun e => x.a0 == 6 && at0 x.a1 e) (A := fun i => cL Dn (aCf i x y)) (yes := some (aJ true, [])) (no := some (aJ false, [])) (by rw [aGC]; simp [aGS]) fun i hi => by
          obtain ⟨z, hz, _⟩ := (q7 _ (List.getElem_mem hi)).st
          rw [aGC]
          simp -implicitDefEqProofs only [inI, hi, bT, aX (Nat.lt_of_lt_of_le hi l7), aP (fun e he => (q7 e he).len), bJ hi, hz, atP, aNM]
          cases (x.a0 == 6) <;> simp -implicitDefEqProofs only [aD, aC, Bool.true_and, Bool.false_and] <;> rfl
        rw [this]
        cases h6 : (x.a0 == 6) with
        | true =>
          simp -implicitDefEqProofs only [h6, bT, aD] at I
          simp -implicitDefEqProofs only [Bool.true_and]
          refine ⟨y.a7.any (at0 x.a1), ?_, aQ I⟩
          cases y.a7.any (at0 x.a1) <;> rfl
        | false =>
          simp -implicitDefEqProofs only [h6, bT, aC] at I
          refine ⟨false, ?_, aQ I⟩
          simp
      | false =>
        simp -implicitDefEqProofs only [h5, aC] at I ⊢
        cases h6 : (y.a0 == 6) with
        | true => simp -implicitDefEqProofs only [h6, aD] at I ⊢; exact ⟨_, rfl, aQ I⟩
        | false => simp -implicitDefEqProofs only [h6, aC, aGS] at I ⊢; exact ⟨_, rfl, aQ I⟩
theorem aSZ (hs : bL s.l) (bs : bdL 1048576 s.l) : ∀ e, dB e → bdL 1048576 e → ∀ t : dR, t.a1.size ≤ maxLen → aEH s e t := by
  intro e he
  induction he with
  | mk i0 s1 e2 e3 h1 h2 q2 h3 q3 ih =>
    intro be
    have hx : dB (cX.l ⟨i0, s1, e2, e3⟩) := .mk i0 s1 e2 e3 h1 h2 q2 h3 q3
    obtain ⟨_, b1, b2, _⟩ := be
    have H : ∀ e ∈ e2, ∀ t : dR, t.a1.size ≤ maxLen → aEH s e t := fun e he => ih e he (yB b2.2 e he)
    generalize hxx : (⟨i0, s1, e2, e3⟩ : cX) = x at hx
    have ex : [.int .i64 i0, .str s1, .sl fP e2, .sl fP e3] = x.l := by rw [← hxx]; rfl
    have b1 : x.a1.size ≤ 1048576 := by rw [← hxx]; exact b1
    have H : ∀ e ∈ x.a2, ∀ t : dR, t.a1.size ≤ maxLen → aEH s e t := by rw [← hxx]; exact H
    rw [ex]
    clear ex hxx b2 ih q2 q3 h1 h2 h3
    intro t
    induction hk : t.a1.size using Nat.strongRecOn generalizing t with
    | ind k ih =>
      intro ht
      subst hk
      have S := aOI Dn s x t
      have I := aOA Dn s x t
      have hf := Nat.le_trans (aF3 t) ht
      have hn1 := aC7 ht
      have hn2 := aIb ht
      have hf1 := aJV ht
      have hf2 := aKg ht
      simp -implicitDefEqProofs only [aT5, hn2, hf2, rdR, rB, beq_self_eq_true, Bool.not_true, Bool.not_false, Bool.and_true, Bool.true_and, bT, bF, dR.va_l, aBh (c := 93) hf, aUM] at I
      simp -implicitDefEqProofs only [aNf, hn1, hf1, rdR, rB, beq_self_eq_true, Bool.not_true, Bool.not_false, Bool.and_true, Bool.true_and, bT, bF, dR.va_l] at S
      cases a1 : (x.a0 == 1) with
      | true => simp -implicitDefEqProofs only [a1, aD] at S I; exact aHd (aQ S) (aQ I)
      | false =>
        simp -implicitDefEqProofs only [a1, aC] at S I
        have hN : ∀ q : Bool, q = (x.a0 == 5 && (x.a1.toList == (ByteArray.mk #[110, 117, 108, 108]).toList)) → q = true → aEH s x.l t := fun q hq hq' => by
          rw [hq'] at hq
          have h2 : (x.a0 == 5) = true ∧ (x.a1.toList == (ByteArray.mk #[110, 117, 108, 108]).toList) = true := by
            rw [← Bool.and_eq_true]; exact hq.symm
          simp -implicitDefEqProofs only [h2.1, h2.2, aD, Bool.and_self] at S I
          exact aHd (aQ S) (aQ I)
        cases hnul : (x.a0 == 5 && (x.a1.toList == (ByteArray.mk #[110, 117, 108, 108]).toList)) with
        | true => exact hN _ hnul.symm rfl
        | false =>
          have S1 : aU Tryz.prog Dn Hs bN F.aZ0 [.agg s.l, .agg x.l, .agg t.l] [] = cL Dn (wM (iB (few t).a1 93) s x (few t)) := by
            have l := aVV hf 93 (by omega) (fun b => cL Dn (wM b s x (few t)))
            rw [show ((93 : Nat) : Int) = 93 from rfl] at l
            rw [S]
            cases h5 : (x.a0 == 5) with
            | false => simp -implicitDefEqProofs only [aC]; exact l
            | true =>
              rw [h5, Bool.true_and] at hnul
              simp -implicitDefEqProofs only [aD, hnul, aC]; exact l
          simp -implicitDefEqProofs only [hnul, aC] at I
          cases he : iB (few t).a1 93 with
          | true =>
            have hlt := aVl he
            have hin := Nat.le_trans (Nat.le_of_lt hlt) ht
            rw [he, aBS] at S1
            simp -implicitDefEqProofs only [aD, aQr hf, rdR, rB, beq_self_eq_true, Bool.not_true, Bool.not_false, Bool.and_true, Bool.true_and, bT, bF, dR.va_l] at S1
            simp -implicitDefEqProofs only [he, aD, aJj hf, rdR, rB, beq_self_eq_true, Bool.not_true, Bool.not_false, Bool.and_true, Bool.true_and, bT, bF, dR.va_l] at I
            cases h7 : (x.a0 != 7) with
            | true =>
              have hr := ih _ hlt (inn (few t)) rfl hin
              have r1 := hr.1
              have r2 := hr.2
              simp -implicitDefEqProofs only [h7, aD, r1, bY] at S1
              simp -implicitDefEqProofs only [h7, aD, r2, bY] at I
              exact aHd (aQ S1) (aQ I)
            | false =>
              obtain ⟨_, l2, q2, _⟩ := hx.p
              have hl := aSg (s := s) (t := few t) l2 q2 hf fun e he => H e he _ hin
              simp -implicitDefEqProofs only [h7, aC] at S1
              simp -implicitDefEqProofs only [h7, aC, hl, rdR, rB, beq_self_eq_true, Bool.not_true, Bool.not_false, Bool.and_true, Bool.true_and, bT, bF] at I
              have := aJt (es := x.a2) (p := fun e => !aE3 s e (inn (few t))) (A := fun i => cL Dn (aCp i s x (inn (few t)))) (yes := some (aJ false, [])) (no := some (aJ true, [])) (by rw [aFS]; simp) fun i hi => by
                have hf := H _ (List.getElem_mem hi) (inn (few t)) hin
                obtain ⟨y, hy, _⟩ := (q2 _ (List.getElem_mem hi)).st
                rw [hy] at hf
                have r1 := hf.1
                rw [aFS]
                simp -implicitDefEqProofs only [inI, hi, aX (Nat.lt_of_lt_of_le hi l2), aP (fun e he => (q2 e he).len), bJ hi, hy, cX.rd_l, r1, bY]
              rw [this] at S1
              refine aHd (aQ (S1.trans ?_)) (aQ I)
              cases x.a2.any fun e => !aE3 s e (inn (few t)) <;> rfl
          | false =>
            rw [he] at S1
            simp -implicitDefEqProofs only [he, aC] at I
            by_cases h0 : (few t).a1.size = 0
            · obtain ⟨b, k1, k2⟩ := aVh (n := (few t).a0) hs bs hx b1 H (few t).a1 h0
              have e0 : ((((few t).a1.size : Nat) : Int) == 0) = true := by rw [beq_iff_eq]; omega
              simp -implicitDefEqProofs only [e0, Bool.not_true, aC, k2, bY] at I
              exact aHd (aQ (S1.trans k1)) (aQ I)
            · have e0 : ((((few t).a1.size : Nat) : Int) == 0) = false := by rw [beq_eq_false_iff_ne]; omega
              have g0 : (((few t).a1.size : Nat) : Int) > 0 := by omega
              rw [aBS] at S1
              simp -implicitDefEqProofs only [e0, Bool.not_false, aD] at I
              simp -implicitDefEqProofs only [g0, decide_true, aC, aD] at S1
              exact aHd (aQ S1) (aQ I)
theorem aQ1 {x : cX} {t : dR} (hs : bL s.l) (bs : bdL 1048576 s.l) (hx : dB x.l) (bx : bdL 1048576 x.l) (ht : t.a1.size ≤ maxLen) : Dn F.aZ0 [.agg s.l, .agg x.l, .agg t.l] [] = some (aJ (aE3 s x.l t), []) := (aSZ hs bs _ hx bx t ht).1
theorem aRz {x : cX} {t : dR} (hs : bL s.l) (bs : bdL 1048576 s.l) (hx : dB x.l) (bx : bdL 1048576 x.l) (ht : t.a1.size ≤ maxLen) : Dn F.aZ1 [.agg s.l, .agg x.l, .agg t.l] [] = some (aJ (aE3 s x.l t), []) := (aSZ hs bs _ hx bx t ht).2
end
end Go.Vs
end
section
open Go Go.Vs Go.Proofs
set_option linter.unusedVariables false
set_option linter.unusedSimpArgs false
namespace Go.Vs
theorem aRi (p : El → Bool) (es : List El) (i : Nat) (hi : i < es.length) (hp : p es[i] = true) : (iK p 0 es != (i : Int)) = (es.take i).any p := by
  have key : ∀ (es : List El) (i : Nat) (k : Int) (hi : i < es.length), p es[i] = true → (iK p k es != k + (i : Int)) = (es.take i).any p := by
    intro es
    induction es with
    | nil => intro i k hi _; simp at hi
    | cons e r ih =>
      intro i k hi hp
      cases i with
      | zero =>
        simp -implicitDefEqProofs only [List.getElem_cons_zero] at hp
        unfold iK
        rw [if_pos hp]
        simp
      | succ i =>
        simp -implicitDefEqProofs only [List.getElem_cons_succ] at hp
        unfold iK
        rw [List.take_succ_cons, List.any_cons]
        cases he : p e with
        | true =>
          rw [if_pos rfl, Bool.true_or, bne_iff_ne]
          push_cast; omega
        | false =>
          rw [if_neg (by simp), Bool.false_or, ← ih i (k + 1) (by simpa using hi) hp]
          push_cast
          rw [show k + ((i : Int) + 1) = k + 1 + (i : Int) by omega]
  have := key es i 0 hi hp
  rwa [Int.zero_add] at this
section
variable {s : bK} {n : ByteArray} {es : List El}
noncomputable def aOs (s : bK) (x : bC) : Bool := x.a4 && !aE3 s (cX.l ⟨x.a5, x.a6, x.a7, x.a8⟩) ⟨x.a2, x.a3⟩
noncomputable def inA (s : bK) (n : ByteArray) (es : List El) (i : Nat) (e : El) : List El :=
  ifP (hR (bM e 0)) (pb 6 n (bM e 0)) ++ (ifP ((es.take i).any (at0 (bM e 0))) (pb 2 n (bM e 0)) ++ (ifP (!aK2 s (bM e 2)) (pb 8 n (bM e 0)) ++ ifP (aOs s (.of e)) (pb 12 n (bM e 0))))
noncomputable def aBm (s : bK) (n : ByteArray) (es : List El) : List El := if es.length > 100 then [pb 5 n nul] else eK (inA s n es) 0 es
theorem aQq {i : Nat} {e : El} : (inA s n es i e).length ≤ 4 := by
  unfold inA
  have h1 := cH (hR (bM e 0)) (pb 6 n (bM e 0))
  have h2 := cH ((es.take i).any (at0 (bM e 0))) (pb 2 n (bM e 0))
  have h3 := cH (!aK2 s (bM e 2)) (pb 8 n (bM e 0))
  have h4 := cH (aOs s (.of e)) (pb 12 n (bM e 0))
  rw [List.length_append, List.length_append, List.length_append]; omega
theorem aAQ : (aBm s n es).length ≤ 400 := by
  unfold aBm
  split
  · simp
  · have := kT (g := inA s n es) (c := 4) es 0 fun j hj => aQq
    omega
theorem aAp : ∀ e ∈ aBm s n es, dP e := by
  unfold aBm
  split
  · intro e he; rw [List.mem_singleton.1 he]; exact aRf
  · exact oL fun j x => gI wS (gI wS (gI wS wS))
theorem aQx {x : bC} {B : Nat} (h : bdL B x.l) : bdL B (cX.l ⟨x.a5, x.a6, x.a7, x.a8⟩) := by
  obtain ⟨_, _, _, _, _, _, h6, h7, h8, _⟩ := h
  exact ⟨trivial, h6, h7, h8, trivial⟩
theorem aRw {x : bC} (h : dF x.l) : dB (cX.l ⟨x.a5, x.a6, x.a7, x.a8⟩) := by
  obtain ⟨_, _, _, _, h6, h7, q7, h8, q8, _⟩ := h.p
  exact .mk _ _ _ _ h6 h7 q7 h8 q8
theorem aDZ {out : List El} (hs : bL s.l) (bs : bdL 1048576 s.l) (hl : es.length ≤ maxLen) (hq : ∀ e ∈ es, dF e) (bq : bdE 1048576 es) (h : ¬ es.length > 100) (ho : out.length ≤ 500000000) : Dn F.aZY [.agg s.l, .leaf (.str n), vsl es, .own (some T.aY2) out] [] = some (.own (some T.aY2) (out ++ eK (inA s n es) 0 es), []) := by
  refine aQ ?_
  rw [aKv]
  refine hX (es := es) (g := inA s n es) (c := 4) (N := 600000000) (A := fun out i => aW Dn (jD n es out i s)) (fin := fun out => some (.own (some T.aY2) out, [])) (fun j hj => aQq) (fun out _ => by rw [aBX]; simp) (fun i hi out ho => ?_) (by omega)
  obtain ⟨x, hx, ix⟩ := (hq _ (List.getElem_mem hi)).st
  have bx : bdL 1048576 x.l := hx ▸ yB bq _ (List.getElem_mem hi)
  have hw := aX (Nat.lt_of_lt_of_le hi hl)
  have hf := aQ1 (x := ⟨x.a5, x.a6, x.a7, x.a8⟩) (t := ⟨x.a2, x.a3⟩) hs bs (aRw ix) (aQx bx) ix.p.2.2.2.1
  have ht := aRi (at0 x.a0) es i hi (by rw [hx]; exact beq_self_eq_true _)
  have i1 := aCo (s := x.a0) hl hq
  have s5 : ∀ o : List El, aW Dn (vO n es o i s) = aW Dn (jD n es o ((i + 1 : Nat) : Int) s) := fun o => by rw [aIP, hw]
  have s4 : ∀ (o : List El) (b : Bool), o.length ≤ 700000000 → aW Dn (vK n es o i b s x) = aW Dn (jD n es (o ++ ifP b (pb 12 n x.a0)) ((i + 1 : Nat) : Int) s) := fun o b hb => by
    rw [aI8]
    cases b <;> simp -implicitDefEqProofs only [aD, aC, eH, eC, List.append_nil, nU (z := 40) (show o.length + 1 ≤ 1000000000 by omega) (by decide), Bool.and_true, aH, s5] <;> rfl
  have s3 : ∀ (o : List El), o.length ≤ 700000000 → aW Dn (vM n es o i s x) = aW Dn (jD n es (o ++ ifP (aOs s x) (pb 12 n x.a0)) ((i + 1 : Nat) : Int) s) := fun o hb => by
    rw [aIw]
    unfold aOs
    cases x.a4 <;> simp -implicitDefEqProofs only [aD, aC, bT, Bool.true_and, Bool.false_and, hf, bY, s4 _ _ hb]
  have s2 : ∀ (o : List El), o.length ≤ 690000000 → aW Dn (vV n es o i s x) = aW Dn (jD n es (o ++ ifP (!aK2 s x.a2) (pb 8 n x.a0) ++ ifP (aOs s x) (pb 12 n x.a0)) ((i + 1 : Nat) : Int) s) := fun o hb => by
    rw [aIy, aN4 hs, bY, ← s3 _ (by have := cH (!aK2 s x.a2) (pb 8 n x.a0); rw [List.length_append]; omega)]
    cases (!aK2 s x.a2) <;> simp -implicitDefEqProofs only [aD, aC, eH, eC, List.append_nil, nU (z := 40) (show o.length + 1 ≤ 1000000000 by omega) (by decide), Bool.and_true, aH] <;> rfl
  have s1 : ∀ (o : List El), o.length ≤ 680000000 → aW Dn (vT n es o i s x) = aW Dn (jD n es (o ++ ifP ((es.take i).any (at0 x.a0)) (pb 2 n x.a0) ++ ifP (!aK2 s x.a2) (pb 8 n x.a0) ++ ifP (aOs s x) (pb 12 n x.a0)) ((i + 1 : Nat) : Int) s) := fun o hb => by
    rw [aIx, i1, fK, ht, ← s2 _ (by have := cH ((es.take i).any (at0 x.a0)) (pb 2 n x.a0); rw [List.length_append]; omega)]
    cases ((es.take i).any (at0 x.a0)) <;> simp -implicitDefEqProofs only [aD, aC, eH, eC, List.append_nil, nU (z := 40) (show o.length + 1 ≤ 1000000000 by omega) (by decide), Bool.and_true, aH] <;> rfl
  rw [aBX, hx]
  unfold inA
  rw [show bM x.l 0 = x.a0 from rfl, show bM x.l 2 = x.a2 from rfl, bC.of_l, ← List.append_assoc, ← List.append_assoc, ← List.append_assoc]
  have e1 := s1 (out ++ ifP (hR x.a0) (pb 6 n x.a0)) (by have := cH (hR x.a0) (pb 6 n x.a0); rw [List.length_append]; omega)
  rw [← e1]
  simp -implicitDefEqProofs only [inI, hi, aP (fun e he => (hq e he).len), bJ hi, hx, bC.rd_l, rC, bY]
  cases hR x.a0 <;> simp -implicitDefEqProofs only [aD, aC, eH, eC, List.append_nil, nU (z := 40) (show out.length + 1 ≤ 1000000000 by omega) (by decide), Bool.and_true, aH] <;> rfl
theorem aJp (hs : bL s.l) (bs : bdL 1048576 s.l) (hl : es.length ≤ maxLen) (hq : ∀ e ∈ es, dF e) (bq : bdE 1048576 es) : Dn F.aX7 [.agg s.l, .leaf (.str n), vsl es] [] = some (.own (some T.aY2) (aBm s n es), []) := by
  refine aQ ?_
  rw [aHF]
  unfold aBm
  by_cases h : es.length > 100
  · have h1 : ((es.length : Nat) : Int) > 100 := by omega
    rw [if_pos h]
    simp -implicitDefEqProofs only [h1, decide_true, aD]
    rfl
  · have h1 : ¬ ((es.length : Nat) : Int) > 100 := by omega
    rw [if_neg h]
    simp -implicitDefEqProofs only [h1, decide_false, aC]
    rw [aDZ hs bs hl hq bq h (by simp), kJ, List.nil_append]
theorem wZ (hs : bL s.l) (bs : bdL 1048576 s.l) (hl : es.length ≤ maxLen) (hq : ∀ e ∈ es, dF e) (bq : bdE 1048576 es) : Dn F.aXZ [.agg s.l, .leaf (.str n), vsl es] [] = some (.own (some T.aY2) (aBm s n es), []) := by
  refine aQ ?_
  rw [aHo]
  unfold aBm
  by_cases h : es.length > 100
  · have h1 : ((es.length : Nat) : Int) > 100 := by omega
    rw [if_pos h]
    simp -implicitDefEqProofs only [h1, decide_true, aD, aAR (q := true) (c := 5) (o := n) (p := ByteArray.mk #[]) (out := []) (by simp), fV]
    rfl
  · have h1 : ¬ ((es.length : Nat) : Int) > 100 := by omega
    rw [if_neg h]
    simp -implicitDefEqProofs only [h1, decide_false, aC]
    refine wO (es := es) (g := inA s n es) (c := 4) (N := 1000) (A := fun out i => eB Dn (rU n es es es.length i s out)) (fin := fun out => some (.own (some T.aY2) out, [])) (fun j hj => aQq) (fun out _ => by rw [aAM]; simp) (fun i hi out ho => ?_) (by omega)
    obtain ⟨x, hx, ix⟩ := (hq _ (List.getElem_mem hi)).st
    have bx : bdL 1048576 x.l := hx ▸ yB bq _ (List.getElem_mem hi)
    have hw := aX (Nat.lt_of_lt_of_le hi hl)
    have hf := aRz (x := ⟨x.a5, x.a6, x.a7, x.a8⟩) (t := ⟨x.a2, x.a3⟩) hs bs (aRw ix) (aQx bx) ix.p.2.2.2.1
    have hle : i ≤ es.length := by omega
    have qt : ∀ e ∈ es.take i, dF e := fun e he => hq e (List.mem_of_mem_take he)
    have lt : (es.take i).length ≤ maxLen := by rw [List.length_take]; omega
    have i1 := aCD (s := x.a0) lt qt
    have any1 := oB (at0 x.a0) (es.take i) 0 (by omega)
    have add : ∀ (q : Bool) (c : Int) (o : List El), o.length ≤ 100000 → Dn F.aXE [.ptr 0 0, .leaf (.bool q), aK c, .leaf (.str n), .leaf (.str x.a0)] [[.own (some T.aY2) o]] = some (.tup [], [[.own (some T.aY2) (o ++ ifP q (pb c n x.a0))]]) := fun q c o ho => aAR (by omega)
    have l1 := cH (hR x.a0) (pb 6 n x.a0)
    have l2 := cH ((es.take i).any (at0 x.a0)) (pb 2 n x.a0)
    have l3 := cH (!aK2 s x.a2) (pb 8 n x.a0)
    rw [aAM, hx]
    unfold inA
    rw [show bM x.l 0 = x.a0 from rfl, show bM x.l 2 = x.a2 from rfl, bC.of_l, ← List.append_assoc, ← List.append_assoc, ← List.append_assoc]
    have a1 := add (hR x.a0) 6 out (by omega)
    have a2 := add ((es.take i).any (at0 x.a0)) 2 (out ++ ifP (hR x.a0) (pb 6 n x.a0)) (by rw [List.length_append]; omega)
    have a3 := add (!aK2 s x.a2) 8 (out ++ ifP (hR x.a0) (pb 6 n x.a0) ++ ifP ((es.take i).any (at0 x.a0)) (pb 2 n x.a0)) (by rw [List.length_append, List.length_append]; omega)
    have a4 := fun q => add q 12 (out ++ ifP (hR x.a0) (pb 6 n x.a0) ++ ifP ((es.take i).any (at0 x.a0)) (pb 2 n x.a0) ++ ifP (!aK2 s x.a2) (pb 8 n x.a0)) (by rw [List.length_append, List.length_append, List.length_append]; omega)
    unfold aOs
    simp -implicitDefEqProofs only [inI, hi, aP (fun e he => (hq e he).len), bJ hi, hx, bC.rd_l, rG, bY, a1, fV, hle, List.drop_zero, i1, fK, any1, a2, aNk hs, a3, hf, a4, bT, aF8, hw]
    cases x.a4 <;> simp -implicitDefEqProofs only [aD, aC, Bool.true_and, Bool.false_and]
end
end Go.Vs
end
section
open Go Go.Vs Go.Proofs
set_option linter.unusedVariables false
set_option linter.unusedSimpArgs false
namespace Go.Vs
theorem aWE {s : bK} {n : ByteArray} : (kL s n != 3) = ((gG s n).a0 != 3) := by
  unfold kL
  by_cases h : nE s n < 0
  · rw [if_pos h]
    have : gG s n = aE4 := by unfold gG; rw [if_pos h]
    rw [this]
    cases wE n <;> rfl
  · rw [if_neg h]
noncomputable def aH9 (s : bK) (d : aG) (f : ByteArray) : List El :=
  if ((gG s f).a0 != 3 || f.toList == d.a3.toList) = true then [pb 9 d.a3 f]
  else if sP (gG s f) = true then [pb 5 d.a3 f]
  else eK (fun _ m => ifP (!d.a4.any (at0 (bM m 0))) (pb 9 d.a3 f)) 0 (gG s f).a4 ++ eK (fun _ e => aFq s d (.of e)) 0 (gG s f).a5
noncomputable def aJF (s : bK) (d : aG) (i : Nat) (e : El) : List El := ifP ((d.a4.take i).any (at0 (bM e 0))) (pb 2 d.a3 (bM e 0)) ++ aH9 s d (bM e 0)
noncomputable def wU (s : bK) (d : aG) : List El := if sP d = true then [pb 5 d.a3 nul] else eK (aJF s d) 0 d.a4
theorem aTZ {s : bK} {d : aG} {f : ByteArray} : ∀ e ∈ aH9 s d f, dP e := by
  unfold aH9
  split
  · intro e he; rw [List.mem_singleton.1 he]; exact aRf
  · split
    · intro e he; rw [List.mem_singleton.1 he]; exact aRf
    · exact gI (oL fun j x => wS) (oL fun j x => aQU)
theorem aEG {s : bK} {d : aG} : ∀ e ∈ wU s d, dP e := by
  unfold wU
  split
  · intro e he; rw [List.mem_singleton.1 he]; exact aRf
  · exact oL fun j x => gI wS aTZ
section
variable {s : bK} {d : aG}
theorem aSK {x : aG} (hd : eA d.l) (hx : eA x.l) (bd : sP d = false) (bx : sP x = false) : (eK (fun _ e => aFq s d (.of e)) 0 x.a5).length ≤ 20000 := by
  have h2 := kT (g := fun _ e => aFq s d (.of e)) (c := 200) x.a5 0 fun j hj => by
    obtain ⟨y, hy, _⟩ := (hx.p.2.2.2.2.2.1 _ (List.getElem_mem hj)).st
    have := (gT bx).2.2.2.2 _ (List.getElem_mem hj)
    rw [hy] at this ⊢
    exact aNN hd bd this
  have := (gT bx).2.1
  omega
theorem aOZ {f : ByteArray} (hs : bL s.l) (hd : eA d.l) (bd : sP d = false) : (aH9 s d f).length ≤ 20100 := by
  unfold aH9
  split
  · simp
  · split
    · simp
    · rename_i h
      have hb : sP (gG s f) = false := by simpa using h
      have h1 := kT (g := fun _ m => ifP (!d.a4.any (at0 (bM m 0))) (pb 9 d.a3 f)) (c := 1) (gG s f).a4 0 fun j hj => cH _ _
      have h2 := aSK (s := s) hd (aCr (n := f) hs) bd hb
      have := (gT hb).1
      rw [List.length_append]; omega
theorem aEu (hs : bL s.l) (hd : eA d.l) : (wU s d).length ≤ 2010100 := by
  unfold wU
  split
  · simp
  · rename_i h
    have hb : sP d = false := by simpa using h
    have h2 := kT (g := aJF s d) (c := 20101) d.a4 0 fun j hj => by
      have h1 := cH ((d.a4.take (0 + j)).any (at0 (bM d.a4[j] 0))) (pb 2 d.a3 (bM d.a4[j] 0))
      have h2 := aOZ (f := bM d.a4[j] 0) hs hd hb
      unfold aJF
      rw [List.length_append]; omega
    have := (gT hb).1
    omega
theorem aQ8 {i : Nat} {e : El} (hs : bL s.l) (hd : eA d.l) (bd : sP d = false) : (aJF s d i e).length ≤ 20101 := by
  have h1 := cH ((d.a4.take i).any (at0 (bM e 0))) (pb 2 d.a3 (bM e 0))
  have h2 := aOZ (f := bM e 0) hs hd bd
  unfold aJF
  rw [List.length_append]; omega
theorem aVo {x : aG} {i : Nat} (hs : bL s.l) (hd : eA d.l) (hx : eA x.l) (bd : sP d = false) (bx : sP x = false) {out : List El} (ho : out.length ≤ 800000000) :
    aM Dn (lU out i 0 s d x) = aM Dn (fD (out ++ eK (fun _ e => aFq s d (.of e)) 0 x.a5) i s d) := by
  obtain ⟨_, _, _, _, hl, hq, _⟩ := hx.p
  obtain ⟨_, _, _, _, hld, hqd, _⟩ := hd.p
  have big := (gT bx).2.2.2.2
  have bigd := (gT bd).2.2.2.2
  have l100 := (gT bx).2.1
  refine hX (es := x.a5) (g := fun _ e => aFq s d (.of e)) (c := 200) (N := 810000000) (A := fun out k => aM Dn (lU out i k s d x))
    (fin := fun out => aM Dn (fD out i s d)) (fun j hj => ?_) (fun out _ => by rw [xL]; simp -implicitDefEqProofs only [Int.lt_irrefl, decide_false, aC]) (fun k hk out1 ho1 => ?_) (by omega)
  · obtain ⟨y, hy, _⟩ := (hq _ (List.getElem_mem hj)).st
    have := big _ (List.getElem_mem hj)
    rw [hy] at this ⊢
    exact aNN hd bd this
  obtain ⟨y, hy, iy⟩ := (hq _ (List.getElem_mem hk)).st
  have by100 := big _ (List.getElem_mem hk)
  rw [hy] at by100
  have hw := aX (Nat.lt_of_lt_of_le hk hl)
  obtain ⟨_, _, ly, qy, ny3, ny4, _⟩ := iy.p
  rw [xL, hy]
  simp -implicitDefEqProofs only [inI, hk, aP (fun e he => (hq e he).len), bJ hk, hy, bQ.rd_l, bQ.of_l, aE6 (s := y.a0) hld hqd, fK, bF, jN, aD2]
  unfold aFq qM
  by_cases h : iK (at0 y.a0) 0 d.a5 < 0
  · simp -implicitDefEqProofs only [h, decide_true, aD, Bool.true_or, if_true, nU (z := 40) (show out1.length + 1 ≤ 1000000000 by omega) (by decide), Bool.and_true, aH, xA, hw]
    rfl
  · obtain ⟨j, hj, hi2, _⟩ := yK h
    obtain ⟨m, hm, im⟩ := (hqd _ (List.getElem_mem hj)).st
    have lm := bigd _ (List.getElem_mem hj)
    rw [hm] at lm
    have lm' : m.a2.length ≤ 100 := lm
    obtain ⟨_, _, _, qm, nm3, nm4, _⟩ := im.p
    have hn : ¬ ((j : Int) < 0) := by omega
    have hsub := aOr (x := ⟨m.a3, m.a4⟩) (y := ⟨y.a3, y.a4⟩) hs nm4 ny4
    have harg := aNe (nm := d.a3) (out := out1) im iy (by omega) (by have : y.a2.length ≤ 100 := by100; omega) (by omega)
    rw [hi2]
    simp -implicitDefEqProofs only [hn, decide_false, aC, if_false, Bool.false_or, inI, hj, aP (fun e he => (hqd e he).len), bJ hj, hm, eJ, atP, hsub, bY, bQ.rd_l, bQ.of_l, harg, kJ, xA, hw, nU (z := 40) (show out1.length + 1 ≤ 1000000000 by omega) (by decide)]
    cases aTu s ⟨m.a3, m.a4⟩ ⟨y.a3, y.a4⟩ <;> simp -implicitDefEqProofs only [Bool.not_true, Bool.not_false, aD, aC, if_true, Bool.false_eq_true, if_false]
    rfl
theorem aVu {x : aG} {i : Nat} {f : ByteArray} (hs : bL s.l) (hd : eA d.l) (hx : eA x.l) (bd : sP d = false) (bx : sP x = false) {out : List El} (ho : out.length ≤ 700000000) :
    aM Dn (mD out i f 0 s d x) = aM Dn (fD (out ++ (eK (fun _ m => ifP (!d.a4.any (at0 (bM m 0))) (pb 9 d.a3 f)) 0 x.a4 ++ eK (fun _ e => aFq s d (.of e)) 0 x.a5)) i s d) := by
  obtain ⟨_, _, hl, hq, _⟩ := hx.p
  obtain ⟨_, _, hld, hqd, _⟩ := hd.p
  have l100 := (gT bx).1
  rw [← List.append_assoc]
  refine hX (es := x.a4) (g := fun _ m => ifP (!d.a4.any (at0 (bM m 0))) (pb 9 d.a3 f)) (c := 1) (N := 710000000) (A := fun out k => aM Dn (mD out i f k s d x))
    (fin := fun out => aM Dn (fD (out ++ eK (fun _ e => aFq s d (.of e)) 0 x.a5) i s d)) (fun j hj => cH _ _) (fun out1 ho1 => by
      rw [xP]; simp -implicitDefEqProofs only [Int.lt_irrefl, decide_false, aC, aVo hs hd hx bd bx (show out1.length ≤ 800000000 by omega)]) (fun k hk out1 ho1 => ?_) (by omega)
  obtain ⟨u, hu, _⟩ := hq _ (List.getElem_mem hk)
  have hw := aX (Nat.lt_of_lt_of_le hk hl)
  rw [xP, hu]
  simp -implicitDefEqProofs only [inI, hk, aP (fun e he => (hq e he).len), bJ hk, hu, uB, kU (s := u) hld hqd, bY, aEw, hw, nU (z := 40) (show out1.length + 1 ≤ 1000000000 by omega) (by decide)]
  rw [show bM [aF.str u] 0 = u from rfl]
  cases d.a4.any (at0 u) <;> simp -implicitDefEqProofs only [Bool.not_true, Bool.not_false, aD, aC, eH, eC, List.append_nil]
  rfl
theorem aHt (hs : bL s.l) (hd : eA d.l) : Dn F.aXD [.agg s.l, .agg d.l] [] = some (.own (some T.aY2) (wU s d), []) := by
  refine aQ ?_
  rw [aFK, aCY hd, bY]
  unfold wU
  cases bd : sP d with
  | true => simp -implicitDefEqProofs only [aD, if_true]; rfl
  | false =>
    simp -implicitDefEqProofs only [aC, Bool.false_eq_true, if_false]
    obtain ⟨_, _, hl, hq, _⟩ := hd.p
    have l100 := (gT bd).1
    refine wO (es := d.a4) (g := aJF s d) (c := 20101) (N := 600000000) (A := fun out k => aM Dn (iH out k s d))
      (fin := fun out => some (.own (some T.aY2) out, [])) (fun j hj => aQ8 hs hd bd) (fun out1 ho1 => by rw [xH]; simp -implicitDefEqProofs only [Int.lt_irrefl, decide_false, aC]) (fun i hi out ho => ?_) (by omega)
    obtain ⟨f, hf, _⟩ := hq _ (List.getElem_mem hi)
    have hw := aX (Nat.lt_of_lt_of_le hi hl)
    have il : i ≤ d.a4.length := by omega
    have tk := kU (es := d.a4.take i) (s := f) (by rw [List.length_take]; omega) (fun e he => hq e (List.mem_of_mem_take he))
    have three : ∀ out' : List El, aM Dn (fD out' i s d) = aM Dn (iH out' ((i + 1 : Nat) : Int) s d) := fun out' => by rw [aEn, hw]
    have ix := aCr (n := f) hs
    have one : ∀ out' : List El, out'.length + 1 ≤ 700000000 → aM Dn (pM out' i f s d) = aM Dn (iH (out' ++ aH9 s d f) ((i + 1 : Nat) : Int) s d) := fun out' ho' => by
      rw [aEE, mU hs, fK, aWE]
      have two : ∀ b : Bool, b = ((gG s f).a0 != 3 || f.toList == d.a3.toList) → aM Dn (pO out' i f b s d) = aM Dn (iH (out' ++ aH9 s d f) ((i + 1 : Nat) : Int) s d) := fun b hb => by
        rw [aEC]
        unfold aH9
        rw [← hb]
        cases b with
        | true =>
          simp -implicitDefEqProofs only [aD, if_true, nU (z := 40) (show out'.length + 1 ≤ 1000000000 by omega) (by decide), Bool.and_true, aH, three]
          rfl
        | false =>
          have hk : ¬ nE s f < 0 := fun h => by
            have : gG s f = aE4 := by unfold gG; rw [if_pos h]
            rw [this] at hb
            simp [aE4] at hb
          obtain ⟨j, hj, y, hi2, hy, iy⟩ := tM hs hk
          have hy2 := aAr hi2 hy
          simp -implicitDefEqProofs only [aC, Bool.false_eq_true, if_false, rJ hs, fK, hi2, inI, hj, aP (fun e he => (hs.p.2.1 e he).len), bJ hj, hy, aG.rd_l, aCY iy, bY, hy2]
          cases bx : sP y with
          | true =>
            simp -implicitDefEqProofs only [aD, if_true, nU (z := 40) (show out'.length + 1 ≤ 1000000000 by omega) (by decide), Bool.and_true, aH, three]
            rfl
          | false =>
            simp -implicitDefEqProofs only [aC, Bool.false_eq_true, if_false, aVu hs hd iy bd bx (show out'.length ≤ 700000000 by omega), three]
      cases h3 : ((gG s f).a0 != 3) with
      | true => simp -implicitDefEqProofs only [show (true == false) = false from rfl, aC]; exact two true (by rw [h3]; rfl)
      | false => simp -implicitDefEqProofs only [beq_self_eq_true, aD]; exact two _ (by rw [h3]; rfl)
    rw [xH, hf]
    simp -implicitDefEqProofs only [inI, hi, il, aP (fun e he => (hq e he).len), bJ hi, hf, uB, List.drop_zero, tk, bY, nU (z := 40) (show out.length + 1 ≤ 1000000000 by omega) (by decide)]
    unfold aJF
    rw [show bM [aF.str f] 0 = f from rfl, ← List.append_assoc]
    cases (d.a4.take i).any (at0 f)
    · simp -implicitDefEqProofs only [aC, eC, List.append_nil]; exact one out (by omega)
    · simp -implicitDefEqProofs only [aD, eH]; exact one _ (by rw [List.length_append, List.length_singleton]; omega)
theorem aVp {x : aG} {i : Nat} {f : ByteArray} (hs : bL s.l) (hd : eA d.l) (hx : eA x.l) (bd : sP d = false) (bx : sP x = false) {out : List El} (ho : out.length ≤ 700000000) :
    aY Dn (lS f d.a4 d.a4.length i x.a4 x.a4.length 0 s d x out) = aY Dn (iJ d.a4 d.a4.length i s d (out ++ (eK (fun _ m => ifP (!d.a4.any (at0 (bM m 0))) (pb 9 d.a3 f)) 0 x.a4 ++ eK (fun _ e => aFq s d (.of e)) 0 x.a5))) := by
  obtain ⟨_, _, hl, hq, _⟩ := hx.p
  obtain ⟨_, _, hld, hqd, _⟩ := hd.p
  have l100 := (gT bx).1
  have hfl := aSK (s := s) hd hx bd bx
  rw [← List.append_assoc]
  refine hX (es := x.a4) (g := fun _ m => ifP (!d.a4.any (at0 (bM m 0))) (pb 9 d.a3 f)) (c := 1) (N := 710000000) (A := fun out k => aY Dn (lS f d.a4 d.a4.length i x.a4 x.a4.length k s d x out))
    (fin := fun out => aY Dn (iJ d.a4 d.a4.length i s d (out ++ eK (fun _ e => aFq s d (.of e)) 0 x.a5))) (fun j hj => cH _ _) (fun out1 ho1 => by
      rw [yF]
      simp -implicitDefEqProofs only [Int.lt_irrefl, decide_false, aC, aQ0 hs hd hx bd bx, kJ, aNQ (l := eK (fun _ e => aFq s d (.of e)) 0 x.a5) (out := out1) (oL fun j x => aQU) (by omega), fV]) (fun k hk out1 ho1 => ?_) (by omega)
  obtain ⟨u, hu, _⟩ := hq _ (List.getElem_mem hk)
  have hw := aX (Nat.lt_of_lt_of_le hk hl)
  rw [yF, hu]
  simp -implicitDefEqProofs only [inI, hk, aP (fun e he => (hq e he).len), bJ hk, hu, uB, iS (s := u) hld hqd, bY, aAR (out := out1) (show out1.length + 1 ≤ 1000000000 by omega), fV, hw]
  rfl
theorem aHm (hs : bL s.l) (hd : eA d.l) : Dn F.aXI [.agg s.l, .agg d.l] [] = some (.own (some T.aY2) (wU s d), []) := by
  refine aQ ?_
  rw [aFw, aBM hd, bY]
  unfold wU
  cases bd : sP d with
  | true => simp -implicitDefEqProofs only [aD, if_true, aAR (out := []) (show ([] : List El).length + 1 ≤ 1000000000 by decide), fV]; rfl
  | false =>
    simp -implicitDefEqProofs only [aC, Bool.false_eq_true, if_false]
    obtain ⟨_, _, hl, hq, _⟩ := hd.p
    have l100 := (gT bd).1
    refine wO (es := d.a4) (g := aJF s d) (c := 20101) (N := 600000000) (A := fun out k => aY Dn (jX d.a4 d.a4.length k s d out))
      (fin := fun out => some (.own (some T.aY2) out, [])) (fun j hj => aQ8 hs hd bd) (fun out1 ho1 => by rw [wW]; simp -implicitDefEqProofs only [Int.lt_irrefl, decide_false, aC]) (fun i hi out ho => ?_) (by omega)
    obtain ⟨f, hf, _⟩ := hq _ (List.getElem_mem hi)
    have hw := aX (Nat.lt_of_lt_of_le hi hl)
    have il : i ≤ d.a4.length := by omega
    have tk := iS (es := d.a4.take i) (s := f) (by rw [List.length_take]; omega) (fun e he => hq e (List.mem_of_mem_take he))
    have two : ∀ out' : List El, aY Dn (iJ d.a4 d.a4.length i s d out') = aY Dn (jX d.a4 d.a4.length ((i + 1 : Nat) : Int) s d out') := fun out' => by rw [aD1, hw]
    have ix := aCr (n := f) hs
    have one : ∀ (b : Bool) (out' : List El), out'.length + 1 ≤ 700000000 → b = ((gG s f).a0 != 3 || f.toList == d.a3.toList) → aY Dn (pX f d.a4 d.a4.length i b s d (gG s f) out') = aY Dn (jX d.a4 d.a4.length ((i + 1 : Nat) : Int) s d (out' ++ aH9 s d f)) := fun b out' ho' hb => by
      rw [aEh]
      unfold aH9
      rw [← hb]
      cases b with
      | true => simp -implicitDefEqProofs only [aD, if_true, aAR (out := out') (show out'.length + 1 ≤ 1000000000 by omega), fV, two, eH]
      | false =>
        simp -implicitDefEqProofs only [aC, Bool.false_eq_true, if_false, aBM ix, bY]
        cases bx : sP (gG s f) with
        | true => simp -implicitDefEqProofs only [aD, if_true, aAR (out := out') (show out'.length + 1 ≤ 1000000000 by omega), fV, two, eH]
        | false => simp -implicitDefEqProofs only [aC, Bool.false_eq_true, if_false, aVp hs hd ix bd bx (show out'.length ≤ 700000000 by omega), two]
    have hlen := cH ((d.a4.take i).any (at0 f)) (pb 2 d.a3 f)
    rw [wW, hf]
    simp -implicitDefEqProofs only [inI, hi, il, aP (fun e he => (hq e he).len), bJ hi, hf, uB, List.drop_zero, tk, bY, aAR (out := out) (show out.length + 1 ≤ 1000000000 by omega), fV, nD hs, Option.bind_some, aOg, aNU, aG.va_l, aRx, aOW]
    unfold aJF
    rw [show bM [aF.str f] 0 = f from rfl, ← List.append_assoc]
    cases h3 : ((gG s f).a0 != 3) with
    | true => simp -implicitDefEqProofs only [show (true == false) = false from rfl, aC]; exact one true _ (by rw [List.length_append]; omega) (by rw [h3]; rfl)
    | false => simp -implicitDefEqProofs only [beq_self_eq_true, aD]; exact one _ _ (by rw [List.length_append]; omega) (by rw [h3]; rfl)
end
end Go.Vs
end
section
open Go Go.Vs Go.Proofs
set_option linter.unusedVariables false
set_option linter.unusedSimpArgs false
namespace Go.Vs
def aLb (s : bK) (n : ByteArray) : Bool := kL s n != 0 && kL s n != 6
theorem aM0 {s : bK} {n : ByteArray} (hs : bL s.l) : Dn F.aYv [.agg s.l, .leaf (.str n)] [] = some (aJ (aLb s n), []) := by
  refine aQ ?_
  rw [aJg, mU hs, fK]
  unfold aLb
  cases (kL s n != 0) <;> rfl
theorem aMO {s : bK} {n : ByteArray} (hs : bL s.l) : Dn F.aYr [.agg s.l, .leaf (.str n)] [] = some (aJ (aLb s n), []) := by
  refine aQ ?_
  rw [aJM, uX hs, fK]
  unfold aLb
  cases (kL s n != 0) <;> rfl
theorem aRm : ∀ (n : Nat) (l : List Nat), l.Nodup → (∀ x ∈ l, x < n) → l.length ≤ n
  | 0, l, _, h => by
    cases l with
    | nil => simp
    | cons x r => exact absurd (h x (by simp)) (by omega)
  | n + 1, l, hd, h => by
    have h1 := aRm n (l.erase n) (hd.erase n) fun x hx => by
      have h2 := (hd.mem_erase_iff).1 hx
      have := h x h2.2
      omega
    by_cases hm : n ∈ l
    · rw [List.length_erase_of_mem hm] at h1; omega
    · rw [List.erase_of_not_mem hm] at h1; omega
theorem aIK {s : bK} {n : ByteArray} (h : ¬ nE s n < 0) : s.a0.length ≤ 60 ∧ ∃ (j : Nat) (hj : j < s.a0.length), nE s n = (j : Int) ∧ (bM s.a0[j] 3).toList = n.toList := by
  unfold nE at h ⊢
  split at h
  · omega
  · rename_i h60
    obtain ⟨j, hj, hi, hp⟩ := yK h
    exact ⟨by omega, j, hj, by rw [if_neg h60, hi], by simpa using hp⟩
theorem aSQ {s : bK} {n : ByteArray} (h : kL s n = 6) : ¬ nE s n < 0 ∧ (gG s n).a0 = 6 := by
  unfold kL at h
  split at h
  · split at h <;> omega
  · exact ⟨by assumption, h⟩
structure aNb (s : bK) (l : List El) : Prop where
  str : ∀ e ∈ l, lZ e
  kind : ∀ e ∈ l, kL s (bM e 0) = 6
  once : (l.map key).Nodup
theorem aNb.len {s : bK} {l : List El} (h : aNb s l) : l.length ≤ 60 := by
  have h1 : (l.map fun e => (nE s (bM e 0)).toNat).Nodup := by
    have h2 := h.once
    rw [List.Nodup, List.pairwise_map] at h2 ⊢
    refine List.Pairwise.imp_of_mem (fun {a b} ha hb hn he => hn ?_) h2
    obtain ⟨_, j, hj, e1, n1⟩ := aIK (aSQ (h.kind a ha)).1
    obtain ⟨_, k, hk, e2, n2⟩ := aIK (aSQ (h.kind b hb)).1
    rw [e1, e2] at he
    simp -implicitDefEqProofs only [Int.toNat_natCast] at he
    subst he
    exact n1.symm.trans n2
  have := aRm 60 _ h1 fun x hx => by
    obtain ⟨e, he, rfl⟩ := List.mem_map.1 hx
    obtain ⟨l60, j, hj, e1, _⟩ := aIK (aSQ (h.kind e he)).1
    rw [e1]
    simp -implicitDefEqProofs only [Int.toNat_natCast]
    omega
  simpa using this
theorem aNb.add {s : bK} {l : List El} (h : aNb s l) {u : ByteArray} (hu : u.size ≤ maxLen) (hk : kL s u = 6) (hn : l.any (at0 u) = false) : aNb s (l ++ [[.str u]]) := by
  refine ⟨fun e he => ?_, fun e he => ?_, ?_⟩
  · rcases List.mem_append.1 he with he | he
    · exact h.str e he
    · rw [List.mem_singleton.1 he]; exact ⟨u, rfl, hu⟩
  · rcases List.mem_append.1 he with he | he
    · exact h.kind e he
    · rw [List.mem_singleton.1 he]; exact hk
  · rw [List.map_append, List.nodup_append]
    refine ⟨h.once, by simp, fun a ha b hb => ?_⟩
    obtain ⟨e, he, rfl⟩ := List.mem_map.1 ha
    simp -implicitDefEqProofs only [List.map_cons, List.map_nil, List.mem_singleton] at hb
    subst hb
    intro hx
    rw [List.any_eq_false] at hn
    exact hn e he (by simpa [at0, key, bM] using hx)
theorem aWp {s : bK} {n : ByteArray} (hs : bL s.l) : ∀ (k : Nat) (l : List El) (h : Nat), aNb s l → h ≤ l.length → 61 - h ≤ k →
    ∃ b, cN Dn (yS n l h s) = some (aJ b, []) ∧ cC Dn (xW n l h s) = some (aJ b, []) := by
  intro k
  induction k with
  | zero => intro l h hl hh hk; have := hl.len; omega
  | succ k ih =>
    intro l h hl hh hk
    have l60 := hl.len
    rw [aJs, yH]
    by_cases hlt : h < l.length
    · obtain ⟨u, hu, _⟩ := hl.str _ (List.getElem_mem hlt)
      have k6 := hl.kind _ (List.getElem_mem hlt)
      rw [hu] at k6
      have k6' : kL s u = 6 := k6
      obtain ⟨tp, d6⟩ := aSQ k6'
      obtain ⟨j, hj, y, hi, hy, iy⟩ := tM hs tp
      have hd := aAr hi hy
      rw [hd] at d6
      obtain ⟨_, _, _, _, _, _, ly, qy, _⟩ := iy.p
      have inner : ∀ i : Nat, i ≤ y.a6.length → ∀ l' : List El, aNb s l' → h < l'.length →
          ∃ b, cN Dn (xI n l' h i s y) = some (aJ b, []) ∧ cC Dn (xU n l' h y.a6 y.a6.length i s) = some (aJ b, []) := by
        refine cU ?_ ?_
        · intro l' hl' hh'
          have hw := aVe (i := h) (by have := hl'.len; omega)
          rw [aCm, aCl]
          simp -implicitDefEqProofs only [Int.lt_irrefl, decide_false, aC, aCj, hw]
          exact ih l' (h + 1) hl' hh' (by omega)
        · intro i hi ihi l' hl' hh'
          obtain ⟨x, hx, ix⟩ := (qy _ (List.getElem_mem hi)).st
          have hw := aX (Nat.lt_of_lt_of_le hi ly)
          have go : ∀ b : Bool, (b = false → kL s x.a2 = 6) → ∃ r, cN Dn (sM n l' h i b s y x) = some (aJ r, []) ∧ cC Dn (sR n l' h x.a2 y.a6 y.a6.length i b s) = some (aJ r, []) := fun b hb => by
            rw [aKr, aKf]
            cases b with
            | true =>
              simp -implicitDefEqProofs only [aD, yV, yU, hw]
              exact ihi l' hl' hh'
            | false =>
              simp -implicitDefEqProofs only [aC]
              cases x.a2.toList == n.toList with
              | true => exact ⟨true, rfl, rfl⟩
              | false =>
                have ll : l'.length ≤ maxLen := by have := hl'.len; simp -implicitDefEqProofs only [maxLen]; omega
                simp -implicitDefEqProofs only [aC, kU (s := x.a2) ll hl'.str, iS (s := x.a2) ll hl'.str, bY]
                cases hc : l'.any (at0 x.a2) with
                | true =>
                  simp -implicitDefEqProofs only [Bool.not_true, aC, yV, yU, hw]
                  exact ihi l' hl' hh'
                | false =>
                  simp -implicitDefEqProofs only [Bool.not_false, aD, yV, yU, hw, aP2 (z := 16) (n := l'.length) (k := 1) (by have := hl'.len; omega) (by decide), Bool.and_true, aH]
                  exact ihi _ (hl'.add ix.p.2.2.1 (hb rfl) hc) (by rw [List.length_append]; omega)
          rw [aCm, aCl]
          simp -implicitDefEqProofs only [inI, hi, aP (fun e he => (qy e he).len), bJ hi, hx, bC.rd_l, mU hs, uX hs, fK]
          cases (!x.a3.toList == (ByteArray.mk #[33]).toList) == false
          · rw [aC, aC]
            exact go true (by simp)
          · rw [aD, aD]
            cases x.a4 == false
            · rw [aC, aC]
              exact go true (by simp)
            · rw [aD, aD]
              exact go _ (fun hk => by simpa using hk)
      simp -implicitDefEqProofs only [inI, hlt, aP (fun e he => (hl.str e he).len), bJ hlt, hu, uB, rJ hs, hi, fK, hj, aP (fun e he => (hs.p.2.1 e he).len), bJ hj, hy, aG.rd_l, nD hs, hd, rdR, rB, beq_self_eq_true, Bool.not_true, Bool.not_false, Bool.and_true, Bool.true_and, bT, bF, aG.va_l, d6, bne_self_eq_false]
      exact inner 0 (Nat.zero_le _) l hl hlt
    · have hn : ¬ ((h : Int) < (l.length : Int)) := by omega
      simp -implicitDefEqProofs only [hn, decide_false, aC]
      exact ⟨false, rfl, rfl⟩
open Classical in
noncomputable def aPH (s : bK) (n : ByteArray) : Bool := decide (Dn F.aYV [.agg s.l, .leaf (.str n)] [] = some (aJ true, []))
theorem aQu {s : bK} {n : ByteArray} (hs : bL s.l) (hn : n.size ≤ maxLen) : Dn F.aYV [.agg s.l, .leaf (.str n)] [] = some (aJ (aPH s n), []) ∧ Dn F.aY1 [.agg s.l, .leaf (.str n)] [] = some (aJ (aPH s n), []) := by
  have key : ∃ b, Dn F.aYV [.agg s.l, .leaf (.str n)] [] = some (aJ b, []) ∧ Dn F.aY1 [.agg s.l, .leaf (.str n)] [] = some (aJ b, []) := by
    by_cases hk : kL s n = 6
    · obtain ⟨b, h1, h2⟩ := aWp (n := n) hs 61 [[.str n]] 0 ⟨fun e he => by rw [List.mem_singleton.1 he]; exact ⟨n, rfl, hn⟩, fun e he => by rw [List.mem_singleton.1 he]; exact hk, by simp⟩ (by simp) (by omega)
      refine ⟨b, aQ ?_, aQ ?_⟩
      · rw [aDz, mU hs, fK, hk, show ((6 : Int) != 6) = false from rfl, aC]
        exact h1
      · rw [aDu]
        exact h2
    · refine ⟨false, aQ ?_, aQ ?_⟩
      · rw [aDz, mU hs, fK, show (kL s n != 6) = true by simpa using hk, aD]
      · have nd : ((gG s n).a0 != 6) = true := by
          unfold kL at hk
          split at hk
          · rename_i ht
            have : gG s n = aE4 := by unfold gG; rw [if_pos ht]
            rw [this]; rfl
          · simpa using hk
        rw [aDu, yH]
        simp -implicitDefEqProofs only [List.length_cons, List.length_nil, show decide ((0 : Int) < ((0 + 1 : Nat) : Int)) = true from rfl, aD, show ((decide (0 ≤ (0 : Int)) && true) && sized 1 [[aF.str n]]) = true from rfl, aH, show ([[aF.str n]] : List El).getD (0 : Int).toNat [] = [aF.str n] from rfl, uB, nD hs, rdR, rB, beq_self_eq_true, Bool.not_true, Bool.not_false, Bool.and_true, Bool.true_and, bT, bF, aG.va_l, nd, aCj, show IntKind.i64.wrap (0 + 1) = 1 from rfl]
        rw [yH]
        simp -implicitDefEqProofs only [List.length_cons, List.length_nil, show decide ((1 : Int) < ((0 + 1 : Nat) : Int)) = false from rfl, aC]
        rfl
  obtain ⟨b, h1, h2⟩ := key
  have : aPH s n = b := by
    unfold aPH
    rw [h1]
    cases b <;> simp
  rw [this]
  exact ⟨h1, h2⟩
section
variable {s : bK} {d : aG}
theorem aST {n : ByteArray} {es : List El} (h : es.length ≤ 100) : aBm s n es = eK (inA s n es) 0 es := by unfold aBm; rw [if_neg (by omega)]
noncomputable def aCP (s : bK) (d : aG) (i : Nat) (e : El) : List El :=
  ifP (hR (bM e 0)) (pb 6 d.a3 (bM e 0)) ++ (ifP ((d.a5.take i).any (at0 (bM e 0))) (pb 2 d.a3 (bM e 0)) ++ (ifP (!aLb s (bM e 3)) (pb 8 d.a3 (bM e 0)) ++ aBm s (d.a3 ++ dot ++ bM e 0) (sJ e 2)))
noncomputable def aAc (s : bK) (d : aG) : List El := ifP ((d.a5.length : Int) == 0) (pb 7 d.a3 nul) ++ (eK (aCP s d) 0 d.a5 ++ wU s d)
def aJ2 (s : bK) (d : aG) (i : Nat) (e : El) : List El := ifP ((d.a4.take i).any (at0 (bM e 0))) (pb 2 d.a3 (bM e 0)) ++ ifP (kL s (bM e 0) != 2) (pb 8 d.a3 (bM e 0))
def aQZ (s : bK) (d : aG) : List El := ifP ((d.a4.length : Int) == 0) (pb 7 d.a3 nul) ++ eK (aJ2 s d) 0 d.a4
def aKc (d : aG) (i : Nat) (e : El) : List El := ifP (hR (bM e 0)) (pb 6 d.a3 (bM e 0)) ++ ifP ((d.a7.take i).any (at0 (bM e 0))) (pb 2 d.a3 (bM e 0))
def aRc (d : aG) : List El := ifP ((d.a7.length : Int) == 0) (pb 7 d.a3 nul) ++ eK (aKc d) 0 d.a7
noncomputable def aEM (s : bK) (d : aG) : List El :=
  if (d.a0 == 2 || d.a0 == 3) = true then aAc s d
  else if (d.a0 == 4) = true then aQZ s d
  else if (d.a0 == 5) = true then aRc d
  else if (d.a0 == 6) = true then ifP ((d.a6.length : Int) == 0) (pb 7 d.a3 nul) ++ (aBm s d.a3 d.a6 ++ ifP (aPH s d.a3) (pb 13 d.a3 nul))
  else []
noncomputable def tyP (s : bK) (d : aG) : List El :=
  if sP d = true then [pb 5 d.a3 nul] else ifP (hR d.a3) (pb 6 d.a3 nul) ++ (ifP (wE d.a3) (pb 2 d.a3 nul) ++ aEM s d)
theorem aD6 {i : Nat} {e : El} : (aCP s d i e).length ≤ 403 := by
  unfold aCP
  have h1 := cH (hR (bM e 0)) (pb 6 d.a3 (bM e 0))
  have h2 := cH ((d.a5.take i).any (at0 (bM e 0))) (pb 2 d.a3 (bM e 0))
  have h3 := cH (!aLb s (bM e 3)) (pb 8 d.a3 (bM e 0))
  have h4 := aAQ (s := s) (n := d.a3 ++ dot ++ bM e 0) (es := sJ e 2)
  rw [List.length_append, List.length_append, List.length_append]; omega
theorem aLA {i : Nat} {e : El} : (aJ2 s d i e).length ≤ 2 := by
  unfold aJ2
  have h1 := cH ((d.a4.take i).any (at0 (bM e 0))) (pb 2 d.a3 (bM e 0))
  have h2 := cH (kL s (bM e 0) != 2) (pb 8 d.a3 (bM e 0))
  rw [List.length_append]; omega
theorem aKP {i : Nat} {e : El} : (aKc d i e).length ≤ 2 := by
  unfold aKc
  have h1 := cH (hR (bM e 0)) (pb 6 d.a3 (bM e 0))
  have h2 := cH ((d.a7.take i).any (at0 (bM e 0))) (pb 2 d.a3 (bM e 0))
  rw [List.length_append]; omega
theorem aPI (hs : bL s.l) (hd : eA d.l) : (tyP s d).length ≤ 2100000 := by
  unfold tyP
  split
  · simp
  · rename_i nb
    have nb : sP d = false := by simpa using nb
    obtain ⟨l4, l5, l6, l7, _⟩ := gT nb
    have h1 := cH (hR d.a3) (pb 6 d.a3 nul)
    have h2 := cH (wE d.a3) (pb 2 d.a3 nul)
    have h3 : (aEM s d).length ≤ 2099990 := by
      unfold aEM
      split
      · unfold aAc
        have a1 := cH ((d.a5.length : Int) == 0) (pb 7 d.a3 nul)
        have a2 := kT (g := aCP s d) (c := 403) d.a5 0 fun j hj => aD6
        have a3 := aEu hs hd
        rw [List.length_append, List.length_append]; omega
      · split
        · unfold aQZ
          have a1 := cH ((d.a4.length : Int) == 0) (pb 7 d.a3 nul)
          have a2 := kT (g := aJ2 s d) (c := 2) d.a4 0 fun j hj => aLA
          rw [List.length_append]; omega
        · split
          · unfold aRc
            have a1 := cH ((d.a7.length : Int) == 0) (pb 7 d.a3 nul)
            have a2 := kT (g := aKc d) (c := 2) d.a7 0 fun j hj => aKP
            rw [List.length_append]; omega
          · split
            · have a1 := cH ((d.a6.length : Int) == 0) (pb 7 d.a3 nul)
              have a2 := aAQ (s := s) (n := d.a3) (es := d.a6)
              have a3 := cH (aPH s d.a3) (pb 13 d.a3 nul)
              rw [List.length_append, List.length_append]; omega
            · simp
    rw [List.length_append, List.length_append]; omega
theorem aPJ : ∀ e ∈ tyP s d, dP e := by
  unfold tyP
  split
  · intro e he; rw [List.mem_singleton.1 he]; exact aRf
  · refine gI wS (gI wS ?_)
    unfold aEM
    split
    · exact gI wS (gI (oL fun j x => gI wS (gI wS (gI wS aAp))) aEG)
    · split
      · exact gI wS (oL fun j x => gI wS wS)
      · split
        · exact gI wS (oL fun j x => gI wS wS)
        · split
          · exact gI wS (gI aAp wS)
          · intro e he; cases he
theorem aUG {a b : ByteArray} (ha : a.size ≤ 1048576) (hb : b.size ≤ 1048576) : decide (a.size + (ByteArray.mk #[46]).size ≤ 140737488355328) = true ∧ decide ((a ++ ByteArray.mk #[46]).size + b.size ≤ 140737488355328) = true := by
  have h1 : (ByteArray.mk #[46]).size = 1 := rfl
  rw [ByteArray.size_append, h1]
  exact ⟨decide_eq_true (by omega), decide_eq_true (by omega)⟩
theorem aLr (hs : bL s.l) (bs : bdL 1048576 s.l) (hd : eA d.l) (bd : bdL 1048576 d.l) (nb : sP d = false) {out : List El} (ho : out.length ≤ 1000) :
    Dn F.aYd [.agg s.l, .agg d.l, .own (some T.aY2) out] [] = some (.own (some T.aY2) (out ++ aAc s d), []) := by
  obtain ⟨_, _, _, _, hl, hq, _⟩ := hd.p
  obtain ⟨_, _, _, b3, _, ⟨_, b5⟩, _⟩ := bd
  obtain ⟨_, l5, _, _, big⟩ := gT nb
  refine aQ ?_
  rw [aFl]
  have e0 : ∀ q : List El, q.length ≤ 2000 → aT Dn (qA q s d) = some (.own (some T.aY2) (q ++ (eK (aCP s d) 0 d.a5 ++ wU s d)), []) := fun q hq' => by
    rw [aEN, ← List.append_assoc]
    refine hX (es := d.a5) (g := aCP s d) (c := 403) (N := 100000) (A := fun out i => aT Dn (iI out i s d))
      (fin := fun out => some (.own (some T.aY2) (out ++ wU s d), [])) (fun j hj => aD6) (fun o ho1 => ?_) (fun i hi o ho1 => ?_) (by omega)
    · rw [yN]
      have fl := aEu hs hd
      simp -implicitDefEqProofs only [Int.lt_irrefl, decide_false, aC, aHt hs hd, kJ, aP2 (z := 40) (n := o.length) (k := (wU s d).length) (by omega) (by decide), aP (fun e he => (aEG (s := s) (d := d) e he).len), Bool.and_true, aH]
    · obtain ⟨x, hx, ix⟩ := (hq _ (List.getElem_mem hi)).st
      have bx : bdL 1048576 x.l := hx ▸ yB b5 _ (List.getElem_mem hi)
      obtain ⟨bx0, _, ⟨_, bx2⟩, _⟩ := bx
      have lx := big _ (List.getElem_mem hi)
      rw [hx] at lx
      have lx : x.a2.length ≤ 100 := lx
      obtain ⟨_, _, nx2, qx, _⟩ := ix.p
      have hw := aX (Nat.lt_of_lt_of_le hi hl)
      have ht := aRi (at0 x.a0) d.a5 i hi (by rw [hx]; exact beq_self_eq_true _)
      obtain ⟨g1, g2⟩ := aUG b3 bx0
      have s4 : ∀ o : List El, o.length ≤ 110000 → aT Dn (pN o i s d x) = aT Dn (iI (o ++ aBm s (d.a3 ++ dot ++ x.a0) x.a2) ((i + 1 : Nat) : Int) s d) := fun o hb => by
        rw [aEA, g1, g2, aH, aH, aDZ hs bs nx2 qx bx2 (by omega) (by omega), kJ, hw, aST lx]
      have s3 : ∀ o : List El, o.length ≤ 105000 → aT Dn (pY o i s d x) = aT Dn (iI (o ++ ifP (!aLb s x.a3) (pb 8 d.a3 x.a0) ++ aBm s (d.a3 ++ dot ++ x.a0) x.a2) ((i + 1 : Nat) : Int) s d) := fun o hb => by
        rw [aEQ, aM0 hs, bY, ← s4 _ (by have := cH (!aLb s x.a3) (pb 8 d.a3 x.a0); rw [List.length_append]; omega)]
        cases (!aLb s x.a3) <;> simp -implicitDefEqProofs only [aD, aC, eH, eC, List.append_nil, nU (z := 40) (show o.length + 1 ≤ 1000000000 by omega) (by decide), Bool.and_true, aH] <;> rfl
      have s2 : ∀ o : List El, o.length ≤ 103000 → aT Dn (pP o i s d x) = aT Dn (iI (o ++ ifP ((d.a5.take i).any (at0 x.a0)) (pb 2 d.a3 x.a0) ++ ifP (!aLb s x.a3) (pb 8 d.a3 x.a0) ++ aBm s (d.a3 ++ dot ++ x.a0) x.a2) ((i + 1 : Nat) : Int) s d) := fun o hb => by
        rw [aEa, aE6 (s := x.a0) hl hq, fK, ht, ← s3 _ (by have := cH ((d.a5.take i).any (at0 x.a0)) (pb 2 d.a3 x.a0); rw [List.length_append]; omega)]
        cases ((d.a5.take i).any (at0 x.a0)) <;> simp -implicitDefEqProofs only [aD, aC, eH, eC, List.append_nil, nU (z := 40) (show o.length + 1 ≤ 1000000000 by omega) (by decide), Bool.and_true, aH] <;> rfl
      rw [yN, hx]
      unfold aCP
      rw [show bM x.l 0 = x.a0 from rfl, show bM x.l 3 = x.a3 from rfl, show sJ x.l 2 = x.a2 from rfl, ← List.append_assoc, ← List.append_assoc, ← List.append_assoc]
      have e1 := s2 (o ++ ifP (hR x.a0) (pb 6 d.a3 x.a0)) (by have := cH (hR x.a0) (pb 6 d.a3 x.a0); rw [List.length_append]; omega)
      rw [← e1]
      simp -implicitDefEqProofs only [inI, hi, aP (fun e he => (hq e he).len), bJ hi, hx, bQ.rd_l, rC, bY]
      cases hR x.a0 <;> simp -implicitDefEqProofs only [aD, aC, eH, eC, List.append_nil, nU (z := 40) (show o.length + 1 ≤ 1000000000 by omega) (by decide), Bool.and_true, aH] <;> rfl
  unfold aAc
  rw [← List.append_assoc, ← e0 _ (by have := cH ((d.a5.length : Int) == 0) (pb 7 d.a3 nul); rw [List.length_append]; omega)]
  cases ((d.a5.length : Int) == 0) <;> simp -implicitDefEqProofs only [aD, aC, eH, eC, List.append_nil, nU (z := 40) (show out.length + 1 ≤ 1000000000 by omega) (by decide), Bool.and_true, aH] <;> rfl
theorem aJy (hs : bL s.l) (hd : eA d.l) (nb : sP d = false) {out : List El} (ho : out.length ≤ 1000) :
    Dn F.aXX [.agg s.l, .agg d.l, .own (some T.aY2) out] [] = some (.own (some T.aY2) (out ++ aQZ s d), []) := by
  obtain ⟨_, _, hl, hq, _⟩ := hd.p
  obtain ⟨l4, _⟩ := gT nb
  refine aQ ?_
  rw [aD3]
  have e0 : ∀ q : List El, q.length ≤ 2000 → bG Dn (oM q s d) = some (.own (some T.aY2) (q ++ eK (aJ2 s d) 0 d.a4), []) := fun q hq' => by
    rw [aDI]
    refine hX (es := d.a4) (g := aJ2 s d) (c := 2) (N := 100000) (A := fun out i => bG Dn (lA out i s d))
      (fin := fun out => some (.own (some T.aY2) out, [])) (fun j hj => aLA) (fun o ho1 => by rw [wJ]; simp) (fun i hi o ho1 => ?_) (by omega)
    obtain ⟨u, hu, _⟩ := hq _ (List.getElem_mem hi)
    have hw := aX (Nat.lt_of_lt_of_le hi hl)
    have hle : i ≤ d.a4.length := by omega
    have hh := kU (s := u) (es := d.a4.take i) (by rw [List.length_take]; omega) (fun e he => hq e (List.mem_of_mem_take he))
    have s2 : ∀ o : List El, o.length ≤ 110000 → bG Dn (oO o i s d) = bG Dn (lA (o ++ ifP (kL s u != 2) (pb 8 d.a3 u)) ((i + 1 : Nat) : Int) s d) := fun o hb => by
      rw [aDc]
      simp -implicitDefEqProofs only [inI, hi, aP (fun e he => (hq e he).len), bJ hi, hu, uB, mU hs, fK]
      cases (kL s u != 2) <;> simp -implicitDefEqProofs only [aD, aC, eH, eC, List.append_nil, nU (z := 40) (show o.length + 1 ≤ 1000000000 by omega) (by decide), Bool.and_true, aH, aDd, hw] <;> rfl
    rw [wJ, hu]
    unfold aJ2
    rw [show bM [aF.str u] 0 = u from rfl, ← List.append_assoc, ← s2 _ (by have := cH ((d.a4.take i).any (at0 u)) (pb 2 d.a3 u); rw [List.length_append]; omega)]
    simp -implicitDefEqProofs only [inI, hi, hle, aP (fun e he => (hq e he).len), bJ hi, hu, uB, List.drop_zero, hh, bY]
    cases (d.a4.take i).any (at0 u) <;> simp -implicitDefEqProofs only [aD, aC, eH, eC, List.append_nil, nU (z := 40) (show o.length + 1 ≤ 1000000000 by omega) (by decide), Bool.and_true, aH] <;> rfl
  unfold aQZ
  rw [← List.append_assoc, ← e0 _ (by have := cH ((d.a4.length : Int) == 0) (pb 7 d.a3 nul); rw [List.length_append]; omega)]
  cases ((d.a4.length : Int) == 0) <;> simp -implicitDefEqProofs only [aD, aC, eH, eC, List.append_nil, nU (z := 40) (show out.length + 1 ≤ 1000000000 by omega) (by decide), Bool.and_true, aH] <;> rfl
def aIM (es : List El) : List El := es.map fun e => [.str (bM e 0)]
theorem aUJ {es : List El} {s : ByteArray} : (aIM es).any (at0 s) = es.any (at0 s) := by unfold aIM; rw [List.any_map]; rfl
theorem aU0 {es : List El} (hq : ∀ e ∈ es, cZ e) : ∀ e ∈ aIM es, lZ e := by
  intro e he
  obtain ⟨x, hx, rfl⟩ := List.mem_map.1 he
  obtain ⟨y, rfl, iy⟩ := (hq x hx).st
  exact ⟨y.a0, rfl, iy.p.1⟩
theorem aTk {es : List El} {i : Nat} (hi : i < es.length) : aIM (es.take i) ++ [[.str (bM es[i] 0)]] = aIM (es.take (i + 1)) := by
  unfold aIM; rw [List.take_succ_eq_append_getElem hi, List.map_append]; rfl
theorem aLU (hd : eA d.l) (nb : sP d = false) {out : List El} (ho : out.length ≤ 1000) :
    Dn F.aYn [.agg d.l, .own (some T.aY2) out] [] = some (.own (some T.aY2) (out ++ aRc d), []) := by
  obtain ⟨_, _, _, _, _, _, _, _, hl, hq, _⟩ := hd.p
  obtain ⟨_, _, _, l7, _⟩ := gT nb
  refine aQ ?_
  rw [aFJ]
  have e0 : ∀ q : List El, q.length ≤ 2000 → bE Dn (pG q d) = some (.own (some T.aY2) (q ++ eK (aKc d) 0 d.a7), []) := fun q hq' => by
    rw [aEf]
    refine hX (es := d.a7) (g := aKc d) (c := 2) (N := 100000) (A := fun out i => bE Dn (jW out (aIM (d.a7.take i.toNat)) i d))
      (fin := fun out => some (.own (some T.aY2) out, [])) (fun j hj => aKP) (fun o ho1 => by rw [yR]; simp) (fun i hi o ho1 => ?_) (by omega)
    obtain ⟨x, hx, ix⟩ := (hq _ (List.getElem_mem hi)).st
    have hw := aX (Nat.lt_of_lt_of_le hi hl)
    have nt := aTk hi
    rw [hx] at nt
    have ln : (aIM (d.a7.take i)).length ≤ 100 := by unfold aIM; rw [List.length_map, List.length_take]; omega
    have hh := kU (s := x.a0) (es := aIM (d.a7.take i)) (by simp -implicitDefEqProofs only [maxLen]; omega) (aU0 fun e he => hq e (List.mem_of_mem_take he))
    rw [aUJ] at hh
    have s3 : ∀ o : List El, bE Dn (pU o (aIM (d.a7.take i)) i d) = bE Dn (jW o (aIM (d.a7.take (i + 1))) ((i + 1 : Nat) : Int) d) := fun o => by
      rw [aD9]
      simp -implicitDefEqProofs only [inI, hi, aP (fun e he => (hq e he).len), bJ hi, hx, atP, aP2 (z := 16) (n := (aIM (d.a7.take i)).length) (k := 1) (by omega) (by decide), hw]
      rw [← nt]; rfl
    have s2 : ∀ o : List El, o.length ≤ 110000 → bE Dn (pZ o (aIM (d.a7.take i)) i d) = bE Dn (jW (o ++ ifP ((d.a7.take i).any (at0 x.a0)) (pb 2 d.a3 x.a0)) (aIM (d.a7.take (i + 1))) ((i + 1 : Nat) : Int) d) := fun o hb => by
      rw [aEy, ← s3]
      simp -implicitDefEqProofs only [inI, hi, aP (fun e he => (hq e he).len), bJ hi, hx, atP, hh, bY]
      cases (d.a7.take i).any (at0 x.a0) <;> simp -implicitDefEqProofs only [aD, aC, eH, eC, List.append_nil, nU (z := 40) (show o.length + 1 ≤ 1000000000 by omega) (by decide), Bool.and_true, aH] <;> rfl
    rw [yR, hx]
    unfold aKc
    rw [show bM x.l 0 = x.a0 from rfl, ← List.append_assoc, Int.toNat_natCast, Int.toNat_natCast, ← s2 _ (by have := cH (hR x.a0) (pb 6 d.a3 x.a0); rw [List.length_append]; omega)]
    simp -implicitDefEqProofs only [inI, hi, aP (fun e he => (hq e he).len), bJ hi, hx, atP, rC, bY]
    cases hR x.a0 <;> simp -implicitDefEqProofs only [aD, aC, eH, eC, List.append_nil, nU (z := 40) (show o.length + 1 ≤ 1000000000 by omega) (by decide), Bool.and_true, aH] <;> rfl
  unfold aRc
  rw [← List.append_assoc, ← e0 _ (by have := cH ((d.a7.length : Int) == 0) (pb 7 d.a3 nul); rw [List.length_append]; omega)]
  cases ((d.a7.length : Int) == 0) <;> simp -implicitDefEqProofs only [aD, aC, eH, eC, List.append_nil, nU (z := 40) (show out.length + 1 ≤ 1000000000 by omega) (by decide), Bool.and_true, aH] <;> rfl
theorem aHl (hs : bL s.l) (bs : bdL 1048576 s.l) (hd : eA d.l) (bd : bdL 1048576 d.l) : Dn F.aXF [.agg s.l, .agg d.l] [] = some (.own (some T.aY2) (tyP s d), []) := by
  obtain ⟨_, n3, _, _, _, _, l6, q6, _⟩ := hd.p
  refine aQ ?_
  rw [aFm, aCY hd, bY]
  unfold tyP
  cases nb : sP d with
  | true => rw [if_pos rfl, aD]; rfl
  | false =>
    have bd6 := bd
    obtain ⟨_, _, _, _, _, _, ⟨_, b6⟩, _⟩ := bd6
    obtain ⟨_, _, l6', _, _⟩ := gT nb
    rw [if_neg (by decide), aC]
    have s3 : ∀ o : List El, o.length ≤ 100 → aV Dn (pV o s d) = some (.own (some T.aY2) (o ++ (aBm s d.a3 d.a6 ++ ifP (aPH s d.a3) (pb 13 d.a3 nul))), []) := fun o ho => by
      have il := aAQ (s := s) (n := d.a3) (es := d.a6)
      rw [aEB, aDZ hs bs l6 q6 b6 (by omega) (by omega), kJ, (aQu hs n3).1, bY, ← aST l6', ← List.append_assoc]
      cases aPH s d.a3 <;> simp -implicitDefEqProofs only [aD, aC, eH, eC, List.append_nil, nU (z := 40) (show (o ++ aBm s d.a3 d.a6).length + 1 ≤ 1000000000 by rw [List.length_append]; omega) (by decide), Bool.and_true, aH, xX]
      rfl
    have s1 : ∀ o : List El, o.length ≤ 90 → aV Dn (lV o s d) = some (.own (some T.aY2) (o ++ aEM s d), []) := fun o ho => by
      have e2 : aV Dn (lV o s d) = aV Dn (pH o d.a0 (d.a0 == 2 || d.a0 == 3) s d) := by
        rw [aED]
        cases d.a0 == 2
        · rw [aC, Bool.false_or]
        · rw [aD, Bool.true_or]
      rw [e2, aEo, aLr hs bs hd bd nb (by omega), aJy hs hd nb (by omega), aLU hd nb (by omega)]
      unfold aEM
      cases (d.a0 == 2 || d.a0 == 3) with
      | true => simp -implicitDefEqProofs only [aD, if_true, kJ]
      | false =>
        cases (d.a0 == 4) with
        | true => simp -implicitDefEqProofs only [aD, aC, if_true, Bool.false_eq_true, if_false, kJ]
        | false =>
          cases (d.a0 == 5) with
          | true => simp -implicitDefEqProofs only [aD, aC, if_true, Bool.false_eq_true, if_false, kJ]
          | false =>
            cases (d.a0 == 6) with
            | true =>
              simp -implicitDefEqProofs only [aD, aC, if_true, Bool.false_eq_true, if_false]
              rw [← List.append_assoc, ← s3 _ (by have := cH ((d.a6.length : Int) == 0) (pb 7 d.a3 nul); rw [List.length_append]; omega)]
              cases ((d.a6.length : Int) == 0) <;> simp -implicitDefEqProofs only [aD, aC, eH, eC, List.append_nil, nU (z := 40) (show o.length + 1 ≤ 1000000000 by omega) (by decide), Bool.and_true, aH] <;> rfl
            | false => simp -implicitDefEqProofs only [aC, Bool.false_eq_true, if_false, xX, List.append_nil]
    have s0 : ∀ o : List El, o.length ≤ 80 → aV Dn (pW o s d) = some (.own (some T.aY2) (o ++ (ifP (wE d.a3) (pb 2 d.a3 nul) ++ aEM s d)), []) := fun o ho => by
      rw [aEc, aB7, bY, ← List.append_assoc, ← s1 _ (by have := cH (wE d.a3) (pb 2 d.a3 nul); rw [List.length_append]; omega)]
      cases wE d.a3 <;> simp -implicitDefEqProofs only [aD, aC, eH, eC, List.append_nil, nU (z := 40) (show o.length + 1 ≤ 1000000000 by omega) (by decide), Bool.and_true, aH] <;> rfl
    rw [rC, bY, ← s0 _ (by have := cH (hR d.a3) (pb 6 d.a3 nul); omega)]
    cases hR d.a3 <;> simp -implicitDefEqProofs only [aD, aC, eH, eC] <;> rfl
theorem aTE {es : List El} {x : bQ} (hl : es.length ≤ maxLen) (hq : ∀ e ∈ es, cK e) :
    Dn F.aW7 [vsl es, .fn F.aXu [.eptr fP [.str x.a0, .str x.a1, .sl fP x.a2, .str x.a3, .str x.a4, .sl fP x.a5] 0]] [] = some (aJ (es.any (at0 x.a0)), []) := by
  have key : Dn F.aW9 [vsl es, .fn F.aXu [.eptr fP [.str x.a0, .str x.a1, .sl fP x.a2, .str x.a3, .str x.a4, .sl fP x.a5] 0]] [] = some (aK (iK (at0 x.a0) 0 es), []) := by
    refine aQ ?_
    rw [mB]
    refine nA (es := es) (A := fun i => bS Dn (dM es F.aXu [.str x.a0, .str x.a1, .sl fP x.a2, .str x.a3, .str x.a4, .sl fP x.a5] es.length i)) (by rw [fU]; simp) fun i hi => ?_
    obtain ⟨y, hy, _⟩ := (hq _ (List.getElem_mem hi)).st
    have hc : Dn F.aXu [.agg y.l, .eptr fP [.str x.a0, .str x.a1, .sl fP x.a2, .str x.a3, .str x.a4, .sl fP x.a5] 0] [] = some (aJ (y.a0.toList == x.a0.toList), []) := aQ (aBl ..)
    rw [fU]
    simp -implicitDefEqProofs only [inI, hi, aX (Nat.lt_of_lt_of_le hi hl), aP (fun e he => (hq e he).len), bJ hi, hy, bQ.rd_l, hc, aBr]
    rfl
  refine aQ ?_
  rw [lJ, key, aGc, oB _ _ _ (by omega)]
theorem aGp (hs : bL s.l) (bs : bdL 1048576 s.l) (hd : eA d.l) (bd : bdL 1048576 d.l) (nb : sP d = false) : Dn F.aXy [.agg s.l, .agg d.l] [] = some (.own (some T.aY2) (aAc s d), []) := by
  obtain ⟨_, _, _, _, hl, hq, _⟩ := hd.p
  obtain ⟨_, _, _, b3, _, ⟨_, b5⟩, _⟩ := bd
  obtain ⟨_, l5, _, _, big⟩ := gT nb
  refine aQ ?_
  rw [aEO, aAR (by simp), fV, List.nil_append]
  unfold aAc
  rw [← List.append_assoc]
  refine hX (es := d.a5) (g := aCP s d) (c := 403) (N := 100000) (A := fun out i => fI Dn (oA d.a5 d.a5.length i s d out))
    (fin := fun out => some (.own (some T.aY2) (out ++ wU s d), [])) (fun j hj => aD6) (fun o ho1 => ?_) (fun i hi o ho1 => ?_) (by have := cH ((d.a5.length : Int) == 0) (pb 7 d.a3 (ByteArray.mk #[])); omega)
  · rw [wH]
    have fl := aEu hs hd
    simp -implicitDefEqProofs only [Int.lt_irrefl, decide_false, aC, aHm hs hd, kJ, aNQ (out := o) aEG (show o.length + (wU s d).length ≤ 1000000000 by omega), fV]
  · obtain ⟨x, hx, ix⟩ := (hq _ (List.getElem_mem hi)).st
    have bx : bdL 1048576 x.l := hx ▸ yB b5 _ (List.getElem_mem hi)
    obtain ⟨bx0, _, ⟨_, bx2⟩, _⟩ := bx
    obtain ⟨_, _, nx2, qx, _⟩ := ix.p
    have hw := aX (Nat.lt_of_lt_of_le hi hl)
    have hle : i ≤ d.a5.length := by omega
    obtain ⟨g1, g2⟩ := aUG b3 bx0
    have fa := aTE (x := x) (es := d.a5.take i) (by rw [List.length_take]; omega) (fun e he => hq e (List.mem_of_mem_take he))
    have add : ∀ (q : Bool) (c : Int) (z : List El), z.length ≤ 200000 → Dn F.aXE [.ptr 0 0, .leaf (.bool q), aK c, .leaf (.str d.a3), .leaf (.str x.a0)] [[.own (some T.aY2) z]] = some (.tup [], [[.own (some T.aY2) (z ++ ifP q (pb c d.a3 x.a0))]]) := fun q c z hz => aAR (by omega)
    have l1 := cH (hR x.a0) (pb 6 d.a3 x.a0)
    have l2 := cH ((d.a5.take i).any (at0 x.a0)) (pb 2 d.a3 x.a0)
    have l3 := cH (!aLb s x.a3) (pb 8 d.a3 x.a0)
    have l4 := aAQ (s := s) (n := d.a3 ++ ByteArray.mk #[46] ++ x.a0) (es := x.a2)
    have a1 := add (hR x.a0) 6 o (by omega)
    have a2 := add ((d.a5.take i).any (at0 x.a0)) 2 (o ++ ifP (hR x.a0) (pb 6 d.a3 x.a0)) (by rw [List.length_append]; omega)
    have a3 := add (!aLb s x.a3) 8 (o ++ ifP (hR x.a0) (pb 6 d.a3 x.a0) ++ ifP ((d.a5.take i).any (at0 x.a0)) (pb 2 d.a3 x.a0)) (by rw [List.length_append, List.length_append]; omega)
    have a4 := aNQ (l := aBm s (d.a3 ++ ByteArray.mk #[46] ++ x.a0) x.a2) (out := o ++ ifP (hR x.a0) (pb 6 d.a3 x.a0) ++ ifP ((d.a5.take i).any (at0 x.a0)) (pb 2 d.a3 x.a0) ++ ifP (!aLb s x.a3) (pb 8 d.a3 x.a0)) aAp (by rw [List.length_append, List.length_append, List.length_append]; omega)
    rw [wH, hx]
    unfold aCP
    rw [show bM x.l 0 = x.a0 from rfl, show bM x.l 3 = x.a3 from rfl, show sJ x.l 2 = x.a2 from rfl, ← List.append_assoc, ← List.append_assoc, ← List.append_assoc]
    simp -implicitDefEqProofs only [inI, hi, hle, aP (fun e he => (hq e he).len), bJ hi, hx, bQ.rd_l, rG, bY, a1, fV, List.drop_zero, fa, a2, aMO hs, a3, g1, g2, wZ (n := d.a3 ++ ByteArray.mk #[46] ++ x.a0) hs bs nx2 qx bx2, kJ, a4, hw]
theorem aTo {es : List El} {x : kO} (hl : es.length ≤ maxLen) (hq : ∀ e ∈ es, cZ e) :
    Dn F.aW8 [vsl es, .fn F.aXv [.eptr fP [.str x.a0, .str x.a1, .sl fP x.a2] 0]] [] = some (aJ (es.any (at0 x.a0)), []) := by
  have key : Dn F.aXa [vsl es, .fn F.aXv [.eptr fP [.str x.a0, .str x.a1, .sl fP x.a2] 0]] [] = some (aK (iK (at0 x.a0) 0 es), []) := by
    refine aQ ?_
    rw [mY]
    refine nA (es := es) (A := fun i => bX Dn (dQ es F.aXv [.str x.a0, .str x.a1, .sl fP x.a2] es.length i)) (by rw [gH]; simp) fun i hi => ?_
    obtain ⟨y, hy, _⟩ := (hq _ (List.getElem_mem hi)).st
    have hc : Dn F.aXv [.agg y.l, .eptr fP [.str x.a0, .str x.a1, .sl fP x.a2] 0] [] = some (aJ (y.a0.toList == x.a0.toList), []) := aQ (aB9 ..)
    rw [gH]
    simp -implicitDefEqProofs only [inI, hi, aX (Nat.lt_of_lt_of_le hi hl), aP (fun e he => (hq e he).len), bJ hi, hy, kO.rd_l, hc, aBr]
    rfl
  refine aQ ?_
  rw [lP, key, aGc, oB _ _ _ (by omega)]
theorem aHq (hs : bL s.l) (bs : bdL 1048576 s.l) (hd : eA d.l) (bd : bdL 1048576 d.l) : Dn F.aXK [.agg s.l, .agg d.l] [] = some (.own (some T.aY2) (tyP s d), []) := by
  obtain ⟨_, n3, n4, q4, _, _, n6, q6, n7, q7, _⟩ := hd.p
  refine aQ ?_
  rw [aFx, aBM hd, bY]
  unfold tyP
  cases nb : sP d with
  | true =>
    rw [if_pos rfl, aD, aAR (q := true) (c := 5) (o := d.a3) (p := ByteArray.mk #[]) (out := []) (by simp), fV]
    rfl
  | false =>
    have bd6 := bd
    obtain ⟨_, _, _, _, _, _, ⟨_, b6⟩, _⟩ := bd6
    obtain ⟨l4, _, _, l7, _⟩ := gT nb
    have add : ∀ (q : Bool) (c : Int) (z : List El) (p : ByteArray), z.length ≤ 3000000 → Dn F.aXE [.ptr 0 0, .leaf (.bool q), aK c, .leaf (.str d.a3), .leaf (.str p)] [[.own (some T.aY2) z]] = some (.tup [], [[.own (some T.aY2) (z ++ ifP q (pb c d.a3 p))]]) := fun q c z p hz => aAR (by omega)
    have body : ∀ o : List El, o.length ≤ 80 → aZ Dn (iF d.a0 (d.a0 == 2 || d.a0 == 3) s d o) = some (.own (some T.aY2) (o ++ aEM s d), []) := fun o ho => by
      rw [aEb]
      unfold aEM
      cases (d.a0 == 2 || d.a0 == 3) with
      | true =>
        have fl : (aAc s d).length ≤ 2060000 := by
          unfold aAc
          have a1 := cH ((d.a5.length : Int) == 0) (pb 7 d.a3 nul)
          have a2 := kT (g := aCP s d) (c := 403) d.a5 0 fun j hj => aD6
          have a3 := aEu hs hd
          have := (gT nb).2.1
          rw [List.length_append, List.length_append]; omega
        have fa : ∀ e ∈ aAc s d, dP e := gI wS (gI (oL fun j x => gI wS (gI wS (gI wS aAp))) aEG)
        simp -implicitDefEqProofs only [aD, if_true, aGp hs bs hd bd nb, kJ, aNQ (out := o) fa (show o.length + (aAc s d).length ≤ 1000000000 by omega), fV, jS]
      | false =>
        simp -implicitDefEqProofs only [aC, Bool.false_eq_true, if_false]
        cases (d.a0 == 4) with
        | true =>
          simp -implicitDefEqProofs only [aD, if_true, add _ 7 o (ByteArray.mk #[]) (by omega), fV]
          unfold aQZ
          rw [← List.append_assoc]
          refine hX (es := d.a4) (g := aJ2 s d) (c := 2) (N := 100000) (A := fun out i => aZ Dn (pI d.a4 d.a4.length i s d out))
            (fin := fun out => some (.own (some T.aY2) out, [])) (fun j hj => aLA) (fun o ho1 => by rw [yA]; simp -implicitDefEqProofs only [Int.lt_irrefl, decide_false, aC, jS]) (fun i hi o ho1 => ?_) (by have := cH ((d.a4.length : Int) == 0) (pb 7 d.a3 (ByteArray.mk #[])); rw [List.length_append]; omega)
          obtain ⟨u, hu, _⟩ := q4 _ (List.getElem_mem hi)
          have hw := aX (Nat.lt_of_lt_of_le hi n4)
          have hle : i ≤ d.a4.length := by omega
          have hh := iS (s := u) (es := d.a4.take i) (by rw [List.length_take]; omega) (fun e he => q4 e (List.mem_of_mem_take he))
          have a1 := add ((d.a4.take i).any (at0 u)) 2 o u (by omega)
          have a2 := add (kL s u != 2) 8 (o ++ ifP ((d.a4.take i).any (at0 u)) (pb 2 d.a3 u)) u (by have := cH ((d.a4.take i).any (at0 u)) (pb 2 d.a3 u); rw [List.length_append]; omega)
          rw [yA, hu]
          unfold aJ2
          rw [show bM [aF.str u] 0 = u from rfl, ← List.append_assoc]
          simp -implicitDefEqProofs only [inI, hi, hle, aP (fun e he => (q4 e he).len), bJ hi, hu, uB, List.drop_zero, hh, bY, a1, fV, uX hs, fK, a2, hw]
        | false =>
          simp -implicitDefEqProofs only [aC, Bool.false_eq_true, if_false]
          cases (d.a0 == 5) with
          | true =>
            simp -implicitDefEqProofs only [aD, if_true, add _ 7 o (ByteArray.mk #[]) (by omega), fV]
            unfold aRc
            rw [← List.append_assoc]
            refine hX (es := d.a7) (g := aKc d) (c := 2) (N := 100000) (A := fun out i => aZ Dn (pT d.a7 d.a7.length i d out))
              (fin := fun out => some (.own (some T.aY2) out, [])) (fun j hj => aKP) (fun o ho1 => by rw [yW]; simp -implicitDefEqProofs only [Int.lt_irrefl, decide_false, aC, jS]) (fun i hi o ho1 => ?_) (by have := cH ((d.a7.length : Int) == 0) (pb 7 d.a3 (ByteArray.mk #[])); rw [List.length_append]; omega)
            obtain ⟨x, hx, ix⟩ := (q7 _ (List.getElem_mem hi)).st
            have hw := aX (Nat.lt_of_lt_of_le hi n7)
            have hle : i ≤ d.a7.length := by omega
            have hh := aTo (x := x) (es := d.a7.take i) (by rw [List.length_take]; omega) (fun e he => q7 e (List.mem_of_mem_take he))
            have a1 := add (hR x.a0) 6 o x.a0 (by omega)
            have a2 := add ((d.a7.take i).any (at0 x.a0)) 2 (o ++ ifP (hR x.a0) (pb 6 d.a3 x.a0)) x.a0 (by have := cH (hR x.a0) (pb 6 d.a3 x.a0); rw [List.length_append]; omega)
            rw [yW, hx]
            unfold aKc
            rw [show bM x.l 0 = x.a0 from rfl, ← List.append_assoc]
            simp -implicitDefEqProofs only [inI, hi, hle, aP (fun e he => (q7 e he).len), bJ hi, hx, kO.rd_l, List.drop_zero, rG, bY, a1, fV, hh, a2, hw]
          | false =>
            simp -implicitDefEqProofs only [aC, Bool.false_eq_true, if_false]
            cases (d.a0 == 6) with
            | true =>
              have il := aAQ (s := s) (n := d.a3) (es := d.a6)
              have z1 := cH ((d.a6.length : Int) == 0) (pb 7 d.a3 (ByteArray.mk #[]))
              simp -implicitDefEqProofs only [aD, if_true, add _ 7 o (ByteArray.mk #[]) (by omega), fV, wZ (n := d.a3) hs bs n6 q6 b6, kJ, aNQ (l := aBm s d.a3 d.a6) (out := o ++ ifP ((d.a6.length : Int) == 0) (pb 7 d.a3 (ByteArray.mk #[]))) aAp (by rw [List.length_append]; omega), (aQu hs n3).2, bY,
                add (aPH s d.a3) 13 (o ++ ifP ((d.a6.length : Int) == 0) (pb 7 d.a3 (ByteArray.mk #[])) ++ aBm s d.a3 d.a6) (ByteArray.mk #[]) (by rw [List.length_append, List.length_append]; omega), jS]
              rw [List.append_assoc, List.append_assoc]
            | false => simp -implicitDefEqProofs only [aC, Bool.false_eq_true, if_false, jS, List.append_nil]
    rw [if_neg (by decide), aC, rG, bY, add _ 6 [] _ (by simp), fV, aB3, bY, add _ 2 _ _ (by have := cH (hR d.a3) (pb 6 d.a3 (ByteArray.mk #[])); rw [List.length_append]; simp; omega), fV, List.nil_append]
    have e2 : ∀ E : List El, aA (d.a0 == 2) (aZ Dn (iF d.a0 (d.a0 == 2) s d E)) (aZ Dn (iF d.a0 (d.a0 == 3) s d E)) = aZ Dn (iF d.a0 (d.a0 == 2 || d.a0 == 3) s d E) := fun E => by
      cases d.a0 == 2
      · rw [aC, Bool.false_or]
      · rw [aD, Bool.true_or]
    rw [e2, body _ (by
      have h1 := cH (hR d.a3) (pb 6 d.a3 (ByteArray.mk #[]))
      have h2 := cH (wE d.a3) (pb 2 d.a3 (ByteArray.mk #[]))
      rw [List.length_append]; omega), List.append_assoc]
end
end Go.Vs
end
section
open Go Go.Vs Go.Proofs
set_option linter.unusedVariables false
set_option linter.unusedSimpArgs false
namespace Go.Vs
section
variable {s : bK}
def opW (k : Int) : ByteArray := if (k == 1) = true then ByteArray.mk #[113, 117, 101, 114, 121] else if (k == 2) = true then ByteArray.mk #[109, 117, 116, 97, 116, 105, 111, 110] else if (k == 3) = true then ByteArray.mk #[115, 117, 98, 115, 99, 114, 105, 112, 116, 105, 111, 110] else ByteArray.mk #[]
theorem aHY {k : Int} : Dn F.aZo [aK k] [] = some (.leaf (.str (opW k)), []) := by
  refine aQ ?_
  rw [aMs]
  unfold opW
  simp -implicitDefEqProofs only [kS]
  cases (k == 1) <;> cases (k == 2) <;> cases (k == 3) <;> rfl
theorem aHQ {k : Int} : Dn F.aZi [aK k] [] = some (.leaf (.str (opW k)), []) := by
  have hi : Dn F.aZ4 [aK k, aK 1, aK 3] [] = some (aJ (decide (1 ≤ k) && decide (k ≤ 3)), []) := by
    refine aQ ?_
    rw [aQw]
    simp -implicitDefEqProofs only [bT]
    by_cases h : 1 ≤ k
    · simp [h]
    · simp [h]
  refine aQ ?_
  rw [aMK, hi, bY]
  by_cases h : 1 ≤ k ∧ k ≤ 3
  · have hk : k = 1 ∨ k = 2 ∨ k = 3 := by omega
    rcases hk with rfl | rfl | rfl <;> rfl
  · have hb : (decide (1 ≤ k) && decide (k ≤ 3)) = false := by
      rw [Bool.and_eq_false_iff, decide_eq_false_iff_not, decide_eq_false_iff_not]; omega
    have h1 : (k == 1) = false := by rw [beq_eq_false_iff_ne]; omega
    have h2 : (k == 2) = false := by rw [beq_eq_false_iff_ne]; omega
    have h3 : (k == 3) = false := by rw [beq_eq_false_iff_ne]; omega
    rw [hb, Bool.not_false, aD]
    unfold opW
    rw [h1, h2, h3]
    rfl
def atI (k : Int) (e : El) : Bool := aBD e 0 == k
def at1 (s : ByteArray) (e : El) : Bool := (bM e 1).toList == s.toList
def aBz (s : bK) (k : Int) : ByteArray := if iK (atI k) 0 s.a2 < 0 then ByteArray.mk #[] else bM (s.a2.getD (iK (atI k) 0 s.a2).toNat []) 1
theorem aOO {k : Int} (hs : bL s.l) : Dn F.aZt [.agg s.l, aK k] [] = some (.leaf (.str (aBz s k)), []) := by
  obtain ⟨_, _, _, _, hl, hq⟩ := hs.p
  refine aQ ?_
  rw [aMD]
  have := aBy (es := s.a2) (p := atI k) (A := fun i => mT Dn (aAj k i s)) (yes := fun i => some (.leaf (.str (bM (s.a2.getD i.toNat []) 1)), [])) (no := some (.leaf (.str (ByteArray.mk #[])), []))
    (by rw [aDG]; simp) fun i hi => by
      obtain ⟨y, hy, _⟩ := (hq _ (List.getElem_mem hi)).st
      have hw := aX (Nat.lt_of_lt_of_le hi hl)
      rw [aDG]
      simp -implicitDefEqProofs only [inI, hi, aP (fun e he => (hq e he).len), bJ hi, hy, atP, hw]
      rfl
  rw [this]
  unfold aBz
  split <;> rfl
theorem aOR {k : Int} (hs : bL s.l) : Dn F.aZA [.agg s.l, aK k] [] = some (.leaf (.str (aBz s k)), []) := by
  obtain ⟨_, _, _, _, hl, hq⟩ := hs.p
  refine aQ ?_
  rw [aMU]
  have := aBy (es := s.a2) (p := atI k) (A := fun i => mS Dn (zT k s.a2 s.a2.length i)) (yes := fun i => some (.leaf (.str (bM (s.a2.getD i.toNat []) 1)), [])) (no := some (.leaf (.str (ByteArray.mk #[])), []))
    (by rw [aDC]; simp) fun i hi => by
      obtain ⟨y, hy, _⟩ := (hq _ (List.getElem_mem hi)).st
      have hw := aX (Nat.lt_of_lt_of_le hi hl)
      rw [aDC]
      simp -implicitDefEqProofs only [inI, hi, aP (fun e he => (hq e he).len), bJ hi, hy, pD.rd_l, hw]
      rfl
  rw [this]
  unfold aBz
  split <;> rfl
abbrev atC : ByteArray := ByteArray.mk #[64]
noncomputable def aMY (s : bK) (e : El) : List El := ifP (hR (bM e 3)) (pb 6 (bM e 3) nul) ++ aBm s (atC ++ bM e 3) (sJ e 6)
def aBe (s : bK) (i : Nat) (e : El) : List El :=
  ifP ((s.a2.take i).any (atI (aBD e 0))) (pb 2 (opW (aBD e 0)) (bM e 1)) ++ ifP (kL s (bM e 1) != 2 || (s.a2.take i).any (at1 (bM e 1))) (pb 14 (opW (aBD e 0)) (bM e 1))
def aPK (s : bK) : Bool := decide ((s.a0.length : Int) > 60) || (decide ((s.a1.length : Int) > 60) || decide ((s.a2.length : Int) > 60))
noncomputable def aN8 (s : bK) : List El := if aPK s = true then [pb 5 nul nul] else
  eK (fun _ e => tyP s (.of e)) 0 s.a0 ++ (eK (fun _ => aMY s) 0 s.a1 ++ (ifP ((aBz s 1).toList == nul.toList) (pb 14 (opW 1) nul) ++ eK (aBe s) 0 s.a2))
theorem aNT {e : El} : (aMY s e).length ≤ 401 := by
  unfold aMY
  have h1 := cH (hR (bM e 3)) (pb 6 (bM e 3) nul)
  have h2 := aAQ (s := s) (n := atC ++ bM e 3) (es := sJ e 6)
  rw [List.length_append]; omega
theorem aLT {i : Nat} {e : El} : (aBe s i e).length ≤ 2 := by
  unfold aBe
  have h1 := cH ((s.a2.take i).any (atI (aBD e 0))) (pb 2 (opW (aBD e 0)) (bM e 1))
  have h2 := cH (kL s (bM e 1) != 2 || (s.a2.take i).any (at1 (bM e 1))) (pb 14 (opW (aBD e 0)) (bM e 1))
  rw [List.length_append]; omega
theorem aOo (h : aPK s = false) : s.a0.length ≤ 60 ∧ s.a1.length ≤ 60 ∧ s.a2.length ≤ 60 := by
  unfold aPK at h
  simp -implicitDefEqProofs only [Bool.or_eq_false_iff, decide_eq_false_iff_not] at h
  omega
theorem aPU (hs : bL s.l) {j : Nat} (hj : j < s.a0.length) : (tyP s (.of s.a0[j])).length ≤ 2100000 := by
  obtain ⟨y, hy, iy⟩ := (hs.p.2.1 _ (List.getElem_mem hj)).st
  rw [hy]
  exact aPI hs iy
theorem aU7 (hs : bL s.l) : (aN8 s).length ≤ 127000000 := by
  unfold aN8
  split
  · simp
  · rename_i h
    obtain ⟨l0, l1, l2⟩ := aOo (by simpa using h)
    have h0 := kT (g := fun _ e => tyP s (.of e)) (c := 2100000) s.a0 0 fun j hj => aPU hs hj
    have h1 := kT (g := fun _ => aMY s) (c := 401) s.a1 0 fun j hj => aNT
    have h2 := cH ((aBz s 1).toList == nul.toList) (pb 14 (opW 1) nul)
    have h3 := kT (g := aBe s) (c := 2) s.a2 0 fun j hj => aLT
    rw [List.length_append, List.length_append, List.length_append]; omega
theorem aQ6 : ∀ e ∈ aN8 s, dP e := by
  unfold aN8
  split
  · intro e he; rw [List.mem_singleton.1 he]; exact aRf
  · exact gI (oL fun j x => aPJ) (gI (oL fun j x => gI wS aAp) (gI wS (oL fun j x => gI wS wS)))
theorem aVN {a : ByteArray} (ha : a.size ≤ 1048576) : decide ((ByteArray.mk #[64]).size + a.size ≤ 140737488355328) = true := by
  have h1 : (ByteArray.mk #[64]).size = 1 := rfl
  exact decide_eq_true (by omega)
theorem aRt {es : List El} {p : El → Bool} {k : Nat} (hk : k < es.length) : (es.take (k + 1)).any p = ((es.take k).any p || p es[k]) := by
  rw [List.take_succ_eq_append_getElem hk, List.any_append]; simp
theorem aFk (hs : bL s.l) (bs : bdL 1048576 s.l) : Dn F.aXw [.agg s.l] [] = some (.own (some T.aY2) (aN8 s), []) := by
  obtain ⟨hl0, hq0, hl1, hq1, hl2, hq2⟩ := hs.p
  have bs' := bs
  obtain ⟨⟨_, b0⟩, ⟨_, b1⟩, _⟩ := bs'
  refine aQ ?_
  rw [aDf]
  have e0 : aA (decide ((s.a0.length : Int) > 60) == false) (aA (decide ((s.a1.length : Int) > 60) == false) (aE Dn (eY (decide ((s.a2.length : Int) > 60)) s)) (aE Dn (eY true s))) (aE Dn (eY true s)) = aE Dn (eY (aPK s) s) := by
    unfold aPK
    rw [bF, jN, bF, jN]
    cases decide ((s.a0.length : Int) > 60)
    · rw [aC, Bool.false_or]
      cases decide ((s.a1.length : Int) > 60)
      · rw [aC, Bool.false_or]
      · rw [aD, Bool.true_or]
    · rw [aD, Bool.true_or]
  rw [e0, aC9]
  unfold aN8
  cases hb : aPK s with
  | true => rw [if_pos rfl, aD]; rfl
  | false =>
    rw [if_neg (by decide), aC]
    obtain ⟨l0, l1, l2⟩ := aOo hb
    have roots : ∀ out : List El, out.length ≤ 500000000 → aE Dn (nI out s) = some (.own (some T.aY2) (out ++ eK (aBe s) 0 s.a2), []) := fun out ho => by
      rw [aCS]
      refine hX (es := s.a2) (g := aBe s) (c := 2) (N := 500001000) (A := fun out i => aE Dn (fB out i s))
        (fin := fun out => some (.own (some T.aY2) out, [])) (fun j hj => aLT) (fun o _ => by rw [vC]; simp) (fun i hi o ho1 => ?_) (by omega)
      obtain ⟨x, hx, ix⟩ := (hq2 _ (List.getElem_mem hi)).st
      have hw := aX (Nat.lt_of_lt_of_le hi hl2)
      have s9 : ∀ q : List El, aE Dn (nM q i s) = aE Dn (fB q ((i + 1 : Nat) : Int) s) := fun q => by rw [aC4, hw]
      have s8 : ∀ (q : List El) (b : Bool), q.length ≤ 600000000 → aE Dn (nN q i b s x) = aE Dn (fB (q ++ ifP b (pb 14 (opW x.a0) x.a1)) ((i + 1 : Nat) : Int) s) := fun q b hq => by
        rw [aC8, aHY, aAm]
        cases b <;> simp -implicitDefEqProofs only [aD, aC, eH, eC, List.append_nil, nU (z := 40) (show q.length + 1 ≤ 1000000000 by omega) (by decide), Bool.and_true, aH, s9] <;> rfl
      have s7 : ∀ (q : List El) (b : Bool), q.length ≤ 600000000 → aE Dn (nL q i b s x) = aE Dn (fB (q ++ ifP (kL s x.a1 != 2 || b) (pb 14 (opW x.a0) x.a1)) ((i + 1 : Nat) : Int) s) := fun q b hq => by
        rw [aC0, mU hs, fK, bF, jN, s8 _ _ hq, s8 _ _ hq]
        cases (kL s x.a1 != 2)
        · rw [aC, Bool.false_or]
        · rw [aD, Bool.true_or]
      have inner : ∀ k : Nat, k ≤ i → aE Dn (kM o i ((s.a2.take k).any (atI x.a0)) ((s.a2.take k).any (at1 x.a1)) k s x) =
          aE Dn (fB (o ++ ifP ((s.a2.take i).any (atI x.a0)) (pb 2 (opW x.a0) x.a1) ++ ifP (kL s x.a1 != 2 || (s.a2.take i).any (at1 x.a1)) (pb 14 (opW x.a0) x.a1)) ((i + 1 : Nat) : Int) s) := by
        refine cU ?_ ?_
        · rw [uP, aHY, aAm, ← s7 _ _ (by have := cH ((s.a2.take i).any (atI x.a0)) (pb 2 (opW x.a0) x.a1); rw [List.length_append]; omega)]
          simp -implicitDefEqProofs only [Int.lt_irrefl, decide_false, aC]
          cases (s.a2.take i).any (atI x.a0) <;> simp -implicitDefEqProofs only [aD, aC, eH, eC, List.append_nil, nU (z := 40) (show o.length + 1 ≤ 1000000000 by omega) (by decide), Bool.and_true, aH] <;> rfl
        · intro k hk ih
          have hk' : k < s.a2.length := by omega
          obtain ⟨y, hy, _⟩ := (hq2 _ (List.getElem_mem hk')).st
          have hwk := aX (Nat.lt_of_lt_of_le hk' hl2)
          rw [aRt hk', aRt hk', hy] at ih
          have e11 : ∀ p : Bool, aE Dn (mF o i p ((s.a2.take k).any (at1 x.a1)) k s x) = aE Dn (kM o i p ((s.a2.take k).any (at1 x.a1) || at1 x.a1 y.l) ((k + 1 : Nat) : Int) s x) := fun p => by
            rw [aCb]
            cases (s.a2.take k).any (at1 x.a1)
            · simp -implicitDefEqProofs only [inI, beq_self_eq_true, hk', aP (fun e he => (hq2 e he).len), bJ hk', hy, atP, tS, hwk, Bool.false_or]
              rfl
            · simp -implicitDefEqProofs only [show (true == false) = false from rfl, aC, tS, hwk, Bool.true_or]
          rw [uP, ← ih]
          simp -implicitDefEqProofs only [Int.ofNat_lt, hk, decide_true, aD]
          cases (s.a2.take k).any (atI x.a0)
          · simp -implicitDefEqProofs only [inI, beq_self_eq_true, hk', aP (fun e he => (hq2 e he).len), bJ hk', hy, atP, e11, Bool.false_or]
            rfl
          · simp -implicitDefEqProofs only [show (true == false) = false from rfl, aC, e11, Bool.true_or]
      have i0 := inner 0 (Nat.zero_le _)
      rw [vC, hx]
      unfold aBe
      rw [show aBD x.l 0 = x.a0 from rfl, show bM x.l 1 = x.a1 from rfl, ← List.append_assoc]
      simp -implicitDefEqProofs only [inI, hi, aP (fun e he => (hq2 e he).len), bJ hi, hx, pD.rd_l]
      exact i0
    have dirs : ∀ out : List El, out.length ≤ 400000000 → aE Dn (iW out 0 s) = some (.own (some T.aY2) (out ++ (eK (fun _ => aMY s) 0 s.a1 ++ (ifP ((aBz s 1).toList == nul.toList) (pb 14 (opW 1) nul) ++ eK (aBe s) 0 s.a2))), []) := fun out ho => by
      rw [← List.append_assoc]
      refine hX (es := s.a1) (g := fun _ => aMY s) (c := 401) (N := 410000000) (A := fun out i => aE Dn (iW out i s))
        (fin := fun out => some (.own (some T.aY2) (out ++ (ifP ((aBz s 1).toList == nul.toList) (pb 14 (opW 1) nul) ++ eK (aBe s) 0 s.a2)), [])) (fun j hj => aNT) (fun o ho1 => ?_) (fun i hi o ho1 => ?_) (by omega)
      · rw [uI, aOO hs, aAm, ← List.append_assoc, ← roots _ (by have := cH ((aBz s 1).toList == nul.toList) (pb 14 (opW 1) nul); rw [List.length_append]; omega)]
        simp -implicitDefEqProofs only [Int.lt_irrefl, decide_false, aC]
        cases ((aBz s 1).toList == (ByteArray.mk #[]).toList) <;> simp -implicitDefEqProofs only [aD, aC, eH, eC, List.append_nil, nU (z := 40) (show o.length + 1 ≤ 1000000000 by omega) (by decide), Bool.and_true, aH] <;> rfl
      · obtain ⟨x, hx, ix⟩ := (hq1 _ (List.getElem_mem hi)).st
        have bx : bdL 1048576 x.l := hx ▸ yB b1 _ (List.getElem_mem hi)
        obtain ⟨_, _, _, bx3, _, _, ⟨_, bx6⟩, _⟩ := bx
        obtain ⟨_, _, _, _, _, _, n6, q6, _⟩ := ix.p
        have hw := aX (Nat.lt_of_lt_of_le hi hl1)
        have il := aAQ (s := s) (n := ByteArray.mk #[64] ++ x.a3) (es := x.a6)
        have s3 : ∀ q : List El, q.length ≤ 500000000 → aE Dn (nJ q i s) = aE Dn (iW (q ++ aBm s (atC ++ x.a3) x.a6) ((i + 1 : Nat) : Int) s) := fun q hq => by
          rw [aC1]
          simp -implicitDefEqProofs only [inI, hi, aP (fun e he => (hq1 e he).len), bJ hi, hx, atP, aVN bx3, aJp (n := ByteArray.mk #[64] ++ x.a3) hs bs n6 q6 bx6, kJ, aP2 (z := 40) (n := q.length) (k := (aBm s (ByteArray.mk #[64] ++ x.a3) x.a6).length) (by omega) (by decide), aP (fun e he => (aAp (s := s) (n := ByteArray.mk #[64] ++ x.a3) (es := x.a6) e he).len), hw]
        rw [uI, hx]
        unfold aMY
        rw [show bM x.l 3 = x.a3 from rfl, show sJ x.l 6 = x.a6 from rfl, ← List.append_assoc, ← s3 _ (by have := cH (hR x.a3) (pb 6 x.a3 nul); rw [List.length_append]; omega)]
        simp -implicitDefEqProofs only [inI, hi, aP (fun e he => (hq1 e he).len), bJ hi, hx, atP, rC, bY]
        cases hR x.a3 <;> simp -implicitDefEqProofs only [aD, aC, eH, eC, List.append_nil, nU (z := 40) (show o.length + 1 ≤ 1000000000 by omega) (by decide), Bool.and_true, aH] <;> rfl
    refine wO (es := s.a0) (g := fun _ e => tyP s (.of e)) (c := 2100000) (N := 200000000) (A := fun out i => aE Dn (nK out i s))
      (fin := fun out => some (.own (some T.aY2) (out ++ (eK (fun _ => aMY s) 0 s.a1 ++ (ifP ((aBz s 1).toList == nul.toList) (pb 14 (opW 1) nul) ++ eK (aBe s) 0 s.a2))), [])) (fun j hj => aPU hs hj) (fun o ho1 => ?_) (fun i hi o ho1 => ?_) (by omega)
    · rw [uN]
      simp -implicitDefEqProofs only [Int.lt_irrefl, decide_false, aC]
      exact dirs o (by omega)
    · obtain ⟨x, hx, ix⟩ := (hq0 _ (List.getElem_mem hi)).st
      have bx : bdL 1048576 x.l := hx ▸ yB b0 _ (List.getElem_mem hi)
      have hw := aX (Nat.lt_of_lt_of_le hi hl0)
      have tl := aPI hs ix
      rw [uN, hx, aG.of_l]
      simp -implicitDefEqProofs only [inI, hi, aP (fun e he => (hq0 e he).len), bJ hi, hx, aG.rd_l, aHl hs bs ix bx, kJ, aP2 (z := 40) (n := o.length) (k := (tyP s x).length) (by omega) (by decide), aP (fun e he => (aPJ (s := s) (d := x) e he).len), hw]
theorem aRe {es : List El} {x : pD} (hl : es.length ≤ maxLen) (hq : ∀ e ∈ es, eV e) :
    Dn F.aXc [vsl es, .fn F.aXt [.eptr fP [.int .i64 x.a0, .str x.a1] 0]] [] = some (aJ (es.any (atI x.a0)), []) := by
  have key : Dn F.aXf [vsl es, .fn F.aXt [.eptr fP [.int .i64 x.a0, .str x.a1] 0]] [] = some (aK (iK (atI x.a0) 0 es), []) := by
    refine aQ ?_
    rw [jF]
    refine nA (es := es) (A := fun i => bZ Dn (dI es F.aXt [.int .i64 x.a0, .str x.a1] es.length i)) (by rw [dX]; simp) fun i hi => ?_
    obtain ⟨y, hy, _⟩ := (hq _ (List.getElem_mem hi)).st
    have hc : Dn F.aXt [.agg y.l, .eptr fP [.int .i64 x.a0, .str x.a1] 0] [] = some (aJ (y.a0 == x.a0), []) := aQ (aAV ..)
    rw [dX]
    simp -implicitDefEqProofs only [inI, hi, aX (Nat.lt_of_lt_of_le hi hl), aP (fun e he => (hq e he).len), bJ hi, hy, pD.rd_l, hc, aBr]
    rfl
  refine aQ ?_
  rw [iD, key, aGc, oB _ _ _ (by omega)]
theorem aRn {es : List El} {x : pD} (hl : es.length ≤ maxLen) (hq : ∀ e ∈ es, eV e) :
    Dn F.aXc [vsl es, .fn F.aXs [.eptr fP [.int .i64 x.a0, .str x.a1] 0]] [] = some (aJ (es.any (at1 x.a1)), []) := by
  have key : Dn F.aXf [vsl es, .fn F.aXs [.eptr fP [.int .i64 x.a0, .str x.a1] 0]] [] = some (aK (iK (at1 x.a1) 0 es), []) := by
    refine aQ ?_
    rw [jF]
    refine nA (es := es) (A := fun i => bZ Dn (dI es F.aXs [.int .i64 x.a0, .str x.a1] es.length i)) (by rw [dX]; simp) fun i hi => ?_
    obtain ⟨y, hy, _⟩ := (hq _ (List.getElem_mem hi)).st
    have hc : Dn F.aXs [.agg y.l, .eptr fP [.int .i64 x.a0, .str x.a1] 0] [] = some (aJ (y.a1.toList == x.a1.toList), []) := aQ (aAY ..)
    rw [dX]
    simp -implicitDefEqProofs only [inI, hi, aX (Nat.lt_of_lt_of_le hi hl), aP (fun e he => (hq e he).len), bJ hi, hy, pD.rd_l, hc, aBr]
    rfl
  refine aQ ?_
  rw [iD, key, aGc, oB _ _ _ (by omega)]
theorem aFn (hs : bL s.l) (bs : bdL 1048576 s.l) : Dn F.aXx [.agg s.l] [] = some (.own (some T.aY2) (aN8 s), []) := by
  obtain ⟨hl0, hq0, hl1, hq1, hl2, hq2⟩ := hs.p
  have bs' := bs
  obtain ⟨⟨_, b0⟩, ⟨_, b1⟩, _⟩ := bs'
  refine aQ ?_
  rw [aDn]
  have e0 : aA (decide ((s.a0.length : Int) > 60) == false) (aA (decide ((s.a1.length : Int) > 60) == false) (aR Dn (eZ (decide ((s.a2.length : Int) > 60)) s)) (aR Dn (eZ true s))) (aR Dn (eZ true s)) = aR Dn (eZ (aPK s) s) := by
    unfold aPK
    rw [bF, jN, bF, jN]
    cases decide ((s.a0.length : Int) > 60)
    · rw [aC, Bool.false_or]
      cases decide ((s.a1.length : Int) > 60)
      · rw [aC, Bool.false_or]
      · rw [aD, Bool.true_or]
    · rw [aD, Bool.true_or]
  rw [e0, aCW]
  unfold aN8
  cases hb : aPK s with
  | true =>
    rw [if_pos rfl, aD, aAR (q := true) (c := 5) (o := ByteArray.mk #[]) (p := ByteArray.mk #[]) (out := []) (by simp), fV]
    rfl
  | false =>
    rw [if_neg (by decide), aC]
    obtain ⟨l0, l1, l2⟩ := aOo hb
    have add : ∀ (q : Bool) (c : Int) (z : List El) (n p : ByteArray), z.length ≤ 900000000 → Dn F.aXE [.ptr 0 0, .leaf (.bool q), aK c, .leaf (.str n), .leaf (.str p)] [[.own (some T.aY2) z]] = some (.tup [], [[.own (some T.aY2) (z ++ ifP q (pb c n p))]]) := fun q c z n p hz => aAR (by omega)
    have roots : ∀ out : List El, out.length ≤ 500000000 → aR Dn (kP s.a2 s.a2.length 0 s out) = some (.own (some T.aY2) (out ++ eK (aBe s) 0 s.a2), []) := fun out ho => by
      refine hX (es := s.a2) (g := aBe s) (c := 2) (N := 500001000) (A := fun out i => aR Dn (kP s.a2 s.a2.length i s out))
        (fin := fun out => some (.own (some T.aY2) out, [])) (fun j hj => aLT) (fun o _ => by rw [uW]; simp) (fun i hi o ho1 => ?_) (by omega)
      obtain ⟨x, hx, ix⟩ := (hq2 _ (List.getElem_mem hi)).st
      have hw := aX (Nat.lt_of_lt_of_le hi hl2)
      have hle : i ≤ s.a2.length := by omega
      have lt : (s.a2.take i).length ≤ maxLen := by rw [List.length_take]; omega
      have qt : ∀ e ∈ s.a2.take i, eV e := fun e he => hq2 e (List.mem_of_mem_take he)
      have y1 := aRe (x := x) lt qt
      have y2 := aRn (x := x) lt qt
      have z1 := cH ((s.a2.take i).any (atI x.a0)) (pb 2 (opW x.a0) x.a1)
      have a1 := add ((s.a2.take i).any (atI x.a0)) 2 o (opW x.a0) x.a1 (by omega)
      have a2 := fun q => add q 14 (o ++ ifP ((s.a2.take i).any (atI x.a0)) (pb 2 (opW x.a0) x.a1)) (opW x.a0) x.a1 (by rw [List.length_append]; omega)
      rw [uW, hx]
      unfold aBe
      rw [show aBD x.l 0 = x.a0 from rfl, show bM x.l 1 = x.a1 from rfl, ← List.append_assoc]
      simp -implicitDefEqProofs only [inI, hi, hle, aP (fun e he => (hq2 e he).len), bJ hi, hx, pD.rd_l, aHQ, aAm, List.drop_zero, y1, y2, bY, a1, fV, uX hs, fK, a2, aC3, hw, bF, jN]
      cases (kL s x.a1 != 2)
      · rw [aC, Bool.false_or]
      · rw [aD, Bool.true_or]
    have dirs : ∀ out : List El, out.length ≤ 400000000 → aR Dn (iV s.a1 s.a1.length 0 s out) = some (.own (some T.aY2) (out ++ (eK (fun _ => aMY s) 0 s.a1 ++ (ifP ((aBz s 1).toList == nul.toList) (pb 14 (opW 1) nul) ++ eK (aBe s) 0 s.a2))), []) := fun out ho => by
      rw [← List.append_assoc]
      refine hX (es := s.a1) (g := fun _ => aMY s) (c := 401) (N := 410000000) (A := fun out i => aR Dn (iV s.a1 s.a1.length i s out))
        (fin := fun out => some (.own (some T.aY2) (out ++ (ifP ((aBz s 1).toList == nul.toList) (pb 14 (opW 1) nul) ++ eK (aBe s) 0 s.a2)), [])) (fun j hj => aNT) (fun o ho1 => ?_) (fun i hi o ho1 => ?_) (by omega)
      · rw [uT, aOR hs, aAm, aHQ, aAm, add _ 14 o _ _ (by omega), fV, roots _ (by have := cH ((aBz s 1).toList == (ByteArray.mk #[]).toList) (pb 14 (opW 1) (ByteArray.mk #[])); rw [List.length_append]; omega), List.append_assoc]
        simp -implicitDefEqProofs only [Int.lt_irrefl, decide_false, aC]
      · obtain ⟨x, hx, ix⟩ := (hq1 _ (List.getElem_mem hi)).st
        have bx : bdL 1048576 x.l := hx ▸ yB b1 _ (List.getElem_mem hi)
        obtain ⟨_, _, _, bx3, _, _, ⟨_, bx6⟩, _⟩ := bx
        obtain ⟨_, _, _, _, _, _, n6, q6, _⟩ := ix.p
        have hw := aX (Nat.lt_of_lt_of_le hi hl1)
        have il := aAQ (s := s) (n := ByteArray.mk #[64] ++ x.a3) (es := x.a6)
        have z1 := cH (hR x.a3) (pb 6 x.a3 (ByteArray.mk #[]))
        rw [uT, hx]
        unfold aMY
        rw [show bM x.l 3 = x.a3 from rfl, show sJ x.l 6 = x.a6 from rfl, ← List.append_assoc]
        simp -implicitDefEqProofs only [inI, hi, aP (fun e he => (hq1 e he).len), bJ hi, hx, aG.rd_l, rG, bY, add (hR x.a3) 6 o x.a3 (ByteArray.mk #[]) (by omega), fV, aVN bx3, wZ (n := ByteArray.mk #[64] ++ x.a3) hs bs n6 q6 bx6, kJ,
          aNQ (l := aBm s (ByteArray.mk #[64] ++ x.a3) x.a6) (out := o ++ ifP (hR x.a3) (pb 6 x.a3 (ByteArray.mk #[]))) aAp (by rw [List.length_append]; omega), hw]
    refine wO (es := s.a0) (g := fun _ e => tyP s (.of e)) (c := 2100000) (N := 200000000) (A := fun out i => aR Dn (kK s.a0 s.a0.length i s out))
      (fin := fun out => some (.own (some T.aY2) (out ++ (eK (fun _ => aMY s) 0 s.a1 ++ (ifP ((aBz s 1).toList == nul.toList) (pb 14 (opW 1) nul) ++ eK (aBe s) 0 s.a2))), [])) (fun j hj => aPU hs hj) (fun o ho1 => ?_) (fun i hi o ho1 => ?_) (by omega)
    · rw [uL]
      simp -implicitDefEqProofs only [Int.lt_irrefl, decide_false, aC]
      exact dirs o (by omega)
    · obtain ⟨x, hx, ix⟩ := (hq0 _ (List.getElem_mem hi)).st
      have bx : bdL 1048576 x.l := hx ▸ yB b0 _ (List.getElem_mem hi)
      have hw := aX (Nat.lt_of_lt_of_le hi hl0)
      have tl := aPI hs ix
      rw [uL, hx, aG.of_l]
      simp -implicitDefEqProofs only [inI, hi, aP (fun e he => (hq0 e he).len), bJ hi, hx, aG.rd_l, aHq hs bs ix bx, kJ, aNQ (l := tyP s x) (out := o) aPJ (show o.length + (tyP s x).length ≤ 1000000000 by omega), fV, hw]
end
end Go.Vs
end
section
open Go Go.Vs Go.Proofs
set_option linter.unusedVariables false
set_option linter.unusedSimpArgs false
namespace Go.Vs
section
variable {x0_0 : List (List (aF false))} {x0_1 : List (List (aF false))} {x0_2 : List (List (aF false))}
theorem aW1 (h : bL [.sl fP x0_0, .sl fP x0_1, .sl fP x0_2]) (c : Fl true) (n : Int) (hn : 0 ≤ n) : Dd F.aYC [.agg [.sl c (reE (fl c) x0_0), .sl c (reE (fl c) x0_1), .sl c (reE (fl c) x0_2)], .leaf (.int .i64 n)] [] = some (.leaf (.int .i64 (szL [.sl fP x0_0, .sl fP x0_1, .sl fP x0_2] n)), []) :=
  aAo rfl (aMx h hn) (by
    have t0 := aJr c [.sl fP x0_0, .sl fP x0_1, .sl fP x0_2]
    simp only [reL, reF] at t0
    rw [List.map_cons, t0]; rfl) rfl rfl
theorem aWZ (h : bL [.sl fP x0_0, .sl fP x0_1, .sl fP x0_2]) (c c' : Fl true) : Dd F.aYD [.agg [.sl c (reE (fl c) x0_0), .sl c (reE (fl c) x0_1), .sl c (reE (fl c) x0_2)], .agg [.sl c' (reE (fl c') x0_0), .sl c' (reE (fl c') x0_1), .sl c' (reE (fl c') x0_2)]] [] = some (.leaf (.bool true), []) :=
  aAo rfl (aMQ h) (by
    have t0 := aJr c [.sl fP x0_0, .sl fP x0_1, .sl fP x0_2]
    simp only [reL, reF] at t0
    have t := aJr c' [.sl fP x0_0, .sl fP x0_1, .sl fP x0_2]
    simp only [reL, reF] at t
    rw [List.map_cons, List.map_cons, t0, t]; rfl) rfl rfl
theorem aW4 (h : bL [.sl fP x0_0, .sl fP x0_1, .sl fP x0_2]) (ht : tL [.sl fP x0_0, .sl fP x0_1, .sl fP x0_2] ≤ 1048576) (c : Fl true) : Dd F.aYE [.agg [.sl c (reE (fl c) x0_0), .sl c (reE (fl c) x0_1), .sl c (reE (fl c) x0_2)]] [] = some (.agg [.sl bA (reE (fl bA) x0_0), .sl bA (reE (fl bA) x0_1), .sl bA (reE (fl bA) x0_2)], []) := by
  have := aMF (c := c) h ht
  simpa only [reL, reF] using this
theorem aW0 (h : bL [.sl fP x0_0, .sl fP x0_1, .sl fP x0_2]) (k : Int) : Dd F.aX0 [.agg [.sl jL (soE x0_0), .sl jL (soE x0_1), .sl jL (soE x0_2)], .leaf (.int .i64 k)] [] = some (.leaf (.int .i64 (msL [.sl fP x0_0, .sl fP x0_1, .sl fP x0_2] (k))), []) := by
  have := aJU h k
  simpa only [saL, saF] using this
theorem spd (h0 : bL [.sl fP x0_0, .sl fP x0_1, .sl fP x0_2]) (B0 : bdL 1048576 [.sl fP x0_0, .sl fP x0_1, .sl fP x0_2]) (c0 : Fl true) : Dd F.aXw [.agg [.sl c0 (reE (fl c0) x0_0), .sl c0 (reE (fl c0) x0_1), .sl c0 (reE (fl c0) x0_2)]] [] = some (.own (some T.aY2) (reE (fl eT) (aN8 (⟨x0_0, x0_1, x0_2⟩ : bK))), []) :=
  aAo rfl (aFk (s := (⟨x0_0, x0_1, x0_2⟩ : bK)) h0 B0) (by
    have t0 := aJr c0 [.sl fP x0_0, .sl fP x0_1, .sl fP x0_2]
    simp only [reL, reF] at t0
    rw [List.map_cons, t0]; rfl) rfl rfl
theorem imd (h0 : bL [.sl fP x0_0, .sl fP x0_1, .sl fP x0_2]) (B0 : bdL 1048576 [.sl fP x0_0, .sl fP x0_1, .sl fP x0_2]) (c0 : Fl true) : Dd F.aXx [.agg [.sl c0 (reE (fl c0) x0_0), .sl c0 (reE (fl c0) x0_1), .sl c0 (reE (fl c0) x0_2)]] [] = some (.own (some T.aY2) (reE (fl eT) (aN8 (⟨x0_0, x0_1, x0_2⟩ : bK))), []) :=
  aAo rfl (aFn (s := (⟨x0_0, x0_1, x0_2⟩ : bK)) h0 B0) (by
    have t0 := aJr c0 [.sl fP x0_0, .sl fP x0_1, .sl fP x0_2]
    simp only [reL, reF] at t0
    rw [List.map_cons, t0]; rfl) rfl rfl
theorem aWP (h0 : bL [.sl fP x0_0, .sl fP x0_1, .sl fP x0_2])  (q0 : 0 ≤ szL [.sl fP x0_0, .sl fP x0_1, .sl fP x0_2] 1048576) : aQD x0_0 x0_1 x0_2 (aN8 (⟨x0_0, x0_1, x0_2⟩ : bK)) := by
  have hm : maxLen = 9223372036854775807 := rfl
  have t0 := aS1 [.sl fP x0_0, .sl fP x0_1, .sl fP x0_2] 1048576 h0.ok (by omega) (by simp only [cap]; omega) q0
  have B0 := aSs (B := 1048576) (by simp only [cap]; omega) [.sl fP x0_0, .sl fP x0_1, .sl fP x0_2] 1048576 h0.ok (by omega) (by omega) q0
  have len := aU7 (s := (⟨x0_0, x0_1, x0_2⟩ : bK)) h0
  have k0 := aNx [.sl fP x0_0, .sl fP x0_1, .sl fP x0_2] (1) h0.ok (by omega) (by simp only [cap]; omega)
  exact { wl := by omega, wc := by simp only [cap]; omega, wq := aQ6 (s := (⟨x0_0, x0_1, x0_2⟩ : bK)), spc := fun c0 => spd h0 B0 c0, imp := fun c0 => by rw [imd h0 B0 c0, aUe (φ := fl eT) (ψ := fl bA) (fun e he => ((aQ6 (s := (⟨x0_0, x0_1, x0_2⟩ : bK))) e he).nosl)], mn := by omega,
           to0 := aW4 h0 (by omega), eq0 := aWZ h0, mk0 := aW0 h0 }
end
end Go.Vs
end
section
namespace Go.Vs
variable {m : Bool} {P : Program} {c : Fl m}
theorem aQl {n : Nat} {t : TypeId} {ls : List (aF m)} (hu : P.underlying t = some .bool) (h : gE P c n t ls) : ∃ b, ls = [.bool b] := by
  cases n with
  | zero => exact h.elim
  | succ n => unfold gE at h; simp only [hu] at h; exact h
theorem aR2 {n : Nat} {t : TypeId} {k : IntKind} {ls : List (aF m)} (hu : P.underlying t = some (.int k)) (h : gE P c n t ls) : ∃ z, ls = [.int k z] := by
  cases n with
  | zero => exact h.elim
  | succ n =>
    unfold gE at h
    simp only [hu] at h
    obtain ⟨z, e, _⟩ := h
    exact ⟨z, e⟩
theorem uD {n : Nat} {t : TypeId} {ls : List (aF m)} (hu : P.underlying t = some .string) (h : gE P c n t ls) : ∃ s : ByteArray, ls = [.str s] ∧ s.size ≤ maxLen := by
  cases n with
  | zero => exact h.elim
  | succ n => unfold gE at h; simp only [hu] at h; exact h
theorem aA1 {n : Nat} {t e : TypeId} {ls : List (aF m)} (hu : P.underlying t = some (.slice e)) (h : gE P c n t ls) : ∃ k es, n = k + 1 ∧ ls = [.sl c es] ∧ es.length ≤ maxLen ∧ ∀ x ∈ es, gE P c k e x := by
  cases n with
  | zero => exact h.elim
  | succ n =>
    unfold gE at h
    simp only [hu] at h
    obtain ⟨es, e1, e2, e3⟩ := h
    exact ⟨n, es, rfl, e1, e2, e3⟩
theorem rI {n : Nat} {t : TypeId} {fs : Array Field} {ts : List TypeId} {ls : List (aF m)} (hu : P.underlying t = some (.struct fs)) (hts : fs.toList.map Field.type = ts) (h : gE P c n t ls) : ∃ k, n = k + 1 ∧ aAO (gE P c k) ts ls := by
  subst hts
  cases n with
  | zero => exact h.elim
  | succ n =>
    unfold gE at h
    simp only [hu] at h
    exact ⟨n, rfl, h⟩
end Go.Vs
end
section
open Go Go.Vs Go.Proofs
set_option linter.unusedVariables false
set_option linter.unusedSimpArgs false
namespace Go.Vs
theorem aPm {n : Nat} {ls : List (aF false)} (h : gE Tryz.prog fP n 90 ls) : oX ls := by
  obtain ⟨k, rfl, hh⟩ := rI Tryz.underlying90 (ts := [9, 9]) (by kernel_rfl) h
  simp only [aAO] at hh
  obtain ⟨a0, _, rfl, g0, a1, _, rfl, g1, rfl⟩ := hh
  obtain ⟨s0, rfl, h0⟩ := uD Tryz.underlying9 g0
  obtain ⟨s1, rfl, h1⟩ := uD Tryz.underlying9 g1
  exact .mk s0 s1 h0 h1
theorem aNc {n : Nat} {ls : List (aF false)} (h : gE Tryz.prog fP n 93 ls) : dB ls := by
  induction n using Nat.strongRecOn generalizing ls with
  | ind n ih =>
    obtain ⟨k, rfl, hh⟩ := rI Tryz.underlying93 (ts := [3, 9, 91, 61]) (by kernel_rfl) h
    simp only [aAO] at hh
    obtain ⟨a0, _, rfl, g0, a1, _, rfl, g1, a2, _, rfl, g2, a3, _, rfl, g3, rfl⟩ := hh
    obtain ⟨i0, rfl⟩ := aR2 Tryz.underlying3 g0
    obtain ⟨s1, rfl, h1⟩ := uD Tryz.underlying9 g1
    obtain ⟨k2, e2, hk2, rfl, h2, g2⟩ := aA1 Tryz.underlying91 g2
    have q2 : ∀ e ∈ e2, dB e := fun e he => ih k2 (by omega) (g2 e he)
    obtain ⟨k3, e3, hk3, rfl, h3, g3⟩ := aA1 Tryz.underlying61 g3
    have q3 : ∀ e ∈ e3, lZ e := fun e he => uD Tryz.underlying9 (g3 e he)
    exact .mk i0 s1 e2 e3 h1 h2 q2 h3 q3
theorem aUF {n : Nat} {ls : List (aF false)} (h : gE Tryz.prog fP n 98 ls) : lM ls := by
  obtain ⟨k, rfl, hh⟩ := rI Tryz.underlying98 (ts := [9, 93]) (by kernel_rfl) h
  simp only [aAO] at hh
  obtain ⟨a0, _, rfl, g0, a1, _, rfl, g1, rfl⟩ := hh
  obtain ⟨s0, rfl, h0⟩ := uD Tryz.underlying9 g0
  obtain ⟨i1, s2, e3, e4, rfl, h2, h3, q3, h4, q4⟩ := (aNc g1).ex
  exact .mk s0 i1 s2 e3 e4 h0 h2 h3 q3 h4 q4
theorem aJL {n : Nat} {ls : List (aF false)} (h : gE Tryz.prog fP n 137 ls) : hQ ls := by
  obtain ⟨k, rfl, hh⟩ := rI Tryz.underlying137 (ts := [9, 27]) (by kernel_rfl) h
  simp only [aAO] at hh
  obtain ⟨a0, _, rfl, g0, a1, _, rfl, g1, rfl⟩ := hh
  obtain ⟨s0, rfl, h0⟩ := uD Tryz.underlying9 g0
  obtain ⟨k1, e1, hk1, rfl, h1, g1⟩ := aA1 Tryz.underlying27 g1
  have q1 : ∀ e ∈ e1, lM e := fun e he => aUF (g1 e he)
  exact .mk s0 e1 h0 h1 q1
theorem aN9 {n : Nat} {ls : List (aF false)} (h : gE Tryz.prog fP n 95 ls) : dF ls := by
  obtain ⟨k, rfl, hh⟩ := rI Tryz.underlying95 (ts := [9, 9, 90, 4, 93, 53]) (by kernel_rfl) h
  simp only [aAO] at hh
  obtain ⟨a0, _, rfl, g0, a1, _, rfl, g1, a2, _, rfl, g2, a3, _, rfl, g3, a4, _, rfl, g4, a5, _, rfl, g5, rfl⟩ := hh
  obtain ⟨s0, rfl, h0⟩ := uD Tryz.underlying9 g0
  obtain ⟨s1, rfl, h1⟩ := uD Tryz.underlying9 g1
  obtain ⟨s2, s3, rfl, h2, h3⟩ := (aPm g2).ex
  obtain ⟨b4, rfl⟩ := aQl Tryz.underlying4 g3
  obtain ⟨i5, s6, e7, e8, rfl, h6, h7, q7, h8, q8⟩ := (aNc g4).ex
  obtain ⟨k9, e9, hk9, rfl, h9, g5⟩ := aA1 Tryz.underlying53 g5
  have q9 : ∀ e ∈ e9, hQ e := fun e he => aJL (g5 e he)
  exact .mk s0 s1 s2 s3 b4 i5 s6 e7 e8 e9 h0 h1 h2 h3 h6 h7 q7 h8 q8 h9 q9
theorem aON {n : Nat} {ls : List (aF false)} (h : gE Tryz.prog fP n 217 ls) : cK ls := by
  obtain ⟨k, rfl, hh⟩ := rI Tryz.underlying217 (ts := [9, 9, 26, 90, 53]) (by kernel_rfl) h
  simp only [aAO] at hh
  obtain ⟨a0, _, rfl, g0, a1, _, rfl, g1, a2, _, rfl, g2, a3, _, rfl, g3, a4, _, rfl, g4, rfl⟩ := hh
  obtain ⟨s0, rfl, h0⟩ := uD Tryz.underlying9 g0
  obtain ⟨s1, rfl, h1⟩ := uD Tryz.underlying9 g1
  obtain ⟨k2, e2, hk2, rfl, h2, g2⟩ := aA1 Tryz.underlying26 g2
  have q2 : ∀ e ∈ e2, dF e := fun e he => aN9 (g2 e he)
  obtain ⟨s3, s4, rfl, h3, h4⟩ := (aPm g3).ex
  obtain ⟨k5, e5, hk5, rfl, h5, g4⟩ := aA1 Tryz.underlying53 g4
  have q5 : ∀ e ∈ e5, hQ e := fun e he => aJL (g4 e he)
  exact .mk s0 s1 e2 s3 s4 e5 h0 h1 h2 q2 h3 h4 h5 q5
theorem aQh {n : Nat} {ls : List (aF false)} (h : gE Tryz.prog fP n 220 ls) : cZ ls := by
  obtain ⟨k, rfl, hh⟩ := rI Tryz.underlying220 (ts := [9, 9, 53]) (by kernel_rfl) h
  simp only [aAO] at hh
  obtain ⟨a0, _, rfl, g0, a1, _, rfl, g1, a2, _, rfl, g2, rfl⟩ := hh
  obtain ⟨s0, rfl, h0⟩ := uD Tryz.underlying9 g0
  obtain ⟨s1, rfl, h1⟩ := uD Tryz.underlying9 g1
  obtain ⟨k2, e2, hk2, rfl, h2, g2⟩ := aA1 Tryz.underlying53 g2
  have q2 : ∀ e ∈ e2, hQ e := fun e he => aJL (g2 e he)
  exact .mk s0 s1 e2 h0 h1 h2 q2
theorem aPy {n : Nat} {ls : List (aF false)} (h : gE Tryz.prog fP n 189 ls) : eV ls := by
  obtain ⟨k, rfl, hh⟩ := rI Tryz.underlying189 (ts := [3, 9]) (by kernel_rfl) h
  simp only [aAO] at hh
  obtain ⟨a0, _, rfl, g0, a1, _, rfl, g1, rfl⟩ := hh
  obtain ⟨i0, rfl⟩ := aR2 Tryz.underlying3 g0
  obtain ⟨s1, rfl, h1⟩ := uD Tryz.underlying9 g1
  exact .mk i0 s1 h1
theorem aQV {n : Nat} {ls : List (aF false)} (h : gE Tryz.prog fP n 65 ls) : eA ls := by
  obtain ⟨k, rfl, hh⟩ := rI Tryz.underlying65 (ts := [3, 4, 9, 9, 61, 62, 26, 63, 23, 4, 53]) (by kernel_rfl) h
  simp only [aAO] at hh
  obtain ⟨a0, _, rfl, g0, a1, _, rfl, g1, a2, _, rfl, g2, a3, _, rfl, g3, a4, _, rfl, g4, a5, _, rfl, g5, a6, _, rfl, g6, a7, _, rfl, g7, a8, _, rfl, g8, a9, _, rfl, g9, a10, _, rfl, g10, rfl⟩ := hh
  obtain ⟨i0, rfl⟩ := aR2 Tryz.underlying3 g0
  obtain ⟨b1, rfl⟩ := aQl Tryz.underlying4 g1
  obtain ⟨s2, rfl, h2⟩ := uD Tryz.underlying9 g2
  obtain ⟨s3, rfl, h3⟩ := uD Tryz.underlying9 g3
  obtain ⟨k4, e4, hk4, rfl, h4, g4⟩ := aA1 Tryz.underlying61 g4
  have q4 : ∀ e ∈ e4, lZ e := fun e he => uD Tryz.underlying9 (g4 e he)
  obtain ⟨k5, e5, hk5, rfl, h5, g5⟩ := aA1 Tryz.underlying62 g5
  have q5 : ∀ e ∈ e5, cK e := fun e he => aON (g5 e he)
  obtain ⟨k6, e6, hk6, rfl, h6, g6⟩ := aA1 Tryz.underlying26 g6
  have q6 : ∀ e ∈ e6, dF e := fun e he => aN9 (g6 e he)
  obtain ⟨k7, e7, hk7, rfl, h7, g7⟩ := aA1 Tryz.underlying63 g7
  have q7 : ∀ e ∈ e7, cZ e := fun e he => aQh (g7 e he)
  obtain ⟨k8, e8, hk8, rfl, h8, g8⟩ := aA1 Tryz.underlying23 g8
  have q8 : ∀ e ∈ e8, eV e := fun e he => aPy (g8 e he)
  obtain ⟨b9, rfl⟩ := aQl Tryz.underlying4 g9
  obtain ⟨k10, e10, hk10, rfl, h10, g10⟩ := aA1 Tryz.underlying53 g10
  have q10 : ∀ e ∈ e10, hQ e := fun e he => aJL (g10 e he)
  exact .mk i0 b1 s2 s3 e4 e5 e6 e7 e8 b9 e10 h2 h3 h4 q4 h5 q5 h6 q6 h7 q7 h8 q8 h10 q10
theorem aRq {n : Nat} {ls : List (aF false)} (h : gE Tryz.prog fP n 25 ls) : bL ls := by
  obtain ⟨k, rfl, hh⟩ := rI Tryz.underlying25 (ts := [22, 22, 23]) (by kernel_rfl) h
  simp only [aAO] at hh
  obtain ⟨a0, _, rfl, g0, a1, _, rfl, g1, a2, _, rfl, g2, rfl⟩ := hh
  obtain ⟨k0, e0, hk0, rfl, h0, g0⟩ := aA1 Tryz.underlying22 g0
  have q0 : ∀ e ∈ e0, eA e := fun e he => aQV (g0 e he)
  obtain ⟨k1, e1, hk1, rfl, h1, g1⟩ := aA1 Tryz.underlying22 g1
  have q1 : ∀ e ∈ e1, eA e := fun e he => aQV (g1 e he)
  obtain ⟨k2, e2, hk2, rfl, h2, g2⟩ := aA1 Tryz.underlying23 g2
  have q2 : ∀ e ∈ e2, eV e := fun e he => aPy (g2 e he)
  exact .mk e0 e1 e2 h0 q0 h1 q1 h2 q2
end Go.Vs
end
section
set_option linter.unusedVariables false
namespace Go.Vs
theorem aSc {H : Type} {enc : TypeId × Value → H} {P : Program} {w : World} {base : Nat} {spare : Nat → Bool} {held : Bool} {fuel : Nat} {t : TypeId} {cs : List Value} {x : DataW H × List MemPlace} {ms : Array (String × TypeId)}
    (ht : P.underlying t = some (.interface ms)) (h : DataW.trod enc P w base spare held fuel t cs = some x) : cs = [.nilIface] ∨ ∃ u v, cs = [.iface u v] := by
  cases fuel with
  | zero => simp [DataW.trod] at h
  | succ n =>
    unfold DataW.trod at h
    rw [ht] at h
    split at h <;> simp_all
theorem aOu {P : Program} {w : World} {n : String} {d : DataW Unit} {g t : Nat} {ms : Array (String × TypeId)} (hg : P.globalNamed n = some g) (ht : (P.globals[g]?).map (·.type) = some t) (hu : P.underlying t = some (.interface ms)) :
    ∀ {l : List (String × DataW Unit)} {ps : List MemPlace}, DataW.LaidVars P w l ps → (n, d) ∈ l → ∃ ev, w.cell? ⟨g, 0, none⟩ = some ev ∧ (ev = .nilIface ∨ ∃ te pe, ev = .iface te pe)
  | [], _, _, hm => by cases hm
  | (n', d') :: r, ps, h, hm => by
    obtain ⟨g', t', cs, fuel, p, q, hg', ht', hv, hd, hr, _⟩ := h
    rcases List.mem_cons.1 hm with e | hm
    · obtain ⟨rfl, rfl⟩ := Prod.mk.inj e
      obtain rfl := Option.some.inj (hg.symm.trans hg')
      obtain rfl := Option.some.inj (ht.symm.trans ht')
      have hc := World.var?_cell hg hv 0
      obtain ⟨l⟩ := cs
      rcases aSc hu hd with e | ⟨u, v, e⟩
      · simp at e; subst e
        exact ⟨_, hc, .inl rfl⟩
      · simp at e; subst e
        exact ⟨_, hc, .inr ⟨u, v, rfl⟩⟩
    · exact aOu hg ht hu hr hm
end Go.Vs
end
