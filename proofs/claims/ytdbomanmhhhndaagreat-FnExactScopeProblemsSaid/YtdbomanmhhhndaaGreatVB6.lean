/- What the program's functions compute, read off their text by the shadow runner (UTs, UTe, UD, UTt, UTm0); no condition. -/
import Derived.Test.YtdbomanmhhhndaaGreatVB5
section
open Go Go.Vs Go.Proofs
set_option linter.unusedVariables false
set_option linter.unusedSimpArgs false
namespace Go.Vs
theorem aCC {es : List (List (aB false))} (hl : es.length ≤ maxLen) (hq : ∀ e ∈ es, gB e) : ∀ i : Nat, i ≤ es.length → ∀ n : Int, 0 ≤ n →
    fV Dn (nO es n i) = some (aH (szE (es.drop i) n), []) := by
  refine bS ?_ ?_
  · intro n hn; rw [uE]; simp [szE]
  · intro i hi ih n hn
    obtain ⟨s, he, hs⟩ := hq _ (List.getElem_mem hi)
    rw [uE, dR hi]
    simp only [Int.ofNat_lt, hi, decide_true, aE, Int.natCast_nonneg, Bool.and_true, Int.toNat_natCast, aD, bH (Nat.lt_of_lt_of_le hi hl), aS (fun e he => (hq e he).len), cC hi]
    rw [he]
    simp only [bP, aZ]
    exact aOD fun hk => ih _ hk
theorem xW {es : List (List (aB false))} (hl : es.length ≤ maxLen) (hq : ∀ e ∈ es, gB e) {n : Int} (hn : 0 ≤ n) :
    Dn F.aQR [vsl es, aH n] [] = some (aH (szF (.sl fP es) n), []) := by
  refine bG ?_
  rw [aDy]
  refine wU fun hk => ?_
  have := aCC hl hq 0 (Nat.zero_le _) _ hk
  simpa using this
theorem aCZ {ls : List (aB false)} (h : kL ls) : ∀ {n : Int}, 0 ≤ n → Dn F.aRQ [.agg ls, aH n] [] = some (aH (szL ls n), []) := by
  cases h with
  | mk s0 s1 h0 h1 =>
    intro n hn
    refine bG ?_
    rw [aGX]
    refine mW fun hn => ?_
    refine mW fun hn => ?_
    rfl
theorem aDo {es : List (List (aB false))} (hl : es.length ≤ maxLen) (hq : ∀ e ∈ es, cS e) (hd : ∀ e ∈ es, ∀ n : Int, 0 ≤ n → Dn F.aRt [.agg e, aH n] [] = some (aH (szL e n), [])) : ∀ i : Nat, i ≤ es.length → ∀ n : Int, 0 ≤ n →
    gX Dn (oL es n i) = some (aH (szE (es.drop i) n), []) := by
  refine bS ?_ ?_
  · intro n hn; rw [vC]; simp [szE]
  · intro i hi ih n hn
    have hci := hd _ (List.getElem_mem hi) n hn
    obtain ⟨i0, s1, e2, e3, he, h1, h2, q2, h3, q3⟩ := (hq _ (List.getElem_mem hi)).ex
    rw [vC, dR hi]
    simp only [Int.ofNat_lt, hi, decide_true, aE, Int.natCast_nonneg, Bool.and_true, Int.toNat_natCast, aD, bH (Nat.lt_of_lt_of_le hi hl), aS (fun e he => (hq e he).len), cC hi]
    rw [he] at hci ⊢
    simp only [dK, bP, bW, bO, aZ, bR, cX]
    exact uI hci fun k hk => ih k hk
theorem aDB {es : List (List (aB false))} (hl : es.length ≤ maxLen) (hq : ∀ e ∈ es, cS e) (hd : ∀ e ∈ es, ∀ n : Int, 0 ≤ n → Dn F.aRt [.agg e, aH n] [] = some (aH (szL e n), [])) {n : Int} (hn : 0 ≤ n) :
    Dn F.aQ2 [vsl es, aH n] [] = some (aH (szF (.sl fP es) n), []) := by
  refine bG ?_
  rw [aEs]
  refine wU fun hk => ?_
  have := aDo hl hq hd 0 (Nat.zero_le _) _ hk
  simpa using this
theorem aB4 {ls : List (aB false)} (h : cS ls) : ∀ {n : Int}, 0 ≤ n → Dn F.aRt [.agg ls, aH n] [] = some (aH (szL ls n), []) := by
  induction h with
  | mk i0 s1 e2 e3 h1 h2 q2 h3 q3 ih2 =>
    intro n hn
    refine bG ?_
    rw [aFy]
    refine aJK hn ?_
    refine mW fun hn => ?_
    refine gE (aDB h2 q2 (fun e he n hn => ih2 e he hn) hn) fun k hn => ?_
    refine gE (xW h3 q3 hn) fun k hn => ?_
    rfl
theorem aGi {es : List (List (aB false))} (hl : es.length ≤ maxLen) (hq : ∀ e ∈ es, gR e) (hd : ∀ e ∈ es, ∀ n : Int, 0 ≤ n → Dn F.aSb [.agg e, aH n] [] = some (aH (szL e n), [])) : ∀ i : Nat, i ≤ es.length → ∀ n : Int, 0 ≤ n →
    jG Dn (rL es n i) = some (aH (szE (es.drop i) n), []) := by
  refine bS ?_ ?_
  · intro n hn; rw [xZ]; simp [szE]
  · intro i hi ih n hn
    have hci := hd _ (List.getElem_mem hi) n hn
    obtain ⟨s0, i1, s2, e3, e4, he, h0, h2, h3, q3, h4, q4⟩ := (hq _ (List.getElem_mem hi)).ex
    rw [xZ, dR hi]
    simp only [Int.ofNat_lt, hi, decide_true, aE, Int.natCast_nonneg, Bool.and_true, Int.toNat_natCast, aD, bH (Nat.lt_of_lt_of_le hi hl), aS (fun e he => (hq e he).len), cC hi]
    rw [he] at hci ⊢
    simp only [dK, bP, bW, bO, aZ, bR, cX]
    exact uI hci fun k hk => ih k hk
theorem aFJ {es : List (List (aB false))} (hl : es.length ≤ maxLen) (hq : ∀ e ∈ es, gR e) (hd : ∀ e ∈ es, ∀ n : Int, 0 ≤ n → Dn F.aSb [.agg e, aH n] [] = some (aH (szL e n), [])) {n : Int} (hn : 0 ≤ n) :
    Dn F.aRD [vsl es, aH n] [] = some (aH (szF (.sl fP es) n), []) := by
  refine bG ?_
  rw [aG7]
  refine wU fun hk => ?_
  have := aGi hl hq hd 0 (Nat.zero_le _) _ hk
  simpa using this
theorem aJI {ls : List (aB false)} (h : gR ls) : ∀ {n : Int}, 0 ≤ n → Dn F.aSb [.agg ls, aH n] [] = some (aH (szL ls n), []) := by
  cases h with
  | mk s0 i1 s2 e3 e4 h0 h2 h3 q3 h4 q4 =>
    intro n hn
    refine bG ?_
    rw [aIg]
    refine mW fun hn => ?_
    refine aHg (a := [.int .i64 i1, .str s2, .sl fP e3, .sl fP e4]) (aB4 (.mk i1 s2 e3 e4 h2 h3 q3 h4 q4) hn) hn fun k hn => ?_
    rfl
theorem aC1 {es : List (List (aB false))} (hl : es.length ≤ maxLen) (hq : ∀ e ∈ es, gR e) {n : Int} (hn : 0 ≤ n) : Dn F.aRD [vsl es, aH n] [] = some (aH (szF (.sl fP es) n), []) := aFJ hl hq (fun e he n hn => aJI (hq e he) hn) hn
theorem aFC {es : List (List (aB false))} (hl : es.length ≤ maxLen) (hq : ∀ e ∈ es, eD e) (hd : ∀ e ∈ es, ∀ n : Int, 0 ≤ n → Dn F.aR7 [.agg e, aH n] [] = some (aH (szL e n), [])) : ∀ i : Nat, i ≤ es.length → ∀ n : Int, 0 ≤ n →
    jA Dn (sA es n i) = some (aH (szE (es.drop i) n), []) := by
  refine bS ?_ ?_
  · intro n hn; rw [yF]; simp [szE]
  · intro i hi ih n hn
    have hci := hd _ (List.getElem_mem hi) n hn
    obtain ⟨s0, e1, he, h0, h1, q1⟩ := (hq _ (List.getElem_mem hi)).ex
    rw [yF, dR hi]
    simp only [Int.ofNat_lt, hi, decide_true, aE, Int.natCast_nonneg, Bool.and_true, Int.toNat_natCast, aD, bH (Nat.lt_of_lt_of_le hi hl), aS (fun e he => (hq e he).len), cC hi]
    rw [he] at hci ⊢
    simp only [dK, bP, bW, bO, aZ, bR, cX]
    exact uI hci fun k hk => ih k hk
theorem aFf {es : List (List (aB false))} (hl : es.length ≤ maxLen) (hq : ∀ e ∈ es, eD e) (hd : ∀ e ∈ es, ∀ n : Int, 0 ≤ n → Dn F.aR7 [.agg e, aH n] [] = some (aH (szL e n), [])) {n : Int} (hn : 0 ≤ n) :
    Dn F.aRU [vsl es, aH n] [] = some (aH (szF (.sl fP es) n), []) := by
  refine bG ?_
  rw [aG6]
  refine wU fun hk => ?_
  have := aFC hl hq hd 0 (Nat.zero_le _) _ hk
  simpa using this
theorem aJ8 {ls : List (aB false)} (h : eD ls) : ∀ {n : Int}, 0 ≤ n → Dn F.aR7 [.agg ls, aH n] [] = some (aH (szL ls n), []) := by
  cases h with
  | mk s0 e1 h0 h1 q1 =>
    intro n hn
    refine bG ?_
    rw [aH0]
    refine mW fun hn => ?_
    refine gE (aC1 h1 q1 hn) fun k hn => ?_
    rfl
theorem oI {es : List (List (aB false))} (hl : es.length ≤ maxLen) (hq : ∀ e ∈ es, eD e) {n : Int} (hn : 0 ≤ n) : Dn F.aRU [vsl es, aH n] [] = some (aH (szF (.sl fP es) n), []) := aFf hl hq (fun e he n hn => aJ8 (hq e he) hn) hn
theorem aDF {es : List (List (aB false))} (hl : es.length ≤ maxLen) (hq : ∀ e ∈ es, cW e) (hd : ∀ e ∈ es, ∀ n : Int, 0 ≤ n → Dn F.aRk [.agg e, aH n] [] = some (aH (szL e n), [])) : ∀ i : Nat, i ≤ es.length → ∀ n : Int, 0 ≤ n →
    gU Dn (oP es n i) = some (aH (szE (es.drop i) n), []) := by
  refine bS ?_ ?_
  · intro n hn; rw [uM]; simp [szE]
  · intro i hi ih n hn
    have hci := hd _ (List.getElem_mem hi) n hn
    obtain ⟨s0, s1, s2, s3, b4, i5, s6, e7, e8, e9, he, h0, h1, h2, h3, h6, h7, q7, h8, q8, h9, q9⟩ := (hq _ (List.getElem_mem hi)).ex
    rw [uM, dR hi]
    simp only [Int.ofNat_lt, hi, decide_true, aE, Int.natCast_nonneg, Bool.and_true, Int.toNat_natCast, aD, bH (Nat.lt_of_lt_of_le hi hl), aS (fun e he => (hq e he).len), cC hi]
    rw [he] at hci ⊢
    simp only [dK, bP, bW, bO, aZ, bR, cX]
    exact uI hci fun k hk => ih k hk
theorem aDu {es : List (List (aB false))} (hl : es.length ≤ maxLen) (hq : ∀ e ∈ es, cW e) (hd : ∀ e ∈ es, ∀ n : Int, 0 ≤ n → Dn F.aRk [.agg e, aH n] [] = some (aH (szL e n), [])) {n : Int} (hn : 0 ≤ n) :
    Dn F.aQ1 [vsl es, aH n] [] = some (aH (szF (.sl fP es) n), []) := by
  refine bG ?_
  rw [aEk]
  refine wU fun hk => ?_
  have := aDF hl hq hd 0 (Nat.zero_le _) _ hk
  simpa using this
theorem aIy {ls : List (aB false)} (h : cW ls) : ∀ {n : Int}, 0 ≤ n → Dn F.aRk [.agg ls, aH n] [] = some (aH (szL ls n), []) := by
  cases h with
  | mk s0 s1 s2 s3 b4 i5 s6 e7 e8 e9 h0 h1 h2 h3 h6 h7 q7 h8 q8 h9 q9 =>
    intro n hn
    refine bG ?_
    rw [aFn]
    refine mW fun hn => ?_
    refine mW fun hn => ?_
    refine aHg (a := [.str s2, .str s3]) (aCZ (.mk s2 s3 h2 h3) hn) hn fun k hn => ?_
    refine aJ3 hn ?_
    refine aHg (a := [.int .i64 i5, .str s6, .sl fP e7, .sl fP e8]) (aB4 (.mk i5 s6 e7 e8 h6 h7 q7 h8 q8) hn) hn fun k hn => ?_
    refine gE (oI h9 q9 hn) fun k hn => ?_
    rfl
theorem aAw {es : List (List (aB false))} (hl : es.length ≤ maxLen) (hq : ∀ e ∈ es, cW e) {n : Int} (hn : 0 ≤ n) : Dn F.aQ1 [vsl es, aH n] [] = some (aH (szF (.sl fP es) n), []) := aDu hl hq (fun e he n hn => aIy (hq e he) hn) hn
theorem aAD {es : List (List (aB false))} (hl : es.length ≤ maxLen) (hq : ∀ e ∈ es, bY e) (hd : ∀ e ∈ es, ∀ n : Int, 0 ≤ n → Dn F.aQH [.agg e, aH n] [] = some (aH (szL e n), [])) : ∀ i : Nat, i ≤ es.length → ∀ n : Int, 0 ≤ n →
    eS Dn (lO es n i) = some (aH (szE (es.drop i) n), []) := by
  refine bS ?_ ?_
  · intro n hn; rw [rA]; simp [szE]
  · intro i hi ih n hn
    have hci := hd _ (List.getElem_mem hi) n hn
    obtain ⟨s0, s1, e2, s3, s4, e5, he, h0, h1, h2, q2, h3, h4, h5, q5⟩ := (hq _ (List.getElem_mem hi)).ex
    rw [rA, dR hi]
    simp only [Int.ofNat_lt, hi, decide_true, aE, Int.natCast_nonneg, Bool.and_true, Int.toNat_natCast, aD, bH (Nat.lt_of_lt_of_le hi hl), aS (fun e he => (hq e he).len), cC hi]
    rw [he] at hci ⊢
    simp only [dK, bP, bW, bO, aZ, bR, cX]
    exact uI hci fun k hk => ih k hk
theorem aAZ {es : List (List (aB false))} (hl : es.length ≤ maxLen) (hq : ∀ e ∈ es, bY e) (hd : ∀ e ∈ es, ∀ n : Int, 0 ≤ n → Dn F.aQH [.agg e, aH n] [] = some (aH (szL e n), [])) {n : Int} (hn : 0 ≤ n) :
    Dn F.aQz [vsl es, aH n] [] = some (aH (szF (.sl fP es) n), []) := by
  refine bG ?_
  rw [aBz]
  refine wU fun hk => ?_
  have := aAD hl hq hd 0 (Nat.zero_le _) _ hk
  simpa using this
theorem aE2 {ls : List (aB false)} (h : bY ls) : ∀ {n : Int}, 0 ≤ n → Dn F.aQH [.agg ls, aH n] [] = some (aH (szL ls n), []) := by
  cases h with
  | mk s0 s1 e2 s3 s4 e5 h0 h1 h2 q2 h3 h4 h5 q5 =>
    intro n hn
    refine bG ?_
    rw [aCu]
    refine mW fun hn => ?_
    refine mW fun hn => ?_
    refine gE (aAw h2 q2 hn) fun k hn => ?_
    refine aHg (a := [.str s3, .str s4]) (aCZ (.mk s3 s4 h3 h4) hn) hn fun k hn => ?_
    refine gE (oI h5 q5 hn) fun k hn => ?_
    rfl
theorem aDI {es : List (List (aB false))} (hl : es.length ≤ maxLen) (hq : ∀ e ∈ es, bY e) {n : Int} (hn : 0 ≤ n) : Dn F.aQz [vsl es, aH n] [] = some (aH (szF (.sl fP es) n), []) := aAZ hl hq (fun e he n hn => aE2 (hq e he) hn) hn
theorem aBL {es : List (List (aB false))} (hl : es.length ≤ maxLen) (hq : ∀ e ∈ es, cG e) (hd : ∀ e ∈ es, ∀ n : Int, 0 ≤ n → Dn F.aQX [.agg e, aH n] [] = some (aH (szL e n), [])) : ∀ i : Nat, i ≤ es.length → ∀ n : Int, 0 ≤ n →
    fN Dn (mJ es n i) = some (aH (szE (es.drop i) n), []) := by
  refine bS ?_ ?_
  · intro n hn; rw [sJ]; simp [szE]
  · intro i hi ih n hn
    have hci := hd _ (List.getElem_mem hi) n hn
    obtain ⟨s0, s1, e2, he, h0, h1, h2, q2⟩ := (hq _ (List.getElem_mem hi)).ex
    rw [sJ, dR hi]
    simp only [Int.ofNat_lt, hi, decide_true, aE, Int.natCast_nonneg, Bool.and_true, Int.toNat_natCast, aD, bH (Nat.lt_of_lt_of_le hi hl), aS (fun e he => (hq e he).len), cC hi]
    rw [he] at hci ⊢
    simp only [dK, bP, bW, bO, aZ, bR, cX]
    exact uI hci fun k hk => ih k hk
theorem aBZ {es : List (List (aB false))} (hl : es.length ≤ maxLen) (hq : ∀ e ∈ es, cG e) (hd : ∀ e ∈ es, ∀ n : Int, 0 ≤ n → Dn F.aQX [.agg e, aH n] [] = some (aH (szL e n), [])) {n : Int} (hn : 0 ≤ n) :
    Dn F.aQJ [vsl es, aH n] [] = some (aH (szF (.sl fP es) n), []) := by
  refine bG ?_
  rw [aCr]
  refine wU fun hk => ?_
  have := aBL hl hq hd 0 (Nat.zero_le _) _ hk
  simpa using this
theorem aFH {ls : List (aB false)} (h : cG ls) : ∀ {n : Int}, 0 ≤ n → Dn F.aQX [.agg ls, aH n] [] = some (aH (szL ls n), []) := by
  cases h with
  | mk s0 s1 e2 h0 h1 h2 q2 =>
    intro n hn
    refine bG ?_
    rw [aDT]
    refine mW fun hn => ?_
    refine mW fun hn => ?_
    refine gE (oI h2 q2 hn) fun k hn => ?_
    rfl
theorem aES {es : List (List (aB false))} (hl : es.length ≤ maxLen) (hq : ∀ e ∈ es, cG e) {n : Int} (hn : 0 ≤ n) : Dn F.aQJ [vsl es, aH n] [] = some (aH (szF (.sl fP es) n), []) := aBZ hl hq (fun e he n hn => aFH (hq e he) hn) hn
theorem aFb {es : List (List (aB false))} (hl : es.length ≤ maxLen) (hq : ∀ e ∈ es, dT e) (hd : ∀ e ∈ es, ∀ n : Int, 0 ≤ n → Dn F.aRN [.agg e, aH n] [] = some (aH (szL e n), [])) : ∀ i : Nat, i ≤ es.length → ∀ n : Int, 0 ≤ n →
    iF Dn (qC es n i) = some (aH (szE (es.drop i) n), []) := by
  refine bS ?_ ?_
  · intro n hn; rw [wM]; simp [szE]
  · intro i hi ih n hn
    have hci := hd _ (List.getElem_mem hi) n hn
    obtain ⟨i0, s1, he, h1⟩ := (hq _ (List.getElem_mem hi)).ex
    rw [wM, dR hi]
    simp only [Int.ofNat_lt, hi, decide_true, aE, Int.natCast_nonneg, Bool.and_true, Int.toNat_natCast, aD, bH (Nat.lt_of_lt_of_le hi hl), aS (fun e he => (hq e he).len), cC hi]
    rw [he] at hci ⊢
    simp only [dK, bP, bW, bO, aZ, bR, cX]
    exact uI hci fun k hk => ih k hk
theorem aEM {es : List (List (aB false))} (hl : es.length ≤ maxLen) (hq : ∀ e ∈ es, dT e) (hd : ∀ e ∈ es, ∀ n : Int, 0 ≤ n → Dn F.aRN [.agg e, aH n] [] = some (aH (szL e n), [])) {n : Int} (hn : 0 ≤ n) :
    Dn F.aRu [vsl es, aH n] [] = some (aH (szF (.sl fP es) n), []) := by
  refine bG ?_
  rw [aFk]
  refine wU fun hk => ?_
  have := aFb hl hq hd 0 (Nat.zero_le _) _ hk
  simpa using this
theorem aII {ls : List (aB false)} (h : dT ls) : ∀ {n : Int}, 0 ≤ n → Dn F.aRN [.agg ls, aH n] [] = some (aH (szL ls n), []) := by
  cases h with
  | mk i0 s1 h1 =>
    intro n hn
    refine bG ?_
    rw [aGM]
    refine aJK hn ?_
    refine mW fun hn => ?_
    rfl
theorem aBH {es : List (List (aB false))} (hl : es.length ≤ maxLen) (hq : ∀ e ∈ es, dT e) {n : Int} (hn : 0 ≤ n) : Dn F.aRu [vsl es, aH n] [] = some (aH (szF (.sl fP es) n), []) := aEM hl hq (fun e he n hn => aII (hq e he) hn) hn
theorem aF7 {es : List (List (aB false))} (hl : es.length ≤ maxLen) (hq : ∀ e ∈ es, fQ e) (hd : ∀ e ∈ es, ∀ n : Int, 0 ≤ n → Dn F.aSf [.agg e, aH n] [] = some (aH (szL e n), [])) : ∀ i : Nat, i ≤ es.length → ∀ n : Int, 0 ≤ n →
    iZ Dn (rV es n i) = some (aH (szE (es.drop i) n), []) := by
  refine bS ?_ ?_
  · intro n hn; rw [yH]; simp [szE]
  · intro i hi ih n hn
    have hci := hd _ (List.getElem_mem hi) n hn
    obtain ⟨i0, b1, s2, s3, e4, e5, e6, e7, e8, b9, e10, he, h2, h3, h4, q4, h5, q5, h6, q6, h7, q7, h8, q8, h10, q10⟩ := (hq _ (List.getElem_mem hi)).ex
    rw [yH, dR hi]
    simp only [Int.ofNat_lt, hi, decide_true, aE, Int.natCast_nonneg, Bool.and_true, Int.toNat_natCast, aD, bH (Nat.lt_of_lt_of_le hi hl), aS (fun e he => (hq e he).len), cC hi]
    rw [he] at hci ⊢
    simp only [dK, bP, bW, bO, aZ, bR, cX]
    exact uI hci fun k hk => ih k hk
theorem aFW {es : List (List (aB false))} (hl : es.length ≤ maxLen) (hq : ∀ e ∈ es, fQ e) (hd : ∀ e ∈ es, ∀ n : Int, 0 ≤ n → Dn F.aSf [.agg e, aH n] [] = some (aH (szL e n), [])) {n : Int} (hn : 0 ≤ n) :
    Dn F.aRY [vsl es, aH n] [] = some (aH (szF (.sl fP es) n), []) := by
  refine bG ?_
  rw [aGS]
  refine wU fun hk => ?_
  have := aF7 hl hq hd 0 (Nat.zero_le _) _ hk
  simpa using this
theorem aJD {ls : List (aB false)} (h : fQ ls) : ∀ {n : Int}, 0 ≤ n → Dn F.aSf [.agg ls, aH n] [] = some (aH (szL ls n), []) := by
  cases h with
  | mk i0 b1 s2 s3 e4 e5 e6 e7 e8 b9 e10 h2 h3 h4 q4 h5 q5 h6 q6 h7 q7 h8 q8 h10 q10 =>
    intro n hn
    refine bG ?_
    rw [aHM]
    refine aJK hn ?_
    refine aJ3 hn ?_
    refine mW fun hn => ?_
    refine mW fun hn => ?_
    refine gE (xW h4 q4 hn) fun k hn => ?_
    refine gE (aDI h5 q5 hn) fun k hn => ?_
    refine gE (aAw h6 q6 hn) fun k hn => ?_
    refine gE (aES h7 q7 hn) fun k hn => ?_
    refine gE (aBH h8 q8 hn) fun k hn => ?_
    refine aJ3 hn ?_
    refine gE (oI h10 q10 hn) fun k hn => ?_
    rfl
theorem aCT {es : List (List (aB false))} (hl : es.length ≤ maxLen) (hq : ∀ e ∈ es, fQ e) {n : Int} (hn : 0 ≤ n) : Dn F.aRY [vsl es, aH n] [] = some (aH (szF (.sl fP es) n), []) := aFW hl hq (fun e he n hn => aJD (hq e he) hn) hn
theorem aG1 {ls : List (aB false)} (h : bK ls) : ∀ {n : Int}, 0 ≤ n → Dn F.aQ7 [.agg ls, aH n] [] = some (aH (szL ls n), []) := by
  cases h with
  | mk e0 e1 e2 h0 q0 h1 q1 h2 q2 =>
    intro n hn
    refine bG ?_
    rw [aEC]
    refine gE (aCT h0 q0 hn) fun k hn => ?_
    refine gE (aCT h1 q1 hn) fun k hn => ?_
    refine gE (aBH h2 q2 hn) fun k hn => ?_
    rfl
theorem aFx {es : List (List (aB false))} (hl : es.length ≤ maxLen) (hq : ∀ e ∈ es, dM e) (hd : ∀ e ∈ es, ∀ n : Int, 0 ≤ n → Dn F.aSa [.agg e, aH n] [] = some (aH (szL e n), [])) : ∀ i : Nat, i ≤ es.length → ∀ n : Int, 0 ≤ n →
    iY Dn (rX es n i) = some (aH (szE (es.drop i) n), []) := by
  refine bS ?_ ?_
  · intro n hn; rw [xJ]; simp [szE]
  · intro i hi ih n hn
    have hci := hd _ (List.getElem_mem hi) n hn
    obtain ⟨i0, s1, s2, s3, e4, e5, e6, he, h1, h2, h3, h4, q4, h5, q5, h6, q6⟩ := (hq _ (List.getElem_mem hi)).ex
    rw [xJ, dR hi]
    simp only [Int.ofNat_lt, hi, decide_true, aE, Int.natCast_nonneg, Bool.and_true, Int.toNat_natCast, aD, bH (Nat.lt_of_lt_of_le hi hl), aS (fun e he => (hq e he).len), cC hi]
    rw [he] at hci ⊢
    simp only [dK, bP, bW, bO, aZ, bR, cX]
    exact uI hci fun k hk => ih k hk
theorem yW {es : List (List (aB false))} (hl : es.length ≤ maxLen) (hq : ∀ e ∈ es, dM e) (hd : ∀ e ∈ es, ∀ n : Int, 0 ≤ n → Dn F.aSa [.agg e, aH n] [] = some (aH (szL e n), [])) {n : Int} (hn : 0 ≤ n) :
    Dn F.aRV [vsl es, aH n] [] = some (aH (szF (.sl fP es) n), []) := by
  refine bG ?_
  rw [aG8]
  refine wU fun hk => ?_
  have := aFx hl hq hd 0 (Nat.zero_le _) _ hk
  simpa using this
theorem aJR {ls : List (aB false)} (h : dM ls) : ∀ {n : Int}, 0 ≤ n → Dn F.aSa [.agg ls, aH n] [] = some (aH (szL ls n), []) := by
  induction h with
  | mk i0 s1 s2 s3 e4 e5 e6 h1 h2 h3 h4 q4 h5 q5 h6 q6 ih6 =>
    intro n hn
    refine bG ?_
    rw [aH5]
    refine aJK hn ?_
    refine mW fun hn => ?_
    refine mW fun hn => ?_
    refine mW fun hn => ?_
    refine gE (aC1 h4 q4 hn) fun k hn => ?_
    refine gE (oI h5 q5 hn) fun k hn => ?_
    refine gE (yW h6 q6 (fun e he n hn => ih6 e he hn) hn) fun k hn => ?_
    rfl
theorem aIJ {es : List (List (aB false))} (hl : es.length ≤ maxLen) (hq : ∀ e ∈ es, dM e) {n : Int} (hn : 0 ≤ n) : Dn F.aRV [vsl es, aH n] [] = some (aH (szF (.sl fP es) n), []) := yW hl hq (fun e he n hn => aJR (hq e he) hn) hn
end Go.Vs
end
section
open Go Go.Vs Go.Proofs
set_option linter.unusedVariables false
set_option linter.unusedSimpArgs false
namespace Go.Vs
theorem aCD {es : List (List (aB false))} (hl : es.length ≤ maxLen) (hq : ∀ e ∈ es, gB e) : ∀ i : Nat, i ≤ es.length →
    gA Dn (nJ es es i) = some (aM true, []) := by
  refine bS ?_ ?_
  · rw [tR]; simp
  · intro i hi ih
    obtain ⟨s, he, hs⟩ := hq _ (List.getElem_mem hi)
    rw [tR]
    simp only [Int.ofNat_lt, hi, decide_true, aE, Int.natCast_nonneg, Bool.and_true, Int.toNat_natCast, aD, bH (Nat.lt_of_lt_of_le hi hl), aS (fun e he => (hq e he).len), cC hi]
    rw [he]
    simp only [bP, aZ, beq_self_eq_true, Bool.not_true, aF]
    exact ih
theorem yB {es : List (List (aB false))} (hl : es.length ≤ maxLen) (hq : ∀ e ∈ es, gB e) : Dn F.aQZ [vsl es, vsl es] [] = some (aM true, []) := by
  refine bG ?_
  rw [aDR]
  have := aCD hl hq 0 (Nat.zero_le _)
  simpa using this
theorem aC4 {ls : List (aB false)} (h : kL ls) : Dn F.aRR [.agg ls, .agg ls] [] = some (aM true, []) := by
  cases h with
  | mk s0 s1 h0 h1 =>
    refine bG ?_
    rw [aG9]
    simp []
theorem aDS {es : List (List (aB false))} (hl : es.length ≤ maxLen) (hq : ∀ e ∈ es, cS e) (hd : ∀ e ∈ es, Dn F.aRn [.agg e, .agg e] [] = some (aM true, [])) : ∀ i : Nat, i ≤ es.length →
    gW Dn (oM es es i) = some (aM true, []) := by
  refine bS ?_ ?_
  · rw [vM]; simp
  · intro i hi ih
    have hci := hd _ (List.getElem_mem hi)
    obtain ⟨i0, s1, e2, e3, he, h1, h2, q2, h3, q3⟩ := (hq _ (List.getElem_mem hi)).ex
    rw [vM]
    simp only [Int.ofNat_lt, hi, decide_true, aE, Int.natCast_nonneg, Bool.and_true, Int.toNat_natCast, aD, bH (Nat.lt_of_lt_of_le hi hl), aS (fun e he => (hq e he).len), cC hi]
    rw [he] at hci ⊢
    simp only [dK, bP, bW, bO, aZ, bR, cX, hci, Option.bind_some, aT, Bool.not_true, aF]
    exact ih
theorem aDA {es : List (List (aB false))} (hl : es.length ≤ maxLen) (hq : ∀ e ∈ es, cS e) (hd : ∀ e ∈ es, Dn F.aRn [.agg e, .agg e] [] = some (aM true, [])) : Dn F.aRh [vsl es, vsl es] [] = some (aM true, []) := by
  refine bG ?_
  rw [aEj]
  have := aDS hl hq hd 0 (Nat.zero_le _)
  simpa using this
theorem aCa {ls : List (aB false)} (h : cS ls) : Dn F.aRn [.agg ls, .agg ls] [] = some (aM true, []) := by
  induction h with
  | mk i0 s1 e2 e3 h1 h2 q2 h3 q3 ih2 =>
    refine bG ?_
    rw [aFX]
    have c2 := aDA h2 q2 ih2
    have c3 := yB h3 q3
    simp [c2, c3]
theorem aFw {es : List (List (aB false))} (hl : es.length ≤ maxLen) (hq : ∀ e ∈ es, gR e) (hd : ∀ e ∈ es, Dn F.aR9 [.agg e, .agg e] [] = some (aM true, [])) : ∀ i : Nat, i ≤ es.length →
    jD Dn (rQ es es i) = some (aM true, []) := by
  refine bS ?_ ?_
  · rw [xL]; simp
  · intro i hi ih
    have hci := hd _ (List.getElem_mem hi)
    obtain ⟨s0, i1, s2, e3, e4, he, h0, h2, h3, q3, h4, q4⟩ := (hq _ (List.getElem_mem hi)).ex
    rw [xL]
    simp only [Int.ofNat_lt, hi, decide_true, aE, Int.natCast_nonneg, Bool.and_true, Int.toNat_natCast, aD, bH (Nat.lt_of_lt_of_le hi hl), aS (fun e he => (hq e he).len), cC hi]
    rw [he] at hci ⊢
    simp only [dK, bP, bW, bO, aZ, bR, cX, hci, Option.bind_some, aT, Bool.not_true, aF]
    exact ih
theorem aFB {es : List (List (aB false))} (hl : es.length ≤ maxLen) (hq : ∀ e ∈ es, gR e) (hd : ∀ e ∈ es, Dn F.aR9 [.agg e, .agg e] [] = some (aM true, [])) : Dn F.aRX [vsl es, vsl es] [] = some (aM true, []) := by
  refine bG ?_
  rw [aG0]
  have := aFw hl hq hd 0 (Nat.zero_le _)
  simpa using this
theorem aJZ {ls : List (aB false)} (h : gR ls) : Dn F.aR9 [.agg ls, .agg ls] [] = some (aM true, []) := by
  cases h with
  | mk s0 i1 s2 e3 e4 h0 h2 h3 q3 h4 q4 =>
    refine bG ?_
    rw [aHk]
    have c1 := aCa (.mk i1 s2 e3 e4 h2 h3 q3 h4 q4)
    simp [c1]
theorem aC2 {es : List (List (aB false))} (hl : es.length ≤ maxLen) (hq : ∀ e ∈ es, gR e) : Dn F.aRX [vsl es, vsl es] [] = some (aM true, []) := aFB hl hq fun e he => aJZ (hq e he)
theorem aFS {es : List (List (aB false))} (hl : es.length ≤ maxLen) (hq : ∀ e ∈ es, eD e) (hd : ∀ e ∈ es, Dn F.aSd [.agg e, .agg e] [] = some (aM true, [])) : ∀ i : Nat, i ≤ es.length →
    jC Dn (rT es es i) = some (aM true, []) := by
  refine bS ?_ ?_
  · rw [yS]; simp
  · intro i hi ih
    have hci := hd _ (List.getElem_mem hi)
    obtain ⟨s0, e1, he, h0, h1, q1⟩ := (hq _ (List.getElem_mem hi)).ex
    rw [yS]
    simp only [Int.ofNat_lt, hi, decide_true, aE, Int.natCast_nonneg, Bool.and_true, Int.toNat_natCast, aD, bH (Nat.lt_of_lt_of_le hi hl), aS (fun e he => (hq e he).len), cC hi]
    rw [he] at hci ⊢
    simp only [dK, bP, bW, bO, aZ, bR, cX, hci, Option.bind_some, aT, Bool.not_true, aF]
    exact ih
theorem aFg {es : List (List (aB false))} (hl : es.length ≤ maxLen) (hq : ∀ e ∈ es, eD e) (hd : ∀ e ∈ es, Dn F.aSd [.agg e, .agg e] [] = some (aM true, [])) : Dn F.aRK [vsl es, vsl es] [] = some (aM true, []) := by
  refine bG ?_
  rw [aGO]
  have := aFS hl hq hd 0 (Nat.zero_le _)
  simpa using this
theorem aJ1 {ls : List (aB false)} (h : eD ls) : Dn F.aSd [.agg ls, .agg ls] [] = some (aM true, []) := by
  cases h with
  | mk s0 e1 h0 h1 q1 =>
    refine bG ?_
    rw [aHm]
    have c1 := aC2 h1 q1
    simp [c1]
theorem oF {es : List (List (aB false))} (hl : es.length ≤ maxLen) (hq : ∀ e ∈ es, eD e) : Dn F.aRK [vsl es, vsl es] [] = some (aM true, []) := aFg hl hq fun e he => aJ1 (hq e he)
theorem aDJ {es : List (List (aB false))} (hl : es.length ≤ maxLen) (hq : ∀ e ∈ es, cW e) (hd : ∀ e ∈ es, Dn F.aRB [.agg e, .agg e] [] = some (aM true, [])) : ∀ i : Nat, i ≤ es.length →
    gY Dn (pB es es i) = some (aM true, []) := by
  refine bS ?_ ?_
  · rw [vF]; simp
  · intro i hi ih
    have hci := hd _ (List.getElem_mem hi)
    obtain ⟨s0, s1, s2, s3, b4, i5, s6, e7, e8, e9, he, h0, h1, h2, h3, h6, h7, q7, h8, q8, h9, q9⟩ := (hq _ (List.getElem_mem hi)).ex
    rw [vF]
    simp only [Int.ofNat_lt, hi, decide_true, aE, Int.natCast_nonneg, Bool.and_true, Int.toNat_natCast, aD, bH (Nat.lt_of_lt_of_le hi hl), aS (fun e he => (hq e he).len), cC hi]
    rw [he] at hci ⊢
    simp only [dK, bP, bW, bO, aZ, bR, cX, hci, Option.bind_some, aT, Bool.not_true, aF]
    exact ih
theorem aDj {es : List (List (aB false))} (hl : es.length ≤ maxLen) (hq : ∀ e ∈ es, cW e) (hd : ∀ e ∈ es, Dn F.aRB [.agg e, .agg e] [] = some (aM true, [])) : Dn F.aQ9 [vsl es, vsl es] [] = some (aM true, []) := by
  refine bG ?_
  rw [aEb]
  have := aDJ hl hq hd 0 (Nat.zero_le _)
  simpa using this
theorem aHj {ls : List (aB false)} (h : cW ls) : Dn F.aRB [.agg ls, .agg ls] [] = some (aM true, []) := by
  cases h with
  | mk s0 s1 s2 s3 b4 i5 s6 e7 e8 e9 h0 h1 h2 h3 h6 h7 q7 h8 q8 h9 q9 =>
    refine bG ?_
    rw [aFD]
    have c2 := aC4 (.mk s2 s3 h2 h3)
    have c5 := aCa (.mk i5 s6 e7 e8 h6 h7 q7 h8 q8)
    have c9 := oF h9 q9
    simp [c2, c5, c9]
theorem aAs {es : List (List (aB false))} (hl : es.length ≤ maxLen) (hq : ∀ e ∈ es, cW e) : Dn F.aQ9 [vsl es, vsl es] [] = some (aM true, []) := aDj hl hq fun e he => aHj (hq e he)
theorem aA0 {es : List (List (aB false))} (hl : es.length ≤ maxLen) (hq : ∀ e ∈ es, bY e) (hd : ∀ e ∈ es, Dn F.aQI [.agg e, .agg e] [] = some (aM true, [])) : ∀ i : Nat, i ≤ es.length →
    eW Dn (lN es es i) = some (aM true, []) := by
  refine bS ?_ ?_
  · rw [qX]; simp
  · intro i hi ih
    have hci := hd _ (List.getElem_mem hi)
    obtain ⟨s0, s1, e2, s3, s4, e5, he, h0, h1, h2, q2, h3, h4, h5, q5⟩ := (hq _ (List.getElem_mem hi)).ex
    rw [qX]
    simp only [Int.ofNat_lt, hi, decide_true, aE, Int.natCast_nonneg, Bool.and_true, Int.toNat_natCast, aD, bH (Nat.lt_of_lt_of_le hi hl), aS (fun e he => (hq e he).len), cC hi]
    rw [he] at hci ⊢
    simp only [dK, bP, bW, bO, aZ, bR, cX, hci, Option.bind_some, aT, Bool.not_true, aF]
    exact ih
theorem aAB {es : List (List (aB false))} (hl : es.length ≤ maxLen) (hq : ∀ e ∈ es, bY e) (hd : ∀ e ∈ es, Dn F.aQI [.agg e, .agg e] [] = some (aM true, [])) : Dn F.aQx [vsl es, vsl es] [] = some (aM true, []) := by
  refine bG ?_
  rw [aBR]
  have := aA0 hl hq hd 0 (Nat.zero_le _)
  simpa using this
theorem aEV {ls : List (aB false)} (h : bY ls) : Dn F.aQI [.agg ls, .agg ls] [] = some (aM true, []) := by
  cases h with
  | mk s0 s1 e2 s3 s4 e5 h0 h1 h2 q2 h3 h4 h5 q5 =>
    refine bG ?_
    rw [aCs]
    have c2 := aAs h2 q2
    have c3 := aC4 (.mk s3 s4 h3 h4)
    have c5 := oF h5 q5
    simp [c2, c3, c5]
theorem aDr {es : List (List (aB false))} (hl : es.length ≤ maxLen) (hq : ∀ e ∈ es, bY e) : Dn F.aQx [vsl es, vsl es] [] = some (aM true, []) := aAB hl hq fun e he => aEV (hq e he)
theorem aA9 {es : List (List (aB false))} (hl : es.length ≤ maxLen) (hq : ∀ e ∈ es, cG e) (hd : ∀ e ∈ es, Dn F.aQU [.agg e, .agg e] [] = some (aM true, [])) : ∀ i : Nat, i ≤ es.length →
    fJ Dn (mI es es i) = some (aM true, []) := by
  refine bS ?_ ?_
  · rw [sF]; simp
  · intro i hi ih
    have hci := hd _ (List.getElem_mem hi)
    obtain ⟨s0, s1, e2, he, h0, h1, h2, q2⟩ := (hq _ (List.getElem_mem hi)).ex
    rw [sF]
    simp only [Int.ofNat_lt, hi, decide_true, aE, Int.natCast_nonneg, Bool.and_true, Int.toNat_natCast, aD, bH (Nat.lt_of_lt_of_le hi hl), aS (fun e he => (hq e he).len), cC hi]
    rw [he] at hci ⊢
    simp only [dK, bP, bW, bO, aZ, bR, cX, hci, Option.bind_some, aT, Bool.not_true, aF]
    exact ih
theorem aBb {es : List (List (aB false))} (hl : es.length ≤ maxLen) (hq : ∀ e ∈ es, cG e) (hd : ∀ e ∈ es, Dn F.aQU [.agg e, .agg e] [] = some (aM true, [])) : Dn F.aQO [vsl es, vsl es] [] = some (aM true, []) := by
  refine bG ?_
  rw [aCA]
  have := aA9 hl hq hd 0 (Nat.zero_le _)
  simpa using this
theorem aGf {ls : List (aB false)} (h : cG ls) : Dn F.aQU [.agg ls, .agg ls] [] = some (aM true, []) := by
  cases h with
  | mk s0 s1 e2 h0 h1 h2 q2 =>
    refine bG ?_
    rw [aD2]
    have c2 := oF h2 q2
    simp [c2]
theorem aEY {es : List (List (aB false))} (hl : es.length ≤ maxLen) (hq : ∀ e ∈ es, cG e) : Dn F.aQO [vsl es, vsl es] [] = some (aM true, []) := aBb hl hq fun e he => aGf (hq e he)
theorem aEt {es : List (List (aB false))} (hl : es.length ≤ maxLen) (hq : ∀ e ∈ es, dT e) (hd : ∀ e ∈ es, Dn F.aRJ [.agg e, .agg e] [] = some (aM true, [])) : ∀ i : Nat, i ≤ es.length →
    iE Dn (qP es es i) = some (aM true, []) := by
  refine bS ?_ ?_
  · rw [vX]; simp
  · intro i hi ih
    have hci := hd _ (List.getElem_mem hi)
    obtain ⟨i0, s1, he, h1⟩ := (hq _ (List.getElem_mem hi)).ex
    rw [vX]
    simp only [Int.ofNat_lt, hi, decide_true, aE, Int.natCast_nonneg, Bool.and_true, Int.toNat_natCast, aD, bH (Nat.lt_of_lt_of_le hi hl), aS (fun e he => (hq e he).len), cC hi]
    rw [he] at hci ⊢
    simp only [dK, bP, bW, bO, aZ, bR, cX, hci, Option.bind_some, aT, Bool.not_true, aF]
    exact ih
theorem aE6 {es : List (List (aB false))} (hl : es.length ≤ maxLen) (hq : ∀ e ∈ es, dT e) (hd : ∀ e ∈ es, Dn F.aRJ [.agg e, .agg e] [] = some (aM true, [])) : Dn F.aRl [vsl es, vsl es] [] = some (aM true, []) := by
  refine bG ?_
  rw [aGj]
  have := aEt hl hq hd 0 (Nat.zero_le _)
  simpa using this
theorem aIO {ls : List (aB false)} (h : dT ls) : Dn F.aRJ [.agg ls, .agg ls] [] = some (aM true, []) := by
  cases h with
  | mk i0 s1 h1 =>
    refine bG ?_
    rw [aHb]
    simp []
theorem aBT {es : List (List (aB false))} (hl : es.length ≤ maxLen) (hq : ∀ e ∈ es, dT e) : Dn F.aRl [vsl es, vsl es] [] = some (aM true, []) := aE6 hl hq fun e he => aIO (hq e he)
theorem aGg {es : List (List (aB false))} (hl : es.length ≤ maxLen) (hq : ∀ e ∈ es, fQ e) (hd : ∀ e ∈ es, Dn F.aSe [.agg e, .agg e] [] = some (aM true, [])) : ∀ i : Nat, i ≤ es.length →
    jF Dn (rR es es i) = some (aM true, []) := by
  refine bS ?_ ?_
  · rw [xM]; simp
  · intro i hi ih
    have hci := hd _ (List.getElem_mem hi)
    obtain ⟨i0, b1, s2, s3, e4, e5, e6, e7, e8, b9, e10, he, h2, h3, h4, q4, h5, q5, h6, q6, h7, q7, h8, q8, h10, q10⟩ := (hq _ (List.getElem_mem hi)).ex
    rw [xM]
    simp only [Int.ofNat_lt, hi, decide_true, aE, Int.natCast_nonneg, Bool.and_true, Int.toNat_natCast, aD, bH (Nat.lt_of_lt_of_le hi hl), aS (fun e he => (hq e he).len), cC hi]
    rw [he] at hci ⊢
    simp only [dK, bP, bW, bO, aZ, bR, cX, hci, Option.bind_some, aT, Bool.not_true, aF]
    exact ih
theorem aFu {es : List (List (aB false))} (hl : es.length ≤ maxLen) (hq : ∀ e ∈ es, fQ e) (hd : ∀ e ∈ es, Dn F.aSe [.agg e, .agg e] [] = some (aM true, [])) : Dn F.aRO [vsl es, vsl es] [] = some (aM true, []) := by
  refine bG ?_
  rw [aGP]
  have := aGg hl hq hd 0 (Nat.zero_le _)
  simpa using this
theorem aJJ {ls : List (aB false)} (h : fQ ls) : Dn F.aSe [.agg ls, .agg ls] [] = some (aM true, []) := by
  cases h with
  | mk i0 b1 s2 s3 e4 e5 e6 e7 e8 b9 e10 h2 h3 h4 q4 h5 q5 h6 q6 h7 q7 h8 q8 h10 q10 =>
    refine bG ?_
    rw [aHl]
    have c4 := yB h4 q4
    have c5 := aDr h5 q5
    have c6 := aAs h6 q6
    have c7 := aEY h7 q7
    have c8 := aBT h8 q8
    have c10 := oF h10 q10
    simp [c4, c5, c6, c7, c8, c10]
theorem aDa {es : List (List (aB false))} (hl : es.length ≤ maxLen) (hq : ∀ e ∈ es, fQ e) : Dn F.aRO [vsl es, vsl es] [] = some (aM true, []) := aFu hl hq fun e he => aJJ (hq e he)
theorem aGQ {ls : List (aB false)} (h : bK ls) : Dn F.aRe [.agg ls, .agg ls] [] = some (aM true, []) := by
  cases h with
  | mk e0 e1 e2 h0 q0 h1 q1 h2 q2 =>
    refine bG ?_
    rw [aEO]
    have c0 := aDa h0 q0
    have c1 := aDa h1 q1
    have c2 := aBT h2 q2
    simp [c0, c1, c2]
theorem aF3 {es : List (List (aB false))} (hl : es.length ≤ maxLen) (hq : ∀ e ∈ es, dM e) (hd : ∀ e ∈ es, Dn F.aR6 [.agg e, .agg e] [] = some (aM true, [])) : ∀ i : Nat, i ≤ es.length →
    jH Dn (rS es es i) = some (aM true, []) := by
  refine bS ?_ ?_
  · rw [xQ]; simp
  · intro i hi ih
    have hci := hd _ (List.getElem_mem hi)
    obtain ⟨i0, s1, s2, s3, e4, e5, e6, he, h1, h2, h3, h4, q4, h5, q5, h6, q6⟩ := (hq _ (List.getElem_mem hi)).ex
    rw [xQ]
    simp only [Int.ofNat_lt, hi, decide_true, aE, Int.natCast_nonneg, Bool.and_true, Int.toNat_natCast, aD, bH (Nat.lt_of_lt_of_le hi hl), aS (fun e he => (hq e he).len), cC hi]
    rw [he] at hci ⊢
    simp only [dK, bP, bW, bO, aZ, bR, cX, hci, Option.bind_some, aT, Bool.not_true, aF]
    exact ih
theorem xR {es : List (List (aB false))} (hl : es.length ≤ maxLen) (hq : ∀ e ∈ es, dM e) (hd : ∀ e ∈ es, Dn F.aR6 [.agg e, .agg e] [] = some (aM true, [])) : Dn F.aR0 [vsl es, vsl es] [] = some (aM true, []) := by
  refine bG ?_
  rw [aGL]
  have := aF3 hl hq hd 0 (Nat.zero_le _)
  simpa using this
theorem aJ9 {ls : List (aB false)} (h : dM ls) : Dn F.aR6 [.agg ls, .agg ls] [] = some (aM true, []) := by
  induction h with
  | mk i0 s1 s2 s3 e4 e5 e6 h1 h2 h3 h4 q4 h5 q5 h6 q6 ih6 =>
    refine bG ?_
    rw [aHp]
    have c4 := aC2 h4 q4
    have c5 := oF h5 q5
    have c6 := xR h6 q6 ih6
    simp [c4, c5, c6]
theorem aIG {es : List (List (aB false))} (hl : es.length ≤ maxLen) (hq : ∀ e ∈ es, dM e) : Dn F.aR0 [vsl es, vsl es] [] = some (aM true, []) := xR hl hq fun e he => aJ9 (hq e he)
theorem aBK {es : List (List (aB false))} (hl : es.length ≤ maxLen) (hq : ∀ e ∈ es, cM e) (hd : ∀ e ∈ es, Dn F.aQQ [.agg e, .agg e] [] = some (aM true, [])) : ∀ i : Nat, i ≤ es.length →
    fE Dn (mS es es i) = some (aM true, []) := by
  refine bS ?_ ?_
  · rw [sW]; simp
  · intro i hi ih
    have hci := hd _ (List.getElem_mem hi)
    obtain ⟨i0, s1, s2, he⟩ := (hq _ (List.getElem_mem hi)).ex
    rw [sW]
    simp only [Int.ofNat_lt, hi, decide_true, aE, Int.natCast_nonneg, Bool.and_true, Int.toNat_natCast, aD, bH (Nat.lt_of_lt_of_le hi hl), aS (fun e he => (hq e he).len), cC hi]
    rw [he] at hci ⊢
    simp only [dK, bP, bW, bO, aZ, bR, cX, hci, Option.bind_some, aT, Bool.not_true, aF]
    exact ih
theorem aBr {es : List (List (aB false))} (hl : es.length ≤ maxLen) (hq : ∀ e ∈ es, cM e) (hd : ∀ e ∈ es, Dn F.aQQ [.agg e, .agg e] [] = some (aM true, [])) : Dn F.aQF [vsl es, vsl es] [] = some (aM true, []) := by
  refine bG ?_
  rw [aCy]
  have := aBK hl hq hd 0 (Nat.zero_le _)
  simpa using this
theorem aFm {ls : List (aB false)} (h : cM ls) : Dn F.aQQ [.agg ls, .agg ls] [] = some (aM true, []) := by
  cases h with
  | mk i0 s1 s2 =>
    refine bG ?_
    rw [aDM]
    simp []
theorem aE1 {es : List (List (aB false))} (hl : es.length ≤ maxLen) (hq : ∀ e ∈ es, cM e) : Dn F.aQF [vsl es, vsl es] [] = some (aM true, []) := aBr hl hq fun e he => aFm (hq e he)
end Go.Vs
end
section
open Go Go.Vs Go.Proofs
set_option maxRecDepth 100000
set_option linter.unusedVariables false
namespace Go.Vs
noncomputable section
variable (D : bA true)
def wC := atA D F.aQ6
theorem aCt (c0_0 : Fl true) (e0_0 : LT) (c0_1 : Fl true) (e0_1 : LT) (c0_2 : Fl true) (e0_2 : LT) : bB Tryz.prog D Hs bQ F.aQ6 [.agg [.sl c0_0 e0_0,.sl c0_1 e0_1,.sl c0_2 e0_2]] [] = (D F.aRW [.leaf (.sl c0_0 e0_0)] []).bind fun r => iR r.fst fun c es => (D F.aRW [.leaf (.sl c0_1 e0_1)] []).bind fun r => iR r.fst fun c_1 es_1 => (D F.aRA [.leaf (.sl c0_2 e0_2)] []).bind fun r => iR r.fst fun c_2 es_2 => some (.agg [.sl c es,.sl c_1 es_1,.sl c_2 es_2],[]) := by refine (aI (J := wC D) (by kernel_rfl) (fun _ _ => rfl) []).trans ?_; generalize wC D = J; revert J; refine id ?_; intro J; kernel_rfl
section
variable (c0 : Fl true) (e0 : LT) (n3 : Nat) (i4 : Int) (vx7 : List (SV true))
def gQ := atA D F.aRH
def oS : PT := ([1,1,0,1,0],St.mk ([.leaf (.sl c0 e0),.any,.any,.bsl 7 7 0 n3,.leaf (.int .i64 i4)] ++ cH 18) (noB 7 ++ [some vx7] ++ noB 15))
theorem vQ : gQ D (oS c0 e0 n3 i4 vx7) = aC (decide (i4 < (↑e0.length : Int))) (aA (decide (0 ≤ i4) && decide (i4 < (↑e0.length : Int)) && sized 7 e0) (gC (e0.getD i4.toNat []) fun e => atK e 0 fun l => cL .i64 l fun n => atK e 1 fun l => bM l fun s => atK e 2 fun l => bM l fun s_1 => atK e 3 fun l => bM l fun s_2 => atK e 4 fun l => slK l fun c es => atK e 5 fun l => slK l fun c_1 es_1 => atK e 6 fun l => slK l fun c_2 es_2 => (D F.aR4 [.agg [.int .i64 n,.str s,.str s_1,.str s_2,.sl c es,.sl c_1 es_1,.sl c_2 es_2]] []).bind fun r => eA r.fst fun cs => aA (cs.length == 7) (atK cs 0 fun l => cL .i64 l fun n => atK cs 1 fun l => bM l fun s => atK cs 2 fun l => bM l fun s_3 => atK cs 3 fun l => bM l fun s_4 => atK cs 4 fun l => slK l fun c es => atK cs 5 fun l => slK l fun c_3 es_3 => atK cs 6 fun l => slK l fun c_4 es_4 => aA (decide (0 ≤ i4) && decide (i4 < (↑n3 : Int))) (aA (decide ((0 + i4.toNat) * 7 + 7 ≤ vx7.length)) (gQ D (oS c0 e0 n3 (IntKind.i64.wrap (i4 + 1)) (hM vx7 ((0 + i4.toNat) * 7) [.leaf (.int .i64 n),.leaf (.str s),.leaf (.str s_3),.leaf (.str s_4),.leaf (.sl c es),.leaf (.sl c_3 es_3),.leaf (.sl c_4 es_4)]))))))) (aA (decide (n3 * 7 ≤ vx7.length)) ((bX (List.take (n3 * 7) vx7)).bind fun l => some (.leaf (.sl aO (hU 7 n3 l)),[]))) := by refine (aQ (J := gQ D) (fun _ _ => rfl) [[1,1,0,1,0]] _).trans ?_; generalize gQ D = J; revert J; refine id ?_; intro J; kernel_rfl
theorem aEN : bB Tryz.prog D Hs bQ F.aRH [.leaf (.sl c0 e0)] [] = aA ((↑e0.length : Int) == (↑e0.length : Int) && decide ((↑e0.length : Int).toNat * 128 ≤ aK) && decide ((↑e0.length : Int).toNat ≤ aK)) (gQ D (oS c0 e0 (decide (0 ≤ (↑e0.length : Int)) && (↑e0.length : Int) == (↑e0.length : Int) && decide ((↑e0.length : Int).toNat * Tryz.prog.types[65].bytes ≤ aK) && decide ((↑e0.length : Int).toNat ≤ aK),(Tryz.prog.types[65].size,(↑e0.length : Int).toNat),List.map SV.leaf (List.replicate (↑e0.length : Int).toNat ((fun (x : List (aB true)) => .int .i64 0 :: x) ((fun (x : List (aB true)) => .str (ByteArray.mk #[]) :: x) ((fun (x : List (aB true)) => .str (ByteArray.mk #[]) :: x) ((fun (x : List (aB true)) => .str (ByteArray.mk #[]) :: x) ((fun (x : List (aB true)) => .sl (Fl.new true) [] :: x) ((fun (x : List (aB true)) => .sl (Fl.new true) [] :: x) ((fun (x : List (aB true)) => .sl (Fl.new true) [] :: x) [])))))))).flatten).snd.fst.snd 0 (decide (0 ≤ (↑e0.length : Int)) && (↑e0.length : Int) == (↑e0.length : Int) && decide ((↑e0.length : Int).toNat * Tryz.prog.types[65].bytes ≤ aK) && decide ((↑e0.length : Int).toNat ≤ aK),(Tryz.prog.types[65].size,(↑e0.length : Int).toNat),List.map SV.leaf (List.replicate (↑e0.length : Int).toNat ((fun (x : List (aB true)) => .int .i64 0 :: x) ((fun (x : List (aB true)) => .str (ByteArray.mk #[]) :: x) ((fun (x : List (aB true)) => .str (ByteArray.mk #[]) :: x) ((fun (x : List (aB true)) => .str (ByteArray.mk #[]) :: x) ((fun (x : List (aB true)) => .sl (Fl.new true) [] :: x) ((fun (x : List (aB true)) => .sl (Fl.new true) [] :: x) ((fun (x : List (aB true)) => .sl (Fl.new true) [] :: x) [])))))))).flatten).snd.snd)) := by refine (aI (J := gQ D) (by kernel_rfl) (fun _ _ => rfl) [[1,1,0,1,0]]).trans ?_; generalize gQ D = J; revert J; refine id ?_; intro J; kernel_rfl
end
def tW := atA D F.aQN
theorem aAU (c0_0 : Fl true) (e0_0 : LT) (c0_1 : Fl true) (e0_1 : LT) (c0_2 : Fl true) (e0_2 : LT) (i1 : Int) : bB Tryz.prog D Hs bQ F.aQN [.agg [.sl c0_0 e0_0,.sl c0_1 e0_1,.sl c0_2 e0_2],.leaf (.int .i64 i1)] [] = (D F.aRd [.leaf (.sl c0_0 e0_0),.leaf (.int .i64 i1)] []).bind fun r => aL r.fst fun l => cL .i64 l fun n => (D F.aRd [.leaf (.sl c0_1 e0_1),.leaf (.int .i64 n)] []).bind fun r => aL r.fst fun l => cL .i64 l fun n => (D F.aQS [.leaf (.sl c0_2 e0_2),.leaf (.int .i64 n)] []).bind fun r => aL r.fst fun l => cL .i64 l fun n => some (.leaf (.int .i64 n),[]) := by refine (aI (J := tW D) (by kernel_rfl) (fun _ _ => rfl) []).trans ?_; generalize tW D = J; revert J; refine id ?_; intro J; kernel_rfl
section
variable (c0 : Fl true) (e0 : LT) (i1 i5 : Int)
def fD := atA D F.aRf
def mL : PT := ([1,0,1,0],St.mk ([.leaf (.sl c0 e0),.leaf (.int .i64 i1),.any,.any,.any,.leaf (.int .i64 i5)] ++ cH 59) (noB 65))
theorem sB : fD D (mL c0 e0 i1 i5) = aC (decide (i5 < (↑e0.length : Int))) (aA (decide (0 ≤ i5) && decide (i5 < (↑e0.length : Int)) && sized 7 e0) (if (c0.isSoft = true ∧ dC (e0.getD i5.toNat []) 0 = true) ∧ ((.leaf (.int .i64 i1) : SV true)).plain = true ∧ cT Tryz.prog 3 = some 1 then (D F.aRb [.leaf (.int .i64 (IntKind.i64.wrap (i1 + 1)))] []).bind fun r => aL r.fst fun l => bM l fun s => aA (decide (0 ≤ i5) && decide (i5 < (↑e0.length : Int)) && sized 7 e0) (if (c0.isSoft = true ∧ dC (e0.getD i5.toNat []) 1 = true) ∧ ((.leaf (.str s) : SV true)).plain = true ∧ cT Tryz.prog 9 = some 1 then (D F.aRb [.leaf (.int .i64 (IntKind.i64.wrap (IntKind.i64.wrap (i1 + 1) + 1)))] []).bind fun r => aL r.fst fun l => bM l fun s => aA (decide (0 ≤ i5) && decide (i5 < (↑e0.length : Int)) && sized 7 e0) (if (c0.isSoft = true ∧ dC (e0.getD i5.toNat []) 2 = true) ∧ ((.leaf (.str s) : SV true)).plain = true ∧ cT Tryz.prog 9 = some 1 then (D F.aRb [.leaf (.int .i64 (IntKind.i64.wrap (IntKind.i64.wrap (IntKind.i64.wrap (i1 + 1) + 1) + 1)))] []).bind fun r => aL r.fst fun l => bM l fun s => aA (decide (0 ≤ i5) && decide (i5 < (↑e0.length : Int)) && sized 7 e0) (if (c0.isSoft = true ∧ dC (e0.getD i5.toNat []) 3 = true) ∧ ((.leaf (.str s) : SV true)).plain = true ∧ cT Tryz.prog 9 = some 1 then aA (decide (0 ≤ i5) && decide (i5 < (↑e0.length : Int)) && sized 7 e0) (atK (e0.getD i5.toNat []) 4 fun l => slK l fun c es => (D F.aRi [.leaf (.sl c es),.leaf (.int .i64 (IntKind.i64.wrap (IntKind.i64.wrap (IntKind.i64.wrap (IntKind.i64.wrap (i1 + 1) + 1) + 1) + 1)))] []).bind fun r => aL r.fst fun l => cL .i64 l fun n => aA (decide (0 ≤ i5) && decide (i5 < (↑e0.length : Int)) && sized 7 e0) (atK (e0.getD i5.toNat []) 5 fun l => slK l fun c es => (D F.aQ5 [.leaf (.sl c es),.leaf (.int .i64 n)] []).bind fun r => aL r.fst fun l => cL .i64 l fun n => aA (decide (0 ≤ i5) && decide (i5 < (↑e0.length : Int)) && sized 7 e0) (atK (e0.getD i5.toNat []) 6 fun l => slK l fun c es => (D F.aRf [.leaf (.sl c es),.leaf (.int .i64 n)] []).bind fun r => aL r.fst fun l => cL .i64 l fun n => fD D (mL c0 e0 n (IntKind.i64.wrap (i5 + 1)))))) else none) else none) else none) else none)) (some (.leaf (.int .i64 i1),[])) := by refine (aQ (J := fD D) (fun _ _ => rfl) [[1,0,1,0]] _).trans ?_; generalize fD D = J; revert J; refine id ?_; intro J; kernel_rfl
theorem aCB : bB Tryz.prog D Hs bQ F.aRf [.leaf (.sl c0 e0),.leaf (.int .i64 i1)] [] = fD D (mL c0 e0 i1 0) := by refine (aI (J := fD D) (by kernel_rfl) (fun _ _ => rfl) [[1,0,1,0]]).trans ?_; generalize fD D = J; revert J; refine id ?_; intro J; kernel_rfl
end
section
variable (c0 : Fl true) (e0 : LT) (n3 : Nat) (i4 : Int) (vx7 : List (SV true))
def gZ := atA D F.aRW
def oT : PT := ([1,1,0,1,0],St.mk ([.leaf (.sl c0 e0),.any,.any,.bsl 7 11 0 n3,.leaf (.int .i64 i4)] ++ cH 18) (noB 7 ++ [some vx7] ++ noB 15))
theorem uW : gZ D (oT c0 e0 n3 i4 vx7) = aC (decide (i4 < (↑e0.length : Int))) (aA (decide (0 ≤ i4) && decide (i4 < (↑e0.length : Int)) && sized 11 e0) (gC (e0.getD i4.toNat []) fun e => atK e 0 fun l => cL .i64 l fun n => atK e 1 fun l => cU l fun b => atK e 2 fun l => bM l fun s => atK e 3 fun l => bM l fun s_1 => atK e 4 fun l => slK l fun c es => atK e 5 fun l => slK l fun c_1 es_1 => atK e 6 fun l => slK l fun c_2 es_2 => atK e 7 fun l => slK l fun c_3 es_3 => atK e 8 fun l => slK l fun c_4 es_4 => atK e 9 fun l => cU l fun b_1 => atK e 10 fun l => slK l fun c_5 es_5 => (D F.aR3 [.agg [.int .i64 n,.bool b,.str s,.str s_1,.sl c es,.sl c_1 es_1,.sl c_2 es_2,.sl c_3 es_3,.sl c_4 es_4,.bool b_1,.sl c_5 es_5]] []).bind fun r => eA r.fst fun cs => aA (cs.length == 11) (atK cs 0 fun l => cL .i64 l fun n => atK cs 1 fun l => cU l fun b => atK cs 2 fun l => bM l fun s => atK cs 3 fun l => bM l fun s_2 => atK cs 4 fun l => slK l fun c es => atK cs 5 fun l => slK l fun c_6 es_6 => atK cs 6 fun l => slK l fun c_7 es_7 => atK cs 7 fun l => slK l fun c_8 es_8 => atK cs 8 fun l => slK l fun c_9 es_9 => atK cs 9 fun l => cU l fun b_2 => atK cs 10 fun l => slK l fun c_10 es_10 => aA (decide (0 ≤ i4) && decide (i4 < (↑n3 : Int))) (aA (decide ((0 + i4.toNat) * 11 + 11 ≤ vx7.length)) (gZ D (oT c0 e0 n3 (IntKind.i64.wrap (i4 + 1)) (hM vx7 ((0 + i4.toNat) * 11) [.leaf (.int .i64 n),.leaf (.bool b),.leaf (.str s),.leaf (.str s_2),.leaf (.sl c es),.leaf (.sl c_6 es_6),.leaf (.sl c_7 es_7),.leaf (.sl c_8 es_8),.leaf (.sl c_9 es_9),.leaf (.bool b_2),.leaf (.sl c_10 es_10)]))))))) (aA (decide (n3 * 11 ≤ vx7.length)) ((bX (List.take (n3 * 11) vx7)).bind fun l => some (.leaf (.sl aO (hU 11 n3 l)),[]))) := by refine (aQ (J := gZ D) (fun _ _ => rfl) [[1,1,0,1,0]] _).trans ?_; generalize gZ D = J; revert J; refine id ?_; intro J; kernel_rfl
theorem aEF : bB Tryz.prog D Hs bQ F.aRW [.leaf (.sl c0 e0)] [] = aA ((↑e0.length : Int) == (↑e0.length : Int) && decide ((↑e0.length : Int).toNat * 200 ≤ aK) && decide ((↑e0.length : Int).toNat ≤ aK)) (gZ D (oT c0 e0 (decide (0 ≤ (↑e0.length : Int)) && (↑e0.length : Int) == (↑e0.length : Int) && decide ((↑e0.length : Int).toNat * Tryz.prog.types[90].bytes ≤ aK) && decide ((↑e0.length : Int).toNat ≤ aK),(Tryz.prog.types[90].size,(↑e0.length : Int).toNat),List.map SV.leaf (List.replicate (↑e0.length : Int).toNat ((fun (x : List (aB true)) => .int .i64 0 :: x) ((fun (x : List (aB true)) => .bool false :: x) ((fun (x : List (aB true)) => .str (ByteArray.mk #[]) :: x) ((fun (x : List (aB true)) => .str (ByteArray.mk #[]) :: x) ((fun (x : List (aB true)) => .sl (Fl.new true) [] :: x) ((fun (x : List (aB true)) => .sl (Fl.new true) [] :: x) ((fun (x : List (aB true)) => .sl (Fl.new true) [] :: x) ((fun (x : List (aB true)) => .sl (Fl.new true) [] :: x) ((fun (x : List (aB true)) => .sl (Fl.new true) [] :: x) ((fun (x : List (aB true)) => .bool false :: x) ((fun (x : List (aB true)) => .sl (Fl.new true) [] :: x) [])))))))))))).flatten).snd.fst.snd 0 (decide (0 ≤ (↑e0.length : Int)) && (↑e0.length : Int) == (↑e0.length : Int) && decide ((↑e0.length : Int).toNat * Tryz.prog.types[90].bytes ≤ aK) && decide ((↑e0.length : Int).toNat ≤ aK),(Tryz.prog.types[90].size,(↑e0.length : Int).toNat),List.map SV.leaf (List.replicate (↑e0.length : Int).toNat ((fun (x : List (aB true)) => .int .i64 0 :: x) ((fun (x : List (aB true)) => .bool false :: x) ((fun (x : List (aB true)) => .str (ByteArray.mk #[]) :: x) ((fun (x : List (aB true)) => .str (ByteArray.mk #[]) :: x) ((fun (x : List (aB true)) => .sl (Fl.new true) [] :: x) ((fun (x : List (aB true)) => .sl (Fl.new true) [] :: x) ((fun (x : List (aB true)) => .sl (Fl.new true) [] :: x) ((fun (x : List (aB true)) => .sl (Fl.new true) [] :: x) ((fun (x : List (aB true)) => .sl (Fl.new true) [] :: x) ((fun (x : List (aB true)) => .bool false :: x) ((fun (x : List (aB true)) => .sl (Fl.new true) [] :: x) [])))))))))))).flatten).snd.snd)) := by refine (aI (J := gZ D) (by kernel_rfl) (fun _ _ => rfl) [[1,1,0,1,0]]).trans ?_; generalize gZ D = J; revert J; refine id ?_; intro J; kernel_rfl
end
section
variable (c0 : Fl true) (e0 : LT) (n3 : Nat) (i4 : Int) (vx7 : List (SV true))
def fZ := atA D F.aRA
def nM : PT := ([1,1,0,1,0],St.mk ([.leaf (.sl c0 e0),.any,.any,.bsl 7 2 0 n3,.leaf (.int .i64 i4)] ++ cH 18) (noB 7 ++ [some vx7] ++ noB 15))
theorem tS : fZ D (nM c0 e0 n3 i4 vx7) = aC (decide (i4 < (↑e0.length : Int))) (aA (decide (0 ≤ i4) && decide (i4 < (↑e0.length : Int)) && sized 2 e0) (gC (e0.getD i4.toNat []) fun e => atK e 0 fun l => cL .i64 l fun n => atK e 1 fun l => bM l fun s => (D F.aRG [.agg [.int .i64 n,.str s]] []).bind fun r => eA r.fst fun cs => aA (cs.length == 2) (atK cs 0 fun l => cL .i64 l fun n => atK cs 1 fun l => bM l fun s => aA (decide (0 ≤ i4) && decide (i4 < (↑n3 : Int))) (aA (decide ((0 + i4.toNat) * 2 + 2 ≤ vx7.length)) (fZ D (nM c0 e0 n3 (IntKind.i64.wrap (i4 + 1)) (hM vx7 ((0 + i4.toNat) * 2) [.leaf (.int .i64 n),.leaf (.str s)]))))))) (aA (decide (n3 * 2 ≤ vx7.length)) ((bX (List.take (n3 * 2) vx7)).bind fun l => some (.leaf (.sl aO (hU 2 n3 l)),[]))) := by refine (aQ (J := fZ D) (fun _ _ => rfl) [[1,1,0,1,0]] _).trans ?_; generalize fZ D = J; revert J; refine id ?_; intro J; kernel_rfl
theorem aDK : bB Tryz.prog D Hs bQ F.aRA [.leaf (.sl c0 e0)] [] = aA ((↑e0.length : Int) == (↑e0.length : Int) && decide ((↑e0.length : Int).toNat * 24 ≤ aK) && decide ((↑e0.length : Int).toNat ≤ aK)) (fZ D (nM c0 e0 (decide (0 ≤ (↑e0.length : Int)) && (↑e0.length : Int) == (↑e0.length : Int) && decide ((↑e0.length : Int).toNat * Tryz.prog.types[123].bytes ≤ aK) && decide ((↑e0.length : Int).toNat ≤ aK),(Tryz.prog.types[123].size,(↑e0.length : Int).toNat),List.map SV.leaf (List.replicate (↑e0.length : Int).toNat ((fun (x : List (aB true)) => .int .i64 0 :: x) ((fun (x : List (aB true)) => .str (ByteArray.mk #[]) :: x) []))).flatten).snd.fst.snd 0 (decide (0 ≤ (↑e0.length : Int)) && (↑e0.length : Int) == (↑e0.length : Int) && decide ((↑e0.length : Int).toNat * Tryz.prog.types[123].bytes ≤ aK) && decide ((↑e0.length : Int).toNat ≤ aK),(Tryz.prog.types[123].size,(↑e0.length : Int).toNat),List.map SV.leaf (List.replicate (↑e0.length : Int).toNat ((fun (x : List (aB true)) => .int .i64 0 :: x) ((fun (x : List (aB true)) => .str (ByteArray.mk #[]) :: x) []))).flatten).snd.snd)) := by refine (aI (J := fZ D) (by kernel_rfl) (fun _ _ => rfl) [[1,1,0,1,0]]).trans ?_; generalize fZ D = J; revert J; refine id ?_; intro J; kernel_rfl
end
def aBe := atA D F.aR4
theorem aFs (i0_0 : Int) (s0_1 s0_2 s0_3 : ByteArray) (c0_4 : Fl true) (e0_4 : LT) (c0_5 : Fl true) (e0_5 : LT) (c0_6 : Fl true) (e0_6 : LT) : bB Tryz.prog D Hs bQ F.aR4 [.agg [.int .i64 i0_0,.str s0_1,.str s0_2,.str s0_3,.sl c0_4 e0_4,.sl c0_5 e0_5,.sl c0_6 e0_6]] [] = (D F.aRL [.leaf (.sl c0_4 e0_4)] []).bind fun r => iR r.fst fun c es => (D F.aRZ [.leaf (.sl c0_5 e0_5)] []).bind fun r => iR r.fst fun c_1 es_1 => (D F.aRH [.leaf (.sl c0_6 e0_6)] []).bind fun r => iR r.fst fun c_2 es_2 => some (.agg [.int .i64 i0_0,.str s0_1,.str s0_2,.str s0_3,.sl c es,.sl c_1 es_1,.sl c_2 es_2],[]) := by refine (aI (J := aBe D) (by kernel_rfl) (fun _ _ => rfl) []).trans ?_; generalize aBe D = J; revert J; refine id ?_; intro J; kernel_rfl
section
variable (c0 : Fl true) (e0 : LT) (i1 i5 : Int)
def fK := atA D F.aRd
def mO : PT := ([1,0,1,0],St.mk ([.leaf (.sl c0 e0),.leaf (.int .i64 i1),.any,.any,.any,.leaf (.int .i64 i5)] ++ cH 90) (noB 96))
theorem sC : fK D (mO c0 e0 i1 i5) = aC (decide (i5 < (↑e0.length : Int))) (aA (decide (0 ≤ i5) && decide (i5 < (↑e0.length : Int)) && sized 11 e0) (if (c0.isSoft = true ∧ dC (e0.getD i5.toNat []) 0 = true) ∧ ((.leaf (.int .i64 i1) : SV true)).plain = true ∧ cT Tryz.prog 3 = some 1 then aA (decide (0 ≤ i5) && decide (i5 < (↑e0.length : Int)) && sized 11 e0) (if (c0.isSoft = true ∧ dC (e0.getD i5.toNat []) 1 = true) ∧ ((.leaf (.bool ((IntKind.i64.wrap (i1 + 1)).tmod 3 == 0)) : SV true)).plain = true ∧ cT Tryz.prog 4 = some 1 then (D F.aRb [.leaf (.int .i64 (IntKind.i64.wrap (IntKind.i64.wrap (i1 + 1) + 1)))] []).bind fun r => aL r.fst fun l => bM l fun s => aA (decide (0 ≤ i5) && decide (i5 < (↑e0.length : Int)) && sized 11 e0) (if (c0.isSoft = true ∧ dC (e0.getD i5.toNat []) 2 = true) ∧ ((.leaf (.str s) : SV true)).plain = true ∧ cT Tryz.prog 9 = some 1 then (D F.aRb [.leaf (.int .i64 (IntKind.i64.wrap (IntKind.i64.wrap (IntKind.i64.wrap (i1 + 1) + 1) + 1)))] []).bind fun r => aL r.fst fun l => bM l fun s => aA (decide (0 ≤ i5) && decide (i5 < (↑e0.length : Int)) && sized 11 e0) (if (c0.isSoft = true ∧ dC (e0.getD i5.toNat []) 3 = true) ∧ ((.leaf (.str s) : SV true)).plain = true ∧ cT Tryz.prog 9 = some 1 then aA (decide (0 ≤ i5) && decide (i5 < (↑e0.length : Int)) && sized 11 e0) (atK (e0.getD i5.toNat []) 4 fun l => slK l fun c es => (D F.aQC [.leaf (.sl c es),.leaf (.int .i64 (IntKind.i64.wrap (IntKind.i64.wrap (IntKind.i64.wrap (IntKind.i64.wrap (i1 + 1) + 1) + 1) + 1)))] []).bind fun r => aL r.fst fun l => cL .i64 l fun n => aA (decide (0 ≤ i5) && decide (i5 < (↑e0.length : Int)) && sized 11 e0) (atK (e0.getD i5.toNat []) 5 fun l => slK l fun c es => (D F.aQq [.leaf (.sl c es),.leaf (.int .i64 n)] []).bind fun r => aL r.fst fun l => cL .i64 l fun n => aA (decide (0 ≤ i5) && decide (i5 < (↑e0.length : Int)) && sized 11 e0) (atK (e0.getD i5.toNat []) 6 fun l => slK l fun c es => (D F.aQE [.leaf (.sl c es),.leaf (.int .i64 n)] []).bind fun r => aL r.fst fun l => cL .i64 l fun n => aA (decide (0 ≤ i5) && decide (i5 < (↑e0.length : Int)) && sized 11 e0) (atK (e0.getD i5.toNat []) 7 fun l => slK l fun c es => (D F.aQt [.leaf (.sl c es),.leaf (.int .i64 n)] []).bind fun r => aL r.fst fun l => cL .i64 l fun n => aA (decide (0 ≤ i5) && decide (i5 < (↑e0.length : Int)) && sized 11 e0) (atK (e0.getD i5.toNat []) 8 fun l => slK l fun c es => (D F.aQS [.leaf (.sl c es),.leaf (.int .i64 n)] []).bind fun r => aL r.fst fun l => cL .i64 l fun n => aA (decide (0 ≤ i5) && decide (i5 < (↑e0.length : Int)) && sized 11 e0) (if (c0.isSoft = true ∧ dC (e0.getD i5.toNat []) 9 = true) ∧ ((.leaf (.bool (n.tmod 3 == 0)) : SV true)).plain = true ∧ cT Tryz.prog 4 = some 1 then aA (decide (0 ≤ i5) && decide (i5 < (↑e0.length : Int)) && sized 11 e0) (atK (e0.getD i5.toNat []) 10 fun l => slK l fun c es => (D F.aQ5 [.leaf (.sl c es),.leaf (.int .i64 (IntKind.i64.wrap (n + 1)))] []).bind fun r => aL r.fst fun l => cL .i64 l fun n => fK D (mO c0 e0 n (IntKind.i64.wrap (i5 + 1)))) else none)))))) else none) else none) else none) else none)) (some (.leaf (.int .i64 i1),[])) := by refine (aQ (J := fK D) (fun _ _ => rfl) [[1,0,1,0]] _).trans ?_; generalize fK D = J; revert J; refine id ?_; intro J; kernel_rfl
theorem aCF : bB Tryz.prog D Hs bQ F.aRd [.leaf (.sl c0 e0),.leaf (.int .i64 i1)] [] = fK D (mO c0 e0 i1 0) := by refine (aI (J := fK D) (by kernel_rfl) (fun _ _ => rfl) [[1,0,1,0]]).trans ?_; generalize fK D = J; revert J; refine id ?_; intro J; kernel_rfl
end
section
variable (c0 : Fl true) (e0 : LT) (i1 i5 : Int)
def eP := atA D F.aQS
def lQ : PT := ([1,0,1,0],St.mk ([.leaf (.sl c0 e0),.leaf (.int .i64 i1),.any,.any,.any,.leaf (.int .i64 i5)] ++ cH 22) (noB 28))
theorem qZ : eP D (lQ c0 e0 i1 i5) = aC (decide (i5 < (↑e0.length : Int))) (aA (decide (0 ≤ i5) && decide (i5 < (↑e0.length : Int)) && sized 2 e0) (if (c0.isSoft = true ∧ dC (e0.getD i5.toNat []) 0 = true) ∧ ((.leaf (.int .i64 i1) : SV true)).plain = true ∧ cT Tryz.prog 3 = some 1 then (D F.aRb [.leaf (.int .i64 (IntKind.i64.wrap (i1 + 1)))] []).bind fun r => aL r.fst fun l => bM l fun s => aA (decide (0 ≤ i5) && decide (i5 < (↑e0.length : Int)) && sized 2 e0) (if (c0.isSoft = true ∧ dC (e0.getD i5.toNat []) 1 = true) ∧ ((.leaf (.str s) : SV true)).plain = true ∧ cT Tryz.prog 9 = some 1 then eP D (lQ c0 e0 (IntKind.i64.wrap (IntKind.i64.wrap (i1 + 1) + 1)) (IntKind.i64.wrap (i5 + 1))) else none) else none)) (some (.leaf (.int .i64 i1),[])) := by refine (aQ (J := eP D) (fun _ _ => rfl) [[1,0,1,0]] _).trans ?_; generalize eP D = J; revert J; refine id ?_; intro J; kernel_rfl
theorem aB5 : bB Tryz.prog D Hs bQ F.aQS [.leaf (.sl c0 e0),.leaf (.int .i64 i1)] [] = eP D (lQ c0 e0 i1 0) := by refine (aI (J := eP D) (by kernel_rfl) (fun _ _ => rfl) [[1,0,1,0]]).trans ?_; generalize eP D = J; revert J; refine id ?_; intro J; kernel_rfl
end
section
variable (c0 : Fl true) (e0 : LT) (i1 i5 : Int)
def fM := atA D F.aRi
def mU : PT := ([1,0,1,0],St.mk ([.leaf (.sl c0 e0),.leaf (.int .i64 i1),.any,.any,.any,.leaf (.int .i64 i5)] ++ cH 48) (noB 54))
theorem sG : fM D (mU c0 e0 i1 i5) = aC (decide (i5 < (↑e0.length : Int))) ((D F.aRb [.leaf (.int .i64 i1)] []).bind fun r => aL r.fst fun l => bM l fun s => aA (decide (0 ≤ i5) && decide (i5 < (↑e0.length : Int)) && sized 5 e0) (if (c0.isSoft = true ∧ dC (e0.getD i5.toNat []) 0 = true) ∧ ((.leaf (.str s) : SV true)).plain = true ∧ cT Tryz.prog 9 = some 1 then aA (decide (0 ≤ i5) && decide (i5 < (↑e0.length : Int)) && sized 5 e0) (if (c0.isSoft = true ∧ dC (e0.getD i5.toNat []) 1 = true) ∧ ((.leaf (.int .i64 (IntKind.i64.wrap (i1 + 1))) : SV true)).plain = true ∧ cT Tryz.prog 3 = some 1 then (D F.aRb [.leaf (.int .i64 (IntKind.i64.wrap (IntKind.i64.wrap (i1 + 1) + 1)))] []).bind fun r => aL r.fst fun l => bM l fun s => aA (decide (0 ≤ i5) && decide (i5 < (↑e0.length : Int)) && sized 5 e0) (if (c0.isSoft = true ∧ dC (e0.getD i5.toNat []) 2 = true) ∧ ((.leaf (.str s) : SV true)).plain = true ∧ cT Tryz.prog 9 = some 1 then aA (decide (0 ≤ i5) && decide (i5 < (↑e0.length : Int)) && sized 5 e0) (atK (e0.getD i5.toNat []) 3 fun l => slK l fun c es => (D F.aQG [.leaf (.sl c es),.leaf (.int .i64 (IntKind.i64.wrap (IntKind.i64.wrap (IntKind.i64.wrap (i1 + 1) + 1) + 1)))] []).bind fun r => aL r.fst fun l => cL .i64 l fun n => aA (decide (0 ≤ i5) && decide (i5 < (↑e0.length : Int)) && sized 5 e0) (atK (e0.getD i5.toNat []) 4 fun l => slK l fun c es => (D F.aQC [.leaf (.sl c es),.leaf (.int .i64 n)] []).bind fun r => aL r.fst fun l => cL .i64 l fun n => fM D (mU c0 e0 n (IntKind.i64.wrap (i5 + 1))))) else none) else none) else none)) (some (.leaf (.int .i64 i1),[])) := by refine (aQ (J := fM D) (fun _ _ => rfl) [[1,0,1,0]] _).trans ?_; generalize fM D = J; revert J; refine id ?_; intro J; kernel_rfl
theorem aCw : bB Tryz.prog D Hs bQ F.aRi [.leaf (.sl c0 e0),.leaf (.int .i64 i1)] [] = fM D (mU c0 e0 i1 0) := by refine (aI (J := fM D) (by kernel_rfl) (fun _ _ => rfl) [[1,0,1,0]]).trans ?_; generalize fM D = J; revert J; refine id ?_; intro J; kernel_rfl
end
section
variable (c0 : Fl true) (e0 : LT) (i1 i5 : Int)
def fL := atA D F.aQ5
def mT : PT := ([1,0,1,0],St.mk ([.leaf (.sl c0 e0),.leaf (.int .i64 i1),.any,.any,.any,.leaf (.int .i64 i5)] ++ cH 22) (noB 28))
theorem sM : fL D (mT c0 e0 i1 i5) = aC (decide (i5 < (↑e0.length : Int))) ((D F.aRb [.leaf (.int .i64 i1)] []).bind fun r => aL r.fst fun l => bM l fun s => aA (decide (0 ≤ i5) && decide (i5 < (↑e0.length : Int)) && sized 2 e0) (if (c0.isSoft = true ∧ dC (e0.getD i5.toNat []) 0 = true) ∧ ((.leaf (.str s) : SV true)).plain = true ∧ cT Tryz.prog 9 = some 1 then aA (decide (0 ≤ i5) && decide (i5 < (↑e0.length : Int)) && sized 2 e0) (atK (e0.getD i5.toNat []) 1 fun l => slK l fun c es => (D F.aRi [.leaf (.sl c es),.leaf (.int .i64 (IntKind.i64.wrap (i1 + 1)))] []).bind fun r => aL r.fst fun l => cL .i64 l fun n => fL D (mT c0 e0 n (IntKind.i64.wrap (i5 + 1)))) else none)) (some (.leaf (.int .i64 i1),[])) := by refine (aQ (J := fL D) (fun _ _ => rfl) [[1,0,1,0]] _).trans ?_; generalize fL D = J; revert J; refine id ?_; intro J; kernel_rfl
theorem aCo : bB Tryz.prog D Hs bQ F.aQ5 [.leaf (.sl c0 e0),.leaf (.int .i64 i1)] [] = fL D (mT c0 e0 i1 0) := by refine (aI (J := fL D) (by kernel_rfl) (fun _ _ => rfl) [[1,0,1,0]]).trans ?_; generalize fL D = J; revert J; refine id ?_; intro J; kernel_rfl
end
def aBX := atA D F.aR3
theorem aFO (i0_0 : Int) (b0_1 : Bool) (s0_2 s0_3 : ByteArray) (c0_4 : Fl true) (e0_4 : LT) (c0_5 : Fl true) (e0_5 : LT) (c0_6 : Fl true) (e0_6 : LT) (c0_7 : Fl true) (e0_7 : LT) (c0_8 : Fl true) (e0_8 : LT) (b0_9 : Bool) (c0_10 : Fl true) (e0_10 : LT) : bB Tryz.prog D Hs bQ F.aR3 [.agg [.int .i64 i0_0,.bool b0_1,.str s0_2,.str s0_3,.sl c0_4 e0_4,.sl c0_5 e0_5,.sl c0_6 e0_6,.sl c0_7 e0_7,.sl c0_8 e0_8,.bool b0_9,.sl c0_10 e0_10]] [] = (D F.aQT [.leaf (.sl c0_4 e0_4)] []).bind fun r => iR r.fst fun c es => (D F.aQy [.leaf (.sl c0_5 e0_5)] []).bind fun r => iR r.fst fun c_1 es_1 => (D F.aQ3 [.leaf (.sl c0_6 e0_6)] []).bind fun r => iR r.fst fun c_2 es_2 => (D F.aQK [.leaf (.sl c0_7 e0_7)] []).bind fun r => iR r.fst fun c_3 es_3 => (D F.aRA [.leaf (.sl c0_8 e0_8)] []).bind fun r => iR r.fst fun c_4 es_4 => (D F.aRZ [.leaf (.sl c0_10 e0_10)] []).bind fun r => iR r.fst fun c_5 es_5 => some (.agg [.int .i64 i0_0,.bool b0_1,.str s0_2,.str s0_3,.sl c es,.sl c_1 es_1,.sl c_2 es_2,.sl c_3 es_3,.sl c_4 es_4,.bool b0_9,.sl c_5 es_5],[]) := by refine (aI (J := aBX D) (by kernel_rfl) (fun _ _ => rfl) []).trans ?_; generalize aBX D = J; revert J; refine id ?_; intro J; kernel_rfl
def aAn := atA D F.aRG
theorem aE5 (i0_0 : Int) (s0_1 : ByteArray) : bB Tryz.prog D Hs bQ F.aRG [.agg [.int .i64 i0_0,.str s0_1]] [] = some (.agg [.int .i64 i0_0,.str s0_1],[]) := by refine (aI (J := aAn D) (by kernel_rfl) (fun _ _ => rfl) []).trans ?_; generalize aAn D = J; revert J; refine id ?_; intro J; kernel_rfl
section
variable (c0 : Fl true) (e0 : LT) (n3 : Nat) (i4 : Int) (vx7 : List (SV true))
def gP := atA D F.aRL
def oN : PT := ([1,1,0,1,0],St.mk ([.leaf (.sl c0 e0),.any,.any,.bsl 7 5 0 n3,.leaf (.int .i64 i4)] ++ cH 18) (noB 7 ++ [some vx7] ++ noB 15))
theorem uZ : gP D (oN c0 e0 n3 i4 vx7) = aC (decide (i4 < (↑e0.length : Int))) (aA (decide (0 ≤ i4) && decide (i4 < (↑e0.length : Int)) && sized 5 e0) (gC (e0.getD i4.toNat []) fun e => atK e 0 fun l => bM l fun s => atK e 1 fun l => cL .i64 l fun n => atK e 2 fun l => bM l fun s_1 => atK e 3 fun l => slK l fun c es => atK e 4 fun l => slK l fun c_1 es_1 => (D F.aR1 [.agg [.str s,.int .i64 n,.str s_1,.sl c es,.sl c_1 es_1]] []).bind fun r => eA r.fst fun cs => aA (cs.length == 5) (atK cs 0 fun l => bM l fun s => atK cs 1 fun l => cL .i64 l fun n => atK cs 2 fun l => bM l fun s_2 => atK cs 3 fun l => slK l fun c es => atK cs 4 fun l => slK l fun c_2 es_2 => aA (decide (0 ≤ i4) && decide (i4 < (↑n3 : Int))) (aA (decide ((0 + i4.toNat) * 5 + 5 ≤ vx7.length)) (gP D (oN c0 e0 n3 (IntKind.i64.wrap (i4 + 1)) (hM vx7 ((0 + i4.toNat) * 5) [.leaf (.str s),.leaf (.int .i64 n),.leaf (.str s_2),.leaf (.sl c es),.leaf (.sl c_2 es_2)]))))))) (aA (decide (n3 * 5 ≤ vx7.length)) ((bX (List.take (n3 * 5) vx7)).bind fun l => some (.leaf (.sl aO (hU 5 n3 l)),[]))) := by refine (aQ (J := gP D) (fun _ _ => rfl) [[1,1,0,1,0]] _).trans ?_; generalize gP D = J; revert J; refine id ?_; intro J; kernel_rfl
theorem aEB : bB Tryz.prog D Hs bQ F.aRL [.leaf (.sl c0 e0)] [] = aA ((↑e0.length : Int) == (↑e0.length : Int) && decide ((↑e0.length : Int).toNat * 88 ≤ aK) && decide ((↑e0.length : Int).toNat ≤ aK)) (gP D (oN c0 e0 (decide (0 ≤ (↑e0.length : Int)) && (↑e0.length : Int) == (↑e0.length : Int) && decide ((↑e0.length : Int).toNat * Tryz.prog.types[145].bytes ≤ aK) && decide ((↑e0.length : Int).toNat ≤ aK),(Tryz.prog.types[145].size,(↑e0.length : Int).toNat),List.map SV.leaf (List.replicate (↑e0.length : Int).toNat ((fun (x : List (aB true)) => .str (ByteArray.mk #[]) :: x) ((fun (x : List (aB true)) => .int .i64 0 :: x) ((fun (x : List (aB true)) => .str (ByteArray.mk #[]) :: x) ((fun (x : List (aB true)) => .sl (Fl.new true) [] :: x) ((fun (x : List (aB true)) => .sl (Fl.new true) [] :: x) [])))))).flatten).snd.fst.snd 0 (decide (0 ≤ (↑e0.length : Int)) && (↑e0.length : Int) == (↑e0.length : Int) && decide ((↑e0.length : Int).toNat * Tryz.prog.types[145].bytes ≤ aK) && decide ((↑e0.length : Int).toNat ≤ aK),(Tryz.prog.types[145].size,(↑e0.length : Int).toNat),List.map SV.leaf (List.replicate (↑e0.length : Int).toNat ((fun (x : List (aB true)) => .str (ByteArray.mk #[]) :: x) ((fun (x : List (aB true)) => .int .i64 0 :: x) ((fun (x : List (aB true)) => .str (ByteArray.mk #[]) :: x) ((fun (x : List (aB true)) => .sl (Fl.new true) [] :: x) ((fun (x : List (aB true)) => .sl (Fl.new true) [] :: x) [])))))).flatten).snd.snd)) := by refine (aI (J := gP D) (by kernel_rfl) (fun _ _ => rfl) [[1,1,0,1,0]]).trans ?_; generalize gP D = J; revert J; refine id ?_; intro J; kernel_rfl
end
section
variable (c0 : Fl true) (e0 : LT) (n3 : Nat) (i4 : Int) (vx7 : List (SV true))
def gT := atA D F.aRZ
def oU : PT := ([1,1,0,1,0],St.mk ([.leaf (.sl c0 e0),.any,.any,.bsl 7 2 0 n3,.leaf (.int .i64 i4)] ++ cH 18) (noB 7 ++ [some vx7] ++ noB 15))
theorem vE : gT D (oU c0 e0 n3 i4 vx7) = aC (decide (i4 < (↑e0.length : Int))) (aA (decide (0 ≤ i4) && decide (i4 < (↑e0.length : Int)) && sized 2 e0) (gC (e0.getD i4.toNat []) fun e => atK e 0 fun l => bM l fun s => atK e 1 fun l => slK l fun c es => (D F.aR2 [.agg [.str s,.sl c es]] []).bind fun r => eA r.fst fun cs => aA (cs.length == 2) (atK cs 0 fun l => bM l fun s => atK cs 1 fun l => slK l fun c es => aA (decide (0 ≤ i4) && decide (i4 < (↑n3 : Int))) (aA (decide ((0 + i4.toNat) * 2 + 2 ≤ vx7.length)) (gT D (oU c0 e0 n3 (IntKind.i64.wrap (i4 + 1)) (hM vx7 ((0 + i4.toNat) * 2) [.leaf (.str s),.leaf (.sl c es)]))))))) (aA (decide (n3 * 2 ≤ vx7.length)) ((bX (List.take (n3 * 2) vx7)).bind fun l => some (.leaf (.sl aO (hU 2 n3 l)),[]))) := by refine (aQ (J := gT D) (fun _ _ => rfl) [[1,1,0,1,0]] _).trans ?_; generalize gT D = J; revert J; refine id ?_; intro J; kernel_rfl
theorem aFa : bB Tryz.prog D Hs bQ F.aRZ [.leaf (.sl c0 e0)] [] = aA ((↑e0.length : Int) == (↑e0.length : Int) && decide ((↑e0.length : Int).toNat * 40 ≤ aK) && decide ((↑e0.length : Int).toNat ≤ aK)) (gT D (oU c0 e0 (decide (0 ≤ (↑e0.length : Int)) && (↑e0.length : Int) == (↑e0.length : Int) && decide ((↑e0.length : Int).toNat * Tryz.prog.types[148].bytes ≤ aK) && decide ((↑e0.length : Int).toNat ≤ aK),(Tryz.prog.types[148].size,(↑e0.length : Int).toNat),List.map SV.leaf (List.replicate (↑e0.length : Int).toNat ((fun (x : List (aB true)) => .str (ByteArray.mk #[]) :: x) ((fun (x : List (aB true)) => .sl (Fl.new true) [] :: x) []))).flatten).snd.fst.snd 0 (decide (0 ≤ (↑e0.length : Int)) && (↑e0.length : Int) == (↑e0.length : Int) && decide ((↑e0.length : Int).toNat * Tryz.prog.types[148].bytes ≤ aK) && decide ((↑e0.length : Int).toNat ≤ aK),(Tryz.prog.types[148].size,(↑e0.length : Int).toNat),List.map SV.leaf (List.replicate (↑e0.length : Int).toNat ((fun (x : List (aB true)) => .str (ByteArray.mk #[]) :: x) ((fun (x : List (aB true)) => .sl (Fl.new true) [] :: x) []))).flatten).snd.snd)) := by refine (aI (J := gT D) (by kernel_rfl) (fun _ _ => rfl) [[1,1,0,1,0]]).trans ?_; generalize gT D = J; revert J; refine id ?_; intro J; kernel_rfl
end
section
variable (c0 : Fl true) (e0 : LT) (i1 i5 : Int)
def dX := atA D F.aQC
def jZ : PT := ([1,0,1,0],St.mk ([.leaf (.sl c0 e0),.leaf (.int .i64 i1),.any,.any,.any,.leaf (.int .i64 i5)] ++ cH 14) (noB 20))
theorem pQ : dX D (jZ c0 e0 i1 i5) = aC (decide (i5 < (↑e0.length : Int))) ((D F.aRb [.leaf (.int .i64 i1)] []).bind fun r => aL r.fst fun l => bM l fun s => aA (decide (0 ≤ i5) && decide (i5 < (↑e0.length : Int)) && sized 1 e0) (if (c0.isSoft = true ∧ dC (e0.getD i5.toNat []) 0 = true) ∧ ((.leaf (.str s) : SV true)).plain = true ∧ cT Tryz.prog 9 = some 1 then dX D (jZ c0 e0 (IntKind.i64.wrap (i1 + 1)) (IntKind.i64.wrap (i5 + 1))) else none)) (some (.leaf (.int .i64 i1),[])) := by refine (aQ (J := dX D) (fun _ _ => rfl) [[1,0,1,0]] _).trans ?_; generalize dX D = J; revert J; refine id ?_; intro J; kernel_rfl
theorem zG : bB Tryz.prog D Hs bQ F.aQC [.leaf (.sl c0 e0),.leaf (.int .i64 i1)] [] = dX D (jZ c0 e0 i1 0) := by refine (aI (J := dX D) (by kernel_rfl) (fun _ _ => rfl) [[1,0,1,0]]).trans ?_; generalize dX D = J; revert J; refine id ?_; intro J; kernel_rfl
end
section
variable (c0 : Fl true) (e0 : LT) (i1 i5 : Int)
def dB := atA D F.aQq
def iW : PT := ([1,0,1,0],St.mk ([.leaf (.sl c0 e0),.leaf (.int .i64 i1),.any,.any,.any,.leaf (.int .i64 i5)] ++ cH 55) (noB 61))
theorem nR : dB D (iW c0 e0 i1 i5) = aC (decide (i5 < (↑e0.length : Int))) ((D F.aRb [.leaf (.int .i64 i1)] []).bind fun r => aL r.fst fun l => bM l fun s => aA (decide (0 ≤ i5) && decide (i5 < (↑e0.length : Int)) && sized 6 e0) (if (c0.isSoft = true ∧ dC (e0.getD i5.toNat []) 0 = true) ∧ ((.leaf (.str s) : SV true)).plain = true ∧ cT Tryz.prog 9 = some 1 then (D F.aRb [.leaf (.int .i64 (IntKind.i64.wrap (i1 + 1)))] []).bind fun r => aL r.fst fun l => bM l fun s => aA (decide (0 ≤ i5) && decide (i5 < (↑e0.length : Int)) && sized 6 e0) (if (c0.isSoft = true ∧ dC (e0.getD i5.toNat []) 1 = true) ∧ ((.leaf (.str s) : SV true)).plain = true ∧ cT Tryz.prog 9 = some 1 then aA (decide (0 ≤ i5) && decide (i5 < (↑e0.length : Int)) && sized 6 e0) (atK (e0.getD i5.toNat []) 2 fun l => slK l fun c es => (D F.aQE [.leaf (.sl c es),.leaf (.int .i64 (IntKind.i64.wrap (IntKind.i64.wrap (i1 + 1) + 1)))] []).bind fun r => aL r.fst fun l => cL .i64 l fun n => (D F.aRb [.leaf (.int .i64 n)] []).bind fun r => aL r.fst fun l => bM l fun s => aA (decide (0 ≤ i5) && decide (i5 < (↑e0.length : Int)) && sized 6 e0) (if (c0.isSoft = true ∧ dC (e0.getD i5.toNat []) 3 = true) ∧ ((.leaf (.str s) : SV true)).plain = true ∧ cT Tryz.prog 9 = some 1 then (D F.aRb [.leaf (.int .i64 (IntKind.i64.wrap (n + 1)))] []).bind fun r => aL r.fst fun l => bM l fun s => aA (decide (0 ≤ i5) && decide (i5 < (↑e0.length : Int)) && sized 6 e0) (if (c0.isSoft = true ∧ dC (e0.getD i5.toNat []) 4 = true) ∧ ((.leaf (.str s) : SV true)).plain = true ∧ cT Tryz.prog 9 = some 1 then aA (decide (0 ≤ i5) && decide (i5 < (↑e0.length : Int)) && sized 6 e0) (atK (e0.getD i5.toNat []) 5 fun l => slK l fun c es => (D F.aQ5 [.leaf (.sl c es),.leaf (.int .i64 (IntKind.i64.wrap (IntKind.i64.wrap (n + 1) + 1)))] []).bind fun r => aL r.fst fun l => cL .i64 l fun n => dB D (iW c0 e0 n (IntKind.i64.wrap (i5 + 1)))) else none) else none)) else none) else none)) (some (.leaf (.int .i64 i1),[])) := by refine (aQ (J := dB D) (fun _ _ => rfl) [[1,0,1,0]] _).trans ?_; generalize dB D = J; revert J; refine id ?_; intro J; kernel_rfl
theorem wT : bB Tryz.prog D Hs bQ F.aQq [.leaf (.sl c0 e0),.leaf (.int .i64 i1)] [] = dB D (iW c0 e0 i1 0) := by refine (aI (J := dB D) (by kernel_rfl) (fun _ _ => rfl) [[1,0,1,0]]).trans ?_; generalize dB D = J; revert J; refine id ?_; intro J; kernel_rfl
end
section
variable (c0 : Fl true) (e0 : LT) (i1 i5 : Int)
def eE := atA D F.aQE
def kT : PT := ([1,0,1,0],St.mk ([.leaf (.sl c0 e0),.leaf (.int .i64 i1),.any,.any,.any,.leaf (.int .i64 i5)] ++ cH 90) (noB 96))
theorem qH : eE D (kT c0 e0 i1 i5) = aC (decide (i5 < (↑e0.length : Int))) ((D F.aRb [.leaf (.int .i64 i1)] []).bind fun r => aL r.fst fun l => bM l fun s => aA (decide (0 ≤ i5) && decide (i5 < (↑e0.length : Int)) && sized 10 e0) (if (c0.isSoft = true ∧ dC (e0.getD i5.toNat []) 0 = true) ∧ ((.leaf (.str s) : SV true)).plain = true ∧ cT Tryz.prog 9 = some 1 then (D F.aRb [.leaf (.int .i64 (IntKind.i64.wrap (i1 + 1)))] []).bind fun r => aL r.fst fun l => bM l fun s => aA (decide (0 ≤ i5) && decide (i5 < (↑e0.length : Int)) && sized 10 e0) (if (c0.isSoft = true ∧ dC (e0.getD i5.toNat []) 1 = true) ∧ ((.leaf (.str s) : SV true)).plain = true ∧ cT Tryz.prog 9 = some 1 then (D F.aRb [.leaf (.int .i64 (IntKind.i64.wrap (IntKind.i64.wrap (i1 + 1) + 1)))] []).bind fun r => aL r.fst fun l => bM l fun s => aA (decide (0 ≤ i5) && decide (i5 < (↑e0.length : Int)) && sized 10 e0) (if (c0.isSoft = true ∧ dC (e0.getD i5.toNat []) 2 = true) ∧ ((.leaf (.str s) : SV true)).plain = true ∧ cT Tryz.prog 9 = some 1 then (D F.aRb [.leaf (.int .i64 (IntKind.i64.wrap (IntKind.i64.wrap (IntKind.i64.wrap (i1 + 1) + 1) + 1)))] []).bind fun r => aL r.fst fun l => bM l fun s => aA (decide (0 ≤ i5) && decide (i5 < (↑e0.length : Int)) && sized 10 e0) (if (c0.isSoft = true ∧ dC (e0.getD i5.toNat []) 3 = true) ∧ ((.leaf (.str s) : SV true)).plain = true ∧ cT Tryz.prog 9 = some 1 then aA (decide (0 ≤ i5) && decide (i5 < (↑e0.length : Int)) && sized 10 e0) (if (c0.isSoft = true ∧ dC (e0.getD i5.toNat []) 4 = true) ∧ ((.leaf (.bool ((IntKind.i64.wrap (IntKind.i64.wrap (IntKind.i64.wrap (IntKind.i64.wrap (i1 + 1) + 1) + 1) + 1)).tmod 3 == 0)) : SV true)).plain = true ∧ cT Tryz.prog 4 = some 1 then aA (decide (0 ≤ i5) && decide (i5 < (↑e0.length : Int)) && sized 10 e0) (if (c0.isSoft = true ∧ dC (e0.getD i5.toNat []) 5 = true) ∧ ((.leaf (.int .i64 (IntKind.i64.wrap (IntKind.i64.wrap (IntKind.i64.wrap (IntKind.i64.wrap (IntKind.i64.wrap (i1 + 1) + 1) + 1) + 1) + 1))) : SV true)).plain = true ∧ cT Tryz.prog 3 = some 1 then (D F.aRb [.leaf (.int .i64 (IntKind.i64.wrap (IntKind.i64.wrap (IntKind.i64.wrap (IntKind.i64.wrap (IntKind.i64.wrap (IntKind.i64.wrap (i1 + 1) + 1) + 1) + 1) + 1) + 1)))] []).bind fun r => aL r.fst fun l => bM l fun s => aA (decide (0 ≤ i5) && decide (i5 < (↑e0.length : Int)) && sized 10 e0) (if (c0.isSoft = true ∧ dC (e0.getD i5.toNat []) 6 = true) ∧ ((.leaf (.str s) : SV true)).plain = true ∧ cT Tryz.prog 9 = some 1 then aA (decide (0 ≤ i5) && decide (i5 < (↑e0.length : Int)) && sized 10 e0) (atK (e0.getD i5.toNat []) 7 fun l => slK l fun c es => (D F.aQG [.leaf (.sl c es),.leaf (.int .i64 (IntKind.i64.wrap (IntKind.i64.wrap (IntKind.i64.wrap (IntKind.i64.wrap (IntKind.i64.wrap (IntKind.i64.wrap (IntKind.i64.wrap (i1 + 1) + 1) + 1) + 1) + 1) + 1) + 1)))] []).bind fun r => aL r.fst fun l => cL .i64 l fun n => aA (decide (0 ≤ i5) && decide (i5 < (↑e0.length : Int)) && sized 10 e0) (atK (e0.getD i5.toNat []) 8 fun l => slK l fun c es => (D F.aQC [.leaf (.sl c es),.leaf (.int .i64 n)] []).bind fun r => aL r.fst fun l => cL .i64 l fun n => aA (decide (0 ≤ i5) && decide (i5 < (↑e0.length : Int)) && sized 10 e0) (atK (e0.getD i5.toNat []) 9 fun l => slK l fun c es => (D F.aQ5 [.leaf (.sl c es),.leaf (.int .i64 n)] []).bind fun r => aL r.fst fun l => cL .i64 l fun n => eE D (kT c0 e0 n (IntKind.i64.wrap (i5 + 1)))))) else none) else none) else none) else none) else none) else none) else none)) (some (.leaf (.int .i64 i1),[])) := by refine (aQ (J := eE D) (fun _ _ => rfl) [[1,0,1,0]] _).trans ?_; generalize eE D = J; revert J; refine id ?_; intro J; kernel_rfl
theorem aAI : bB Tryz.prog D Hs bQ F.aQE [.leaf (.sl c0 e0),.leaf (.int .i64 i1)] [] = eE D (kT c0 e0 i1 0) := by refine (aI (J := eE D) (by kernel_rfl) (fun _ _ => rfl) [[1,0,1,0]]).trans ?_; generalize eE D = J; revert J; refine id ?_; intro J; kernel_rfl
end
section
variable (c0 : Fl true) (e0 : LT) (i1 i5 : Int)
def dL := atA D F.aQt
def jQ : PT := ([1,0,1,0],St.mk ([.leaf (.sl c0 e0),.leaf (.int .i64 i1),.any,.any,.any,.leaf (.int .i64 i5)] ++ cH 30) (noB 36))
theorem oJ : dL D (jQ c0 e0 i1 i5) = aC (decide (i5 < (↑e0.length : Int))) ((D F.aRb [.leaf (.int .i64 i1)] []).bind fun r => aL r.fst fun l => bM l fun s => aA (decide (0 ≤ i5) && decide (i5 < (↑e0.length : Int)) && sized 3 e0) (if (c0.isSoft = true ∧ dC (e0.getD i5.toNat []) 0 = true) ∧ ((.leaf (.str s) : SV true)).plain = true ∧ cT Tryz.prog 9 = some 1 then (D F.aRb [.leaf (.int .i64 (IntKind.i64.wrap (i1 + 1)))] []).bind fun r => aL r.fst fun l => bM l fun s => aA (decide (0 ≤ i5) && decide (i5 < (↑e0.length : Int)) && sized 3 e0) (if (c0.isSoft = true ∧ dC (e0.getD i5.toNat []) 1 = true) ∧ ((.leaf (.str s) : SV true)).plain = true ∧ cT Tryz.prog 9 = some 1 then aA (decide (0 ≤ i5) && decide (i5 < (↑e0.length : Int)) && sized 3 e0) (atK (e0.getD i5.toNat []) 2 fun l => slK l fun c es => (D F.aQ5 [.leaf (.sl c es),.leaf (.int .i64 (IntKind.i64.wrap (IntKind.i64.wrap (i1 + 1) + 1)))] []).bind fun r => aL r.fst fun l => cL .i64 l fun n => dL D (jQ c0 e0 n (IntKind.i64.wrap (i5 + 1)))) else none) else none)) (some (.leaf (.int .i64 i1),[])) := by refine (aQ (J := dL D) (fun _ _ => rfl) [[1,0,1,0]] _).trans ?_; generalize dL D = J; revert J; refine id ?_; intro J; kernel_rfl
theorem yJ : bB Tryz.prog D Hs bQ F.aQt [.leaf (.sl c0 e0),.leaf (.int .i64 i1)] [] = dL D (jQ c0 e0 i1 0) := by refine (aI (J := dL D) (by kernel_rfl) (fun _ _ => rfl) [[1,0,1,0]]).trans ?_; generalize dL D = J; revert J; refine id ?_; intro J; kernel_rfl
end
section
variable (c0 : Fl true) (e0 : LT) (i1 i5 : Int)
def eG := atA D F.aQG
def kV : PT := ([1,0,1,0],St.mk ([.leaf (.sl c0 e0),.leaf (.int .i64 i1),.any,.any,.any,.leaf (.int .i64 i5)] ++ cH 36) (noB 42))
theorem qA : eG D (kV c0 e0 i1 i5) = aC (decide (i5 < (↑e0.length : Int))) (aA (decide (0 ≤ i5) && decide (i5 < (↑e0.length : Int)) && sized 4 e0) (if (c0.isSoft = true ∧ dC (e0.getD i5.toNat []) 0 = true) ∧ ((.leaf (.int .i64 i1) : SV true)).plain = true ∧ cT Tryz.prog 3 = some 1 then (D F.aRb [.leaf (.int .i64 (IntKind.i64.wrap (i1 + 1)))] []).bind fun r => aL r.fst fun l => bM l fun s => aA (decide (0 ≤ i5) && decide (i5 < (↑e0.length : Int)) && sized 4 e0) (if (c0.isSoft = true ∧ dC (e0.getD i5.toNat []) 1 = true) ∧ ((.leaf (.str s) : SV true)).plain = true ∧ cT Tryz.prog 9 = some 1 then aA (decide (0 ≤ i5) && decide (i5 < (↑e0.length : Int)) && sized 4 e0) (atK (e0.getD i5.toNat []) 2 fun l => slK l fun c es => (D F.aQG [.leaf (.sl c es),.leaf (.int .i64 (IntKind.i64.wrap (IntKind.i64.wrap (i1 + 1) + 1)))] []).bind fun r => aL r.fst fun l => cL .i64 l fun n => aA (decide (0 ≤ i5) && decide (i5 < (↑e0.length : Int)) && sized 4 e0) (atK (e0.getD i5.toNat []) 3 fun l => slK l fun c es => (D F.aQC [.leaf (.sl c es),.leaf (.int .i64 n)] []).bind fun r => aL r.fst fun l => cL .i64 l fun n => eG D (kV c0 e0 n (IntKind.i64.wrap (i5 + 1))))) else none) else none)) (some (.leaf (.int .i64 i1),[])) := by refine (aQ (J := eG D) (fun _ _ => rfl) [[1,0,1,0]] _).trans ?_; generalize eG D = J; revert J; refine id ?_; intro J; kernel_rfl
theorem aAC : bB Tryz.prog D Hs bQ F.aQG [.leaf (.sl c0 e0),.leaf (.int .i64 i1)] [] = eG D (kV c0 e0 i1 0) := by refine (aI (J := eG D) (by kernel_rfl) (fun _ _ => rfl) [[1,0,1,0]]).trans ?_; generalize eG D = J; revert J; refine id ?_; intro J; kernel_rfl
end
section
variable (c0 : Fl true) (e0 : LT) (n3 : Nat) (i4 : Int) (vx7 : List (SV true))
def eR := atA D F.aQT
def lM : PT := ([1,1,0,1,0],St.mk ([.leaf (.sl c0 e0),.any,.any,.bsl 7 1 0 n3,.leaf (.int .i64 i4)] ++ cH 17) (noB 7 ++ [some vx7] ++ noB 14))
theorem rB : eR D (lM c0 e0 n3 i4 vx7) = aC (decide (i4 < (↑e0.length : Int))) (aA (decide (0 ≤ i4) && decide (i4 < (↑e0.length : Int)) && sized 1 e0) (atK (e0.getD i4.toNat []) 0 fun l => bM l fun s => aA (decide (0 ≤ i4) && decide (i4 < (↑n3 : Int))) (aA (decide ((0 + i4.toNat) * 1 + 1 ≤ vx7.length)) (eR D (lM c0 e0 n3 (IntKind.i64.wrap (i4 + 1)) (hM vx7 ((0 + i4.toNat) * 1) [.leaf (.str s)])))))) (aA (decide (n3 * 1 ≤ vx7.length)) ((bX (List.take (n3 * 1) vx7)).bind fun l => some (.leaf (.sl aO (hU 1 n3 l)),[]))) := by refine (aQ (J := eR D) (fun _ _ => rfl) [[1,1,0,1,0]] _).trans ?_; generalize eR D = J; revert J; refine id ?_; intro J; kernel_rfl
theorem aBQ : bB Tryz.prog D Hs bQ F.aQT [.leaf (.sl c0 e0)] [] = aA ((↑e0.length : Int) == (↑e0.length : Int) && decide ((↑e0.length : Int).toNat * 16 ≤ aK) && decide ((↑e0.length : Int).toNat ≤ aK)) (eR D (lM c0 e0 (decide (0 ≤ (↑e0.length : Int)) && (↑e0.length : Int) == (↑e0.length : Int) && decide ((↑e0.length : Int).toNat * Tryz.prog.types[9].bytes ≤ aK) && decide ((↑e0.length : Int).toNat ≤ aK),(Tryz.prog.types[9].size,(↑e0.length : Int).toNat),List.map SV.leaf (List.replicate (↑e0.length : Int).toNat ((fun (x : List (aB true)) => .str (ByteArray.mk #[]) :: x) [])).flatten).snd.fst.snd 0 (decide (0 ≤ (↑e0.length : Int)) && (↑e0.length : Int) == (↑e0.length : Int) && decide ((↑e0.length : Int).toNat * Tryz.prog.types[9].bytes ≤ aK) && decide ((↑e0.length : Int).toNat ≤ aK),(Tryz.prog.types[9].size,(↑e0.length : Int).toNat),List.map SV.leaf (List.replicate (↑e0.length : Int).toNat ((fun (x : List (aB true)) => .str (ByteArray.mk #[]) :: x) [])).flatten).snd.snd)) := by refine (aI (J := eR D) (by kernel_rfl) (fun _ _ => rfl) [[1,1,0,1,0]]).trans ?_; generalize eR D = J; revert J; refine id ?_; intro J; kernel_rfl
end
section
variable (c0 : Fl true) (e0 : LT) (n3 : Nat) (i4 : Int) (vx7 : List (SV true))
def dV := atA D F.aQy
def kI : PT := ([1,1,0,1,0],St.mk ([.leaf (.sl c0 e0),.any,.any,.bsl 7 6 0 n3,.leaf (.int .i64 i4)] ++ cH 18) (noB 7 ++ [some vx7] ++ noB 15))
theorem pL : dV D (kI c0 e0 n3 i4 vx7) = aC (decide (i4 < (↑e0.length : Int))) (aA (decide (0 ≤ i4) && decide (i4 < (↑e0.length : Int)) && sized 6 e0) (gC (e0.getD i4.toNat []) fun e => atK e 0 fun l => bM l fun s => atK e 1 fun l => bM l fun s_1 => atK e 2 fun l => slK l fun c es => atK e 3 fun l => bM l fun s_2 => atK e 4 fun l => bM l fun s_3 => atK e 5 fun l => slK l fun c_1 es_1 => (D F.aQL [.agg [.str s,.str s_1,.sl c es,.str s_2,.str s_3,.sl c_1 es_1]] []).bind fun r => eA r.fst fun cs => aA (cs.length == 6) (atK cs 0 fun l => bM l fun s => atK cs 1 fun l => bM l fun s_4 => atK cs 2 fun l => slK l fun c es => atK cs 3 fun l => bM l fun s_5 => atK cs 4 fun l => bM l fun s_6 => atK cs 5 fun l => slK l fun c_2 es_2 => aA (decide (0 ≤ i4) && decide (i4 < (↑n3 : Int))) (aA (decide ((0 + i4.toNat) * 6 + 6 ≤ vx7.length)) (dV D (kI c0 e0 n3 (IntKind.i64.wrap (i4 + 1)) (hM vx7 ((0 + i4.toNat) * 6) [.leaf (.str s),.leaf (.str s_4),.leaf (.sl c es),.leaf (.str s_5),.leaf (.str s_6),.leaf (.sl c_2 es_2)]))))))) (aA (decide (n3 * 6 ≤ vx7.length)) ((bX (List.take (n3 * 6) vx7)).bind fun l => some (.leaf (.sl aO (hU 6 n3 l)),[]))) := by refine (aQ (J := dV D) (fun _ _ => rfl) [[1,1,0,1,0]] _).trans ?_; generalize dV D = J; revert J; refine id ?_; intro J; kernel_rfl
theorem zE : bB Tryz.prog D Hs bQ F.aQy [.leaf (.sl c0 e0)] [] = aA ((↑e0.length : Int) == (↑e0.length : Int) && decide ((↑e0.length : Int).toNat * 112 ≤ aK) && decide ((↑e0.length : Int).toNat ≤ aK)) (dV D (kI c0 e0 (decide (0 ≤ (↑e0.length : Int)) && (↑e0.length : Int) == (↑e0.length : Int) && decide ((↑e0.length : Int).toNat * Tryz.prog.types[117].bytes ≤ aK) && decide ((↑e0.length : Int).toNat ≤ aK),(Tryz.prog.types[117].size,(↑e0.length : Int).toNat),List.map SV.leaf (List.replicate (↑e0.length : Int).toNat ((fun (x : List (aB true)) => .str (ByteArray.mk #[]) :: x) ((fun (x : List (aB true)) => .str (ByteArray.mk #[]) :: x) ((fun (x : List (aB true)) => .sl (Fl.new true) [] :: x) ((fun (x : List (aB true)) => .str (ByteArray.mk #[]) :: x) ((fun (x : List (aB true)) => .str (ByteArray.mk #[]) :: x) ((fun (x : List (aB true)) => .sl (Fl.new true) [] :: x) []))))))).flatten).snd.fst.snd 0 (decide (0 ≤ (↑e0.length : Int)) && (↑e0.length : Int) == (↑e0.length : Int) && decide ((↑e0.length : Int).toNat * Tryz.prog.types[117].bytes ≤ aK) && decide ((↑e0.length : Int).toNat ≤ aK),(Tryz.prog.types[117].size,(↑e0.length : Int).toNat),List.map SV.leaf (List.replicate (↑e0.length : Int).toNat ((fun (x : List (aB true)) => .str (ByteArray.mk #[]) :: x) ((fun (x : List (aB true)) => .str (ByteArray.mk #[]) :: x) ((fun (x : List (aB true)) => .sl (Fl.new true) [] :: x) ((fun (x : List (aB true)) => .str (ByteArray.mk #[]) :: x) ((fun (x : List (aB true)) => .str (ByteArray.mk #[]) :: x) ((fun (x : List (aB true)) => .sl (Fl.new true) [] :: x) []))))))).flatten).snd.snd)) := by refine (aI (J := dV D) (by kernel_rfl) (fun _ _ => rfl) [[1,1,0,1,0]]).trans ?_; generalize dV D = J; revert J; refine id ?_; intro J; kernel_rfl
end
section
variable (c0 : Fl true) (e0 : LT) (n3 : Nat) (i4 : Int) (vx7 : List (SV true))
def fI := atA D F.aQ3
def mM : PT := ([1,1,0,1,0],St.mk ([.leaf (.sl c0 e0),.any,.any,.bsl 7 10 0 n3,.leaf (.int .i64 i4)] ++ cH 18) (noB 7 ++ [some vx7] ++ noB 15))
theorem sD : fI D (mM c0 e0 n3 i4 vx7) = aC (decide (i4 < (↑e0.length : Int))) (aA (decide (0 ≤ i4) && decide (i4 < (↑e0.length : Int)) && sized 10 e0) (gC (e0.getD i4.toNat []) fun e => atK e 0 fun l => bM l fun s => atK e 1 fun l => bM l fun s_1 => atK e 2 fun l => bM l fun s_2 => atK e 3 fun l => bM l fun s_3 => atK e 4 fun l => cU l fun b => atK e 5 fun l => cL .i64 l fun n => atK e 6 fun l => bM l fun s_4 => atK e 7 fun l => slK l fun c es => atK e 8 fun l => slK l fun c_1 es_1 => atK e 9 fun l => slK l fun c_2 es_2 => (D F.aRy [.agg [.str s,.str s_1,.str s_2,.str s_3,.bool b,.int .i64 n,.str s_4,.sl c es,.sl c_1 es_1,.sl c_2 es_2]] []).bind fun r => eA r.fst fun cs => aA (cs.length == 10) (atK cs 0 fun l => bM l fun s => atK cs 1 fun l => bM l fun s_5 => atK cs 2 fun l => bM l fun s_6 => atK cs 3 fun l => bM l fun s_7 => atK cs 4 fun l => cU l fun b => atK cs 5 fun l => cL .i64 l fun n => atK cs 6 fun l => bM l fun s_8 => atK cs 7 fun l => slK l fun c es => atK cs 8 fun l => slK l fun c_3 es_3 => atK cs 9 fun l => slK l fun c_4 es_4 => aA (decide (0 ≤ i4) && decide (i4 < (↑n3 : Int))) (aA (decide ((0 + i4.toNat) * 10 + 10 ≤ vx7.length)) (fI D (mM c0 e0 n3 (IntKind.i64.wrap (i4 + 1)) (hM vx7 ((0 + i4.toNat) * 10) [.leaf (.str s),.leaf (.str s_5),.leaf (.str s_6),.leaf (.str s_7),.leaf (.bool b),.leaf (.int .i64 n),.leaf (.str s_8),.leaf (.sl c es),.leaf (.sl c_3 es_3),.leaf (.sl c_4 es_4)]))))))) (aA (decide (n3 * 10 ≤ vx7.length)) ((bX (List.take (n3 * 10) vx7)).bind fun l => some (.leaf (.sl aO (hU 10 n3 l)),[]))) := by refine (aQ (J := fI D) (fun _ _ => rfl) [[1,1,0,1,0]] _).trans ?_; generalize fI D = J; revert J; refine id ?_; intro J; kernel_rfl
theorem aCE : bB Tryz.prog D Hs bQ F.aQ3 [.leaf (.sl c0 e0)] [] = aA ((↑e0.length : Int) == (↑e0.length : Int) && decide ((↑e0.length : Int).toNat * 168 ≤ aK) && decide ((↑e0.length : Int).toNat ≤ aK)) (fI D (mM c0 e0 (decide (0 ≤ (↑e0.length : Int)) && (↑e0.length : Int) == (↑e0.length : Int) && decide ((↑e0.length : Int).toNat * Tryz.prog.types[194].bytes ≤ aK) && decide ((↑e0.length : Int).toNat ≤ aK),(Tryz.prog.types[194].size,(↑e0.length : Int).toNat),List.map SV.leaf (List.replicate (↑e0.length : Int).toNat ((fun (x : List (aB true)) => .str (ByteArray.mk #[]) :: x) ((fun (x : List (aB true)) => .str (ByteArray.mk #[]) :: x) ((fun (x : List (aB true)) => .str (ByteArray.mk #[]) :: x) ((fun (x : List (aB true)) => .str (ByteArray.mk #[]) :: x) ((fun (x : List (aB true)) => .bool false :: x) ((fun (x : List (aB true)) => .int .i64 0 :: x) ((fun (x : List (aB true)) => .str (ByteArray.mk #[]) :: x) ((fun (x : List (aB true)) => .sl (Fl.new true) [] :: x) ((fun (x : List (aB true)) => .sl (Fl.new true) [] :: x) ((fun (x : List (aB true)) => .sl (Fl.new true) [] :: x) []))))))))))).flatten).snd.fst.snd 0 (decide (0 ≤ (↑e0.length : Int)) && (↑e0.length : Int) == (↑e0.length : Int) && decide ((↑e0.length : Int).toNat * Tryz.prog.types[194].bytes ≤ aK) && decide ((↑e0.length : Int).toNat ≤ aK),(Tryz.prog.types[194].size,(↑e0.length : Int).toNat),List.map SV.leaf (List.replicate (↑e0.length : Int).toNat ((fun (x : List (aB true)) => .str (ByteArray.mk #[]) :: x) ((fun (x : List (aB true)) => .str (ByteArray.mk #[]) :: x) ((fun (x : List (aB true)) => .str (ByteArray.mk #[]) :: x) ((fun (x : List (aB true)) => .str (ByteArray.mk #[]) :: x) ((fun (x : List (aB true)) => .bool false :: x) ((fun (x : List (aB true)) => .int .i64 0 :: x) ((fun (x : List (aB true)) => .str (ByteArray.mk #[]) :: x) ((fun (x : List (aB true)) => .sl (Fl.new true) [] :: x) ((fun (x : List (aB true)) => .sl (Fl.new true) [] :: x) ((fun (x : List (aB true)) => .sl (Fl.new true) [] :: x) []))))))))))).flatten).snd.snd)) := by refine (aI (J := fI D) (by kernel_rfl) (fun _ _ => rfl) [[1,1,0,1,0]]).trans ?_; generalize fI D = J; revert J; refine id ?_; intro J; kernel_rfl
end
section
variable (c0 : Fl true) (e0 : LT) (n3 : Nat) (i4 : Int) (vx7 : List (SV true))
def eF := atA D F.aQK
def kU : PT := ([1,1,0,1,0],St.mk ([.leaf (.sl c0 e0),.any,.any,.bsl 7 3 0 n3,.leaf (.int .i64 i4)] ++ cH 18) (noB 7 ++ [some vx7] ++ noB 15))
theorem qE : eF D (kU c0 e0 n3 i4 vx7) = aC (decide (i4 < (↑e0.length : Int))) (aA (decide (0 ≤ i4) && decide (i4 < (↑e0.length : Int)) && sized 3 e0) (gC (e0.getD i4.toNat []) fun e => atK e 0 fun l => bM l fun s => atK e 1 fun l => bM l fun s_1 => atK e 2 fun l => slK l fun c es => (D F.aQW [.agg [.str s,.str s_1,.sl c es]] []).bind fun r => eA r.fst fun cs => aA (cs.length == 3) (atK cs 0 fun l => bM l fun s => atK cs 1 fun l => bM l fun s_2 => atK cs 2 fun l => slK l fun c es => aA (decide (0 ≤ i4) && decide (i4 < (↑n3 : Int))) (aA (decide ((0 + i4.toNat) * 3 + 3 ≤ vx7.length)) (eF D (kU c0 e0 n3 (IntKind.i64.wrap (i4 + 1)) (hM vx7 ((0 + i4.toNat) * 3) [.leaf (.str s),.leaf (.str s_2),.leaf (.sl c es)]))))))) (aA (decide (n3 * 3 ≤ vx7.length)) ((bX (List.take (n3 * 3) vx7)).bind fun l => some (.leaf (.sl aO (hU 3 n3 l)),[]))) := by refine (aQ (J := eF D) (fun _ _ => rfl) [[1,1,0,1,0]] _).trans ?_; generalize eF D = J; revert J; refine id ?_; intro J; kernel_rfl
theorem aAE : bB Tryz.prog D Hs bQ F.aQK [.leaf (.sl c0 e0)] [] = aA ((↑e0.length : Int) == (↑e0.length : Int) && decide ((↑e0.length : Int).toNat * 56 ≤ aK) && decide ((↑e0.length : Int).toNat ≤ aK)) (eF D (kU c0 e0 (decide (0 ≤ (↑e0.length : Int)) && (↑e0.length : Int) == (↑e0.length : Int) && decide ((↑e0.length : Int).toNat * Tryz.prog.types[196].bytes ≤ aK) && decide ((↑e0.length : Int).toNat ≤ aK),(Tryz.prog.types[196].size,(↑e0.length : Int).toNat),List.map SV.leaf (List.replicate (↑e0.length : Int).toNat ((fun (x : List (aB true)) => .str (ByteArray.mk #[]) :: x) ((fun (x : List (aB true)) => .str (ByteArray.mk #[]) :: x) ((fun (x : List (aB true)) => .sl (Fl.new true) [] :: x) [])))).flatten).snd.fst.snd 0 (decide (0 ≤ (↑e0.length : Int)) && (↑e0.length : Int) == (↑e0.length : Int) && decide ((↑e0.length : Int).toNat * Tryz.prog.types[196].bytes ≤ aK) && decide ((↑e0.length : Int).toNat ≤ aK),(Tryz.prog.types[196].size,(↑e0.length : Int).toNat),List.map SV.leaf (List.replicate (↑e0.length : Int).toNat ((fun (x : List (aB true)) => .str (ByteArray.mk #[]) :: x) ((fun (x : List (aB true)) => .str (ByteArray.mk #[]) :: x) ((fun (x : List (aB true)) => .sl (Fl.new true) [] :: x) [])))).flatten).snd.snd)) := by refine (aI (J := eF D) (by kernel_rfl) (fun _ _ => rfl) [[1,1,0,1,0]]).trans ?_; generalize eF D = J; revert J; refine id ?_; intro J; kernel_rfl
end
def aBw := atA D F.aR1
theorem aF1 (s0_0 : ByteArray) (i0_1 : Int) (s0_2 : ByteArray) (c0_3 : Fl true) (e0_3 : LT) (c0_4 : Fl true) (e0_4 : LT) : bB Tryz.prog D Hs bQ F.aR1 [.agg [.str s0_0,.int .i64 i0_1,.str s0_2,.sl c0_3 e0_3,.sl c0_4 e0_4]] [] = (D F.aRp [.agg [.int .i64 i0_1,.str s0_2,.sl c0_3 e0_3,.sl c0_4 e0_4]] []).bind fun r => eA r.fst fun cs => aA (cs.length == 4) (atK cs 0 fun l => cL .i64 l fun n => atK cs 1 fun l => bM l fun s => atK cs 2 fun l => slK l fun c es => atK cs 3 fun l => slK l fun c_1 es_1 => some (.agg [.str s0_0,.int .i64 n,.str s,.sl c es,.sl c_1 es_1],[])) := by refine (aI (J := aBw D) (by kernel_rfl) (fun _ _ => rfl) []).trans ?_; generalize aBw D = J; revert J; refine id ?_; intro J; kernel_rfl
def aBq := atA D F.aR2
theorem aF0 (s0_0 : ByteArray) (c0_1 : Fl true) (e0_1 : LT) : bB Tryz.prog D Hs bQ F.aR2 [.agg [.str s0_0,.sl c0_1 e0_1]] [] = (D F.aRL [.leaf (.sl c0_1 e0_1)] []).bind fun r => iR r.fst fun c es => some (.agg [.str s0_0,.sl c es],[]) := by refine (aI (J := aBq D) (by kernel_rfl) (fun _ _ => rfl) []).trans ?_; generalize aBq D = J; revert J; refine id ?_; intro J; kernel_rfl
def tU := atA D F.aQL
theorem aAH (s0_0 s0_1 : ByteArray) (c0_2 : Fl true) (e0_2 : LT) (s0_3 s0_4 : ByteArray) (c0_5 : Fl true) (e0_5 : LT) : bB Tryz.prog D Hs bQ F.aQL [.agg [.str s0_0,.str s0_1,.sl c0_2 e0_2,.str s0_3,.str s0_4,.sl c0_5 e0_5]] [] = (D F.aQ3 [.leaf (.sl c0_2 e0_2)] []).bind fun r => iR r.fst fun c es => (D F.aRF [.agg [.str s0_3,.str s0_4]] []).bind fun r => eA r.fst fun cs => aA (cs.length == 2) (atK cs 0 fun l => bM l fun s => atK cs 1 fun l => bM l fun s_1 => (D F.aRZ [.leaf (.sl c0_5 e0_5)] []).bind fun r => iR r.fst fun c_1 es_1 => some (.agg [.str s0_0,.str s0_1,.sl c es,.str s,.str s_1,.sl c_1 es_1],[])) := by refine (aI (J := tU D) (by kernel_rfl) (fun _ _ => rfl) []).trans ?_; generalize tU D = J; revert J; refine id ?_; intro J; kernel_rfl
def xY := atA D F.aRy
theorem aD4 (s0_0 s0_1 s0_2 s0_3 : ByteArray) (b0_4 : Bool) (i0_5 : Int) (s0_6 : ByteArray) (c0_7 : Fl true) (e0_7 : LT) (c0_8 : Fl true) (e0_8 : LT) (c0_9 : Fl true) (e0_9 : LT) : bB Tryz.prog D Hs bQ F.aRy [.agg [.str s0_0,.str s0_1,.str s0_2,.str s0_3,.bool b0_4,.int .i64 i0_5,.str s0_6,.sl c0_7 e0_7,.sl c0_8 e0_8,.sl c0_9 e0_9]] [] = (D F.aRF [.agg [.str s0_2,.str s0_3]] []).bind fun r => eA r.fst fun cs => aA (cs.length == 2) (atK cs 0 fun l => bM l fun s => atK cs 1 fun l => bM l fun s_1 => (D F.aRp [.agg [.int .i64 i0_5,.str s0_6,.sl c0_7 e0_7,.sl c0_8 e0_8]] []).bind fun r => eA r.fst fun cs => aA (cs.length == 4) (atK cs 0 fun l => cL .i64 l fun n => atK cs 1 fun l => bM l fun s_2 => atK cs 2 fun l => slK l fun c es => atK cs 3 fun l => slK l fun c_1 es_1 => (D F.aRZ [.leaf (.sl c0_9 e0_9)] []).bind fun r => iR r.fst fun c_2 es_2 => some (.agg [.str s0_0,.str s0_1,.str s,.str s_1,.bool b0_4,.int .i64 n,.str s_2,.sl c es,.sl c_1 es_1,.sl c_2 es_2],[]))) := by refine (aI (J := xY D) (by kernel_rfl) (fun _ _ => rfl) []).trans ?_; generalize xY D = J; revert J; refine id ?_; intro J; kernel_rfl
def vK := atA D F.aQW
theorem aBG (s0_0 s0_1 : ByteArray) (c0_2 : Fl true) (e0_2 : LT) : bB Tryz.prog D Hs bQ F.aQW [.agg [.str s0_0,.str s0_1,.sl c0_2 e0_2]] [] = (D F.aRZ [.leaf (.sl c0_2 e0_2)] []).bind fun r => iR r.fst fun c es => some (.agg [.str s0_0,.str s0_1,.sl c es],[]) := by refine (aI (J := vK D) (by kernel_rfl) (fun _ _ => rfl) []).trans ?_; generalize vK D = J; revert J; refine id ?_; intro J; kernel_rfl
def xG := atA D F.aRp
theorem aD5 (i0_0 : Int) (s0_1 : ByteArray) (c0_2 : Fl true) (e0_2 : LT) (c0_3 : Fl true) (e0_3 : LT) : bB Tryz.prog D Hs bQ F.aRp [.agg [.int .i64 i0_0,.str s0_1,.sl c0_2 e0_2,.sl c0_3 e0_3]] [] = (D F.aQ8 [.leaf (.sl c0_2 e0_2)] []).bind fun r => iR r.fst fun c es => (D F.aQT [.leaf (.sl c0_3 e0_3)] []).bind fun r => iR r.fst fun c_1 es_1 => some (.agg [.int .i64 i0_0,.str s0_1,.sl c es,.sl c_1 es_1],[]) := by refine (aI (J := xG D) (by kernel_rfl) (fun _ _ => rfl) []).trans ?_; generalize xG D = J; revert J; refine id ?_; intro J; kernel_rfl
def aAz := atA D F.aRF
theorem aE0 (s0_0 s0_1 : ByteArray) : bB Tryz.prog D Hs bQ F.aRF [.agg [.str s0_0,.str s0_1]] [] = some (.agg [.str s0_0,.str s0_1],[]) := by refine (aI (J := aAz D) (by kernel_rfl) (fun _ _ => rfl) []).trans ?_; generalize aAz D = J; revert J; refine id ?_; intro J; kernel_rfl
section
variable (c0 : Fl true) (e0 : LT) (n3 : Nat) (i4 : Int) (vx7 : List (SV true))
def fH := atA D F.aQ8
def mR : PT := ([1,1,0,1,0],St.mk ([.leaf (.sl c0 e0),.any,.any,.bsl 7 4 0 n3,.leaf (.int .i64 i4)] ++ cH 18) (noB 7 ++ [some vx7] ++ noB 15))
theorem sK : fH D (mR c0 e0 n3 i4 vx7) = aC (decide (i4 < (↑e0.length : Int))) (aA (decide (0 ≤ i4) && decide (i4 < (↑e0.length : Int)) && sized 4 e0) (gC (e0.getD i4.toNat []) fun e => atK e 0 fun l => cL .i64 l fun n => atK e 1 fun l => bM l fun s => atK e 2 fun l => slK l fun c es => atK e 3 fun l => slK l fun c_1 es_1 => (D F.aRp [.agg [.int .i64 n,.str s,.sl c es,.sl c_1 es_1]] []).bind fun r => eA r.fst fun cs => aA (cs.length == 4) (atK cs 0 fun l => cL .i64 l fun n => atK cs 1 fun l => bM l fun s => atK cs 2 fun l => slK l fun c es => atK cs 3 fun l => slK l fun c_2 es_2 => aA (decide (0 ≤ i4) && decide (i4 < (↑n3 : Int))) (aA (decide ((0 + i4.toNat) * 4 + 4 ≤ vx7.length)) (fH D (mR c0 e0 n3 (IntKind.i64.wrap (i4 + 1)) (hM vx7 ((0 + i4.toNat) * 4) [.leaf (.int .i64 n),.leaf (.str s),.leaf (.sl c es),.leaf (.sl c_2 es_2)]))))))) (aA (decide (n3 * 4 ≤ vx7.length)) ((bX (List.take (n3 * 4) vx7)).bind fun l => some (.leaf (.sl aO (hU 4 n3 l)),[]))) := by refine (aQ (J := fH D) (fun _ _ => rfl) [[1,1,0,1,0]] _).trans ?_; generalize fH D = J; revert J; refine id ?_; intro J; kernel_rfl
theorem aCx : bB Tryz.prog D Hs bQ F.aQ8 [.leaf (.sl c0 e0)] [] = aA ((↑e0.length : Int) == (↑e0.length : Int) && decide ((↑e0.length : Int).toNat * 72 ≤ aK) && decide ((↑e0.length : Int).toNat ≤ aK)) (fH D (mR c0 e0 (decide (0 ≤ (↑e0.length : Int)) && (↑e0.length : Int) == (↑e0.length : Int) && decide ((↑e0.length : Int).toNat * Tryz.prog.types[143].bytes ≤ aK) && decide ((↑e0.length : Int).toNat ≤ aK),(Tryz.prog.types[143].size,(↑e0.length : Int).toNat),List.map SV.leaf (List.replicate (↑e0.length : Int).toNat ((fun (x : List (aB true)) => .int .i64 0 :: x) ((fun (x : List (aB true)) => .str (ByteArray.mk #[]) :: x) ((fun (x : List (aB true)) => .sl (Fl.new true) [] :: x) ((fun (x : List (aB true)) => .sl (Fl.new true) [] :: x) []))))).flatten).snd.fst.snd 0 (decide (0 ≤ (↑e0.length : Int)) && (↑e0.length : Int) == (↑e0.length : Int) && decide ((↑e0.length : Int).toNat * Tryz.prog.types[143].bytes ≤ aK) && decide ((↑e0.length : Int).toNat ≤ aK),(Tryz.prog.types[143].size,(↑e0.length : Int).toNat),List.map SV.leaf (List.replicate (↑e0.length : Int).toNat ((fun (x : List (aB true)) => .int .i64 0 :: x) ((fun (x : List (aB true)) => .str (ByteArray.mk #[]) :: x) ((fun (x : List (aB true)) => .sl (Fl.new true) [] :: x) ((fun (x : List (aB true)) => .sl (Fl.new true) [] :: x) []))))).flatten).snd.snd)) := by refine (aI (J := fH D) (by kernel_rfl) (fun _ _ => rfl) [[1,1,0,1,0]]).trans ?_; generalize fH D = J; revert J; refine id ?_; intro J; kernel_rfl
end
end
end Go.Vs
end
section
open Go Go.Vs Go.Proofs
set_option linter.unusedVariables false
set_option linter.unusedSimpArgs false
namespace Go.Vs
def zH : FuncId → Bool := fun f => [F.aRi, F.aRd, F.aQ5, F.aQt, F.aQq, F.aQE, F.aQS, F.aQN, F.aRf, F.aQC, F.aQG, F.aR1, F.aRL, F.aR3, F.aRW, F.aR2, F.aRZ, F.aQW, F.aQK, F.aQL, F.aQy, F.aRy, F.aQ3, F.aRG, F.aRA, F.aQ6, F.aR4, F.aRH, F.aQT, F.aRF, F.aRp, F.aQ8].contains f
noncomputable abbrev Dd : bA true := den Go.Proofs.Tryz.prog (aIo Dn zH) Hs
theorem jI {f : FuncId} {a : List (SV true)} {b : List (List (SV true))} {r : SV true × List (List (SV true))} (hk : zH f = true) (h : bB Go.Proofs.Tryz.prog Dd Hs bQ f a b = some r) : Dd f a b = some r :=
  aLk (by simp only [aIo, hk]) h
theorem oW {f : FuncId} (hk : zH f = false) {a : List (SV true)} {b : List (List (SV true))} {a' : List (SV false)} {b' : List (List (SV false))} {r' : SV false × List (List (SV false))} {r : SV true × List (List (SV true))}
    (h : Dn f a' b' = some r') (ha : a.map (reS er) = a') (hb : b.map (List.map (reS er)) = b') (hr : (reS li r'.1, r'.2.map (List.map (reS li))) = r) : Dd f a b = some r := aMY hk h ha hb hr
theorem wS : cT Tryz.prog 3 = some 1 := by kernel_rfl
theorem xB : cT Tryz.prog 4 = some 1 := by kernel_rfl
theorem wY : cT Tryz.prog 9 = some 1 := by kernel_rfl
theorem aCH {c : Fl true} {es : List (List (aB false))} (hl : es.length ≤ 1048576) (hq : ∀ e ∈ es, gB e) : ∀ i : Nat, i ≤ es.length → ∀ z : List (SV true), z.length = (es.length - i) * 1 →
    eR Dd (lM c (reE (fl c) es) es.length i (eN (reE (fl aO) es) i z)) = some (.leaf (.sl aO (reE (fl aO) es)), []) := by
  have hall : ∀ e ∈ reE (fl aO) es, e.length = 1 := iC fun e he => (hq e he).len
  have hN : (reE (fl aO) es).length = es.length := bL es
  have hC : (reE (fl c) es).length = es.length := bL es
  have hml : (1048576 : Nat) ≤ maxLen := by decide
  refine bS ?_ ?_
  · intro z hz
    have g1 := oD (z := z) hall
    have g2 := eU hall
    have g3 := eB (z := z) hall (Nat.le_refl _)
    rw [hN] at g1 g2 g3
    try rw [Nat.mul_one] at g1
    rw [rB]
    simp [g1, g2, g3, hC, SV.flatT, SV.flat, Fl.new]
  · intro i hi ih z hz
    have g3 := eB (z := z) hall (i := i) (by omega)
    have hp := lH (z := z) hall (i := i) (by omega)
    rw [rB]
    obtain ⟨s, he, hs⟩ := hq _ (List.getElem_mem hi)
    rw [pW, he] at hp
    simp only [reL, reF, List.map_cons, List.map_nil] at hp
    simp only [Int.ofNat_lt, hi, hC, decide_true, aE, Int.natCast_nonneg, Bool.and_true, Int.toNat_natCast, aD, bH (Nat.lt_of_lt_of_le hi (Nat.le_trans hl hml)), aS (iC (φ := fl c) fun e he => (hq e he).len), oC hi]
    rw [he]
    simp only [reL, reF, bP, aZ]
    have hd' : (i + 1) * 1 ≤ es.length * 1 := Nat.mul_le_mul_right 1 hi
    have hg : (0 + i) * 1 + 1 ≤ (eN (reE (fl aO) es) i z).length := by rw [g3, hz, Nat.sub_mul]; omega
    simp only [hg, decide_true, aD]
    rw [Nat.zero_add, hp]
    exact ih _ (by rw [List.length_drop, hz, Nat.sub_mul, Nat.sub_mul]; omega)
theorem xP {c : Fl true} {es : List (List (aB false))} (hl : es.length ≤ 1048576) (hq : ∀ e ∈ es, gB e) : Dd F.aQT [.leaf (.sl c (reE (fl c) es))] [] = some (.leaf (.sl aO (reE (fl aO) es)), []) := by
  apply jI rfl
  have hb : aK = 140737488355328 := rfl
  rw [aBQ]
  have hs : decide (es.length ≤ aK) = true := decide_eq_true (by omega)
  have hs2 : decide (es.length * 16 ≤ aK) = true := decide_eq_true (by omega)
  simp only [bL, Int.natCast_nonneg, Int.toNat_natCast, beq_self_eq_true, hs, hs2, decide_true, Bool.and_true, Bool.true_and, aD]
  exact aCH hl hq 0 (Nat.zero_le _) _ (by simp [List.length_flatten])
theorem aCV {c : Fl true} {ls : List (aB false)} (h : kL ls) : tL ls ≤ 1048576 → Dd F.aRF [.agg (reL (fl c) ls)] [] = some (.agg (reL (fl aO) ls), []) := by
  cases h with
  | mk s0 s1 h0 h1 =>
    intro hb
    apply jI rfl
    simp only [reL, reF]
    rw [aE0]
    try simp []
theorem aDH {c : Fl true} {es : List (List (aB false))} (hl : es.length ≤ 1048576) (hq : ∀ e ∈ es, cS e) (hd : ∀ e ∈ es, Dd F.aRp [.agg (reL (fl c) e)] [] = some (.agg (reL (fl aO) e), [])) : ∀ i : Nat, i ≤ es.length → ∀ z : List (SV true), z.length = (es.length - i) * 4 →
    fH Dd (mR c (reE (fl c) es) es.length i (eN (reE (fl aO) es) i z)) = some (.leaf (.sl aO (reE (fl aO) es)), []) := by
  have hall : ∀ e ∈ reE (fl aO) es, e.length = 4 := iC fun e he => (hq e he).len
  have hN : (reE (fl aO) es).length = es.length := bL es
  have hC : (reE (fl c) es).length = es.length := bL es
  have hml : (1048576 : Nat) ≤ maxLen := by decide
  refine bS ?_ ?_
  · intro z hz
    have g1 := oD (z := z) hall
    have g2 := eU hall
    have g3 := eB (z := z) hall (Nat.le_refl _)
    rw [hN] at g1 g2 g3
    try rw [Nat.mul_one] at g1
    rw [sK]
    simp [g1, g2, g3, hC, SV.flatT, SV.flat, Fl.new]
  · intro i hi ih z hz
    have g3 := eB (z := z) hall (i := i) (by omega)
    have hp := lH (z := z) hall (i := i) (by omega)
    rw [sK]
    have hci := hd _ (List.getElem_mem hi)
    obtain ⟨i0, s1, e2, e3, he, h1, h2, q2, h3, q3⟩ := (hq _ (List.getElem_mem hi)).ex
    rw [pW, he] at hp
    simp only [reL, reF, List.map_cons, List.map_nil] at hp
    simp only [Int.ofNat_lt, hi, hC, decide_true, aE, Int.natCast_nonneg, Bool.and_true, Int.toNat_natCast, aD, bH (Nat.lt_of_lt_of_le hi (Nat.le_trans hl hml)), aS (iC (φ := fl c) fun e he => (hq e he).len), oC hi]
    rw [he] at hci ⊢
    simp only [reL, reF] at hci
    simp only [reL, reF, dK, bP, bW, bO, aZ, bR, cX, hci, Option.bind_some, eJ, List.length_cons, List.length_nil, beq_self_eq_true, Nat.reduceAdd, Nat.reduceBEq, aD]
    have hd' : (i + 1) * 4 ≤ es.length * 4 := Nat.mul_le_mul_right 4 hi
    have hg : (0 + i) * 4 + 4 ≤ (eN (reE (fl aO) es) i z).length := by rw [g3, hz, Nat.sub_mul]; omega
    simp only [hg, decide_true, aD]
    rw [Nat.zero_add, hp]
    exact ih _ (by rw [List.length_drop, hz, Nat.sub_mul, Nat.sub_mul]; omega)
theorem aDf {c : Fl true} {es : List (List (aB false))} (hl : es.length ≤ 1048576) (hq : ∀ e ∈ es, cS e) (hd : ∀ e ∈ es, Dd F.aRp [.agg (reL (fl c) e)] [] = some (.agg (reL (fl aO) e), [])) : Dd F.aQ8 [.leaf (.sl c (reE (fl c) es))] [] = some (.leaf (.sl aO (reE (fl aO) es)), []) := by
  apply jI rfl
  have hb : aK = 140737488355328 := rfl
  rw [aCx]
  have hs : decide (es.length ≤ aK) = true := decide_eq_true (by omega)
  have hs2 : decide (es.length * 72 ≤ aK) = true := decide_eq_true (by omega)
  simp only [bL, Int.natCast_nonneg, Int.toNat_natCast, beq_self_eq_true, hs, hs2, decide_true, Bool.and_true, Bool.true_and, aD]
  exact aDH hl hq hd 0 (Nat.zero_le _) _ (by simp [List.length_flatten])
theorem aB2 {c : Fl true} {ls : List (aB false)} (h : cS ls) : tL ls ≤ 1048576 → Dd F.aRp [.agg (reL (fl c) ls)] [] = some (.agg (reL (fl aO) ls), []) := by
  induction h with
  | mk i0 s1 e2 e3 h1 h2 q2 h3 q3 ih2 =>
    intro hb
    apply jI rfl
    simp only [reL, reF]
    rw [aD5]
    have c2 := aDf (c := c) (show e2.length ≤ 1048576 by simp only [tL, tF] at hb; omega) q2 fun e he => ih2 e he (by have := uV he; simp only [tL, tF] at hb; omega)
    have c3 := xP (c := c) (show e3.length ≤ 1048576 by simp only [tL, tF] at hb; omega) q3
    try simp [c2, c3]
theorem aFU {c : Fl true} {es : List (List (aB false))} (hl : es.length ≤ 1048576) (hq : ∀ e ∈ es, gR e) (hd : ∀ e ∈ es, Dd F.aR1 [.agg (reL (fl c) e)] [] = some (.agg (reL (fl aO) e), [])) : ∀ i : Nat, i ≤ es.length → ∀ z : List (SV true), z.length = (es.length - i) * 5 →
    gP Dd (oN c (reE (fl c) es) es.length i (eN (reE (fl aO) es) i z)) = some (.leaf (.sl aO (reE (fl aO) es)), []) := by
  have hall : ∀ e ∈ reE (fl aO) es, e.length = 5 := iC fun e he => (hq e he).len
  have hN : (reE (fl aO) es).length = es.length := bL es
  have hC : (reE (fl c) es).length = es.length := bL es
  have hml : (1048576 : Nat) ≤ maxLen := by decide
  refine bS ?_ ?_
  · intro z hz
    have g1 := oD (z := z) hall
    have g2 := eU hall
    have g3 := eB (z := z) hall (Nat.le_refl _)
    rw [hN] at g1 g2 g3
    try rw [Nat.mul_one] at g1
    rw [uZ]
    simp [g1, g2, g3, hC, SV.flatT, SV.flat, Fl.new]
  · intro i hi ih z hz
    have g3 := eB (z := z) hall (i := i) (by omega)
    have hp := lH (z := z) hall (i := i) (by omega)
    rw [uZ]
    have hci := hd _ (List.getElem_mem hi)
    obtain ⟨s0, i1, s2, e3, e4, he, h0, h2, h3, q3, h4, q4⟩ := (hq _ (List.getElem_mem hi)).ex
    rw [pW, he] at hp
    simp only [reL, reF, List.map_cons, List.map_nil] at hp
    simp only [Int.ofNat_lt, hi, hC, decide_true, aE, Int.natCast_nonneg, Bool.and_true, Int.toNat_natCast, aD, bH (Nat.lt_of_lt_of_le hi (Nat.le_trans hl hml)), aS (iC (φ := fl c) fun e he => (hq e he).len), oC hi]
    rw [he] at hci ⊢
    simp only [reL, reF] at hci
    simp only [reL, reF, dK, bP, bW, bO, aZ, bR, cX, hci, Option.bind_some, eJ, List.length_cons, List.length_nil, beq_self_eq_true, Nat.reduceAdd, Nat.reduceBEq, aD]
    have hd' : (i + 1) * 5 ≤ es.length * 5 := Nat.mul_le_mul_right 5 hi
    have hg : (0 + i) * 5 + 5 ≤ (eN (reE (fl aO) es) i z).length := by rw [g3, hz, Nat.sub_mul]; omega
    simp only [hg, decide_true, aD]
    rw [Nat.zero_add, hp]
    exact ih _ (by rw [List.length_drop, hz, Nat.sub_mul, Nat.sub_mul]; omega)
theorem aFE {c : Fl true} {es : List (List (aB false))} (hl : es.length ≤ 1048576) (hq : ∀ e ∈ es, gR e) (hd : ∀ e ∈ es, Dd F.aR1 [.agg (reL (fl c) e)] [] = some (.agg (reL (fl aO) e), [])) : Dd F.aRL [.leaf (.sl c (reE (fl c) es))] [] = some (.leaf (.sl aO (reE (fl aO) es)), []) := by
  apply jI rfl
  have hb : aK = 140737488355328 := rfl
  rw [aEB]
  have hs : decide (es.length ≤ aK) = true := decide_eq_true (by omega)
  have hs2 : decide (es.length * 88 ≤ aK) = true := decide_eq_true (by omega)
  simp only [bL, Int.natCast_nonneg, Int.toNat_natCast, beq_self_eq_true, hs, hs2, decide_true, Bool.and_true, Bool.true_and, aD]
  exact aFU hl hq hd 0 (Nat.zero_le _) _ (by simp [List.length_flatten])
theorem aKk {c : Fl true} {ls : List (aB false)} (h : gR ls) : tL ls ≤ 1048576 → Dd F.aR1 [.agg (reL (fl c) ls)] [] = some (.agg (reL (fl aO) ls), []) := by
  cases h with
  | mk s0 i1 s2 e3 e4 h0 h2 h3 q3 h4 q4 =>
    intro hb
    apply jI rfl
    simp only [reL, reF]
    rw [aF1]
    have c1 := aB2 (c := c) (.mk i1 s2 e3 e4 h2 h3 q3 h4 q4) (by simp only [tL, tF] at hb ⊢; omega)
    simp only [reL, reF] at c1
    try simp [c1]
theorem aC7 {c : Fl true} {es : List (List (aB false))} (hb : es.length + tE es ≤ 1048576) (hq : ∀ e ∈ es, gR e) : Dd F.aRL [.leaf (.sl c (reE (fl c) es))] [] = some (.leaf (.sl aO (reE (fl aO) es)), []) := aFE (by omega) hq fun e he => aKk (hq e he) (by have := uV he; omega)
theorem aGb {c : Fl true} {es : List (List (aB false))} (hl : es.length ≤ 1048576) (hq : ∀ e ∈ es, eD e) (hd : ∀ e ∈ es, Dd F.aR2 [.agg (reL (fl c) e)] [] = some (.agg (reL (fl aO) e), [])) : ∀ i : Nat, i ≤ es.length → ∀ z : List (SV true), z.length = (es.length - i) * 2 →
    gT Dd (oU c (reE (fl c) es) es.length i (eN (reE (fl aO) es) i z)) = some (.leaf (.sl aO (reE (fl aO) es)), []) := by
  have hall : ∀ e ∈ reE (fl aO) es, e.length = 2 := iC fun e he => (hq e he).len
  have hN : (reE (fl aO) es).length = es.length := bL es
  have hC : (reE (fl c) es).length = es.length := bL es
  have hml : (1048576 : Nat) ≤ maxLen := by decide
  refine bS ?_ ?_
  · intro z hz
    have g1 := oD (z := z) hall
    have g2 := eU hall
    have g3 := eB (z := z) hall (Nat.le_refl _)
    rw [hN] at g1 g2 g3
    try rw [Nat.mul_one] at g1
    rw [vE]
    simp [g1, g2, g3, hC, SV.flatT, SV.flat, Fl.new]
  · intro i hi ih z hz
    have g3 := eB (z := z) hall (i := i) (by omega)
    have hp := lH (z := z) hall (i := i) (by omega)
    rw [vE]
    have hci := hd _ (List.getElem_mem hi)
    obtain ⟨s0, e1, he, h0, h1, q1⟩ := (hq _ (List.getElem_mem hi)).ex
    rw [pW, he] at hp
    simp only [reL, reF, List.map_cons, List.map_nil] at hp
    simp only [Int.ofNat_lt, hi, hC, decide_true, aE, Int.natCast_nonneg, Bool.and_true, Int.toNat_natCast, aD, bH (Nat.lt_of_lt_of_le hi (Nat.le_trans hl hml)), aS (iC (φ := fl c) fun e he => (hq e he).len), oC hi]
    rw [he] at hci ⊢
    simp only [reL, reF] at hci
    simp only [reL, reF, dK, bP, bW, bO, aZ, bR, cX, hci, Option.bind_some, eJ, List.length_cons, List.length_nil, beq_self_eq_true, Nat.reduceAdd, Nat.reduceBEq, aD]
    have hd' : (i + 1) * 2 ≤ es.length * 2 := Nat.mul_le_mul_right 2 hi
    have hg : (0 + i) * 2 + 2 ≤ (eN (reE (fl aO) es) i z).length := by rw [g3, hz, Nat.sub_mul]; omega
    simp only [hg, decide_true, aD]
    rw [Nat.zero_add, hp]
    exact ih _ (by rw [List.length_drop, hz, Nat.sub_mul, Nat.sub_mul]; omega)
theorem aGm {c : Fl true} {es : List (List (aB false))} (hl : es.length ≤ 1048576) (hq : ∀ e ∈ es, eD e) (hd : ∀ e ∈ es, Dd F.aR2 [.agg (reL (fl c) e)] [] = some (.agg (reL (fl aO) e), [])) : Dd F.aRZ [.leaf (.sl c (reE (fl c) es))] [] = some (.leaf (.sl aO (reE (fl aO) es)), []) := by
  apply jI rfl
  have hb : aK = 140737488355328 := rfl
  rw [aFa]
  have hs : decide (es.length ≤ aK) = true := decide_eq_true (by omega)
  have hs2 : decide (es.length * 40 ≤ aK) = true := decide_eq_true (by omega)
  simp only [bL, Int.natCast_nonneg, Int.toNat_natCast, beq_self_eq_true, hs, hs2, decide_true, Bool.and_true, Bool.true_and, aD]
  exact aGb hl hq hd 0 (Nat.zero_le _) _ (by simp [List.length_flatten])
theorem aJQ {c : Fl true} {ls : List (aB false)} (h : eD ls) : tL ls ≤ 1048576 → Dd F.aR2 [.agg (reL (fl c) ls)] [] = some (.agg (reL (fl aO) ls), []) := by
  cases h with
  | mk s0 e1 h0 h1 q1 =>
    intro hb
    apply jI rfl
    simp only [reL, reF]
    rw [aF0]
    have c1 := aC7 (c := c) (show e1.length + tE e1 ≤ 1048576 by simp only [tL, tF] at hb; omega) q1
    try simp [c1]
theorem nZ {c : Fl true} {es : List (List (aB false))} (hb : es.length + tE es ≤ 1048576) (hq : ∀ e ∈ es, eD e) : Dd F.aRZ [.leaf (.sl c (reE (fl c) es))] [] = some (.leaf (.sl aO (reE (fl aO) es)), []) := aGm (by omega) hq fun e he => aJQ (hq e he) (by have := uV he; omega)
theorem aDP {c : Fl true} {es : List (List (aB false))} (hl : es.length ≤ 1048576) (hq : ∀ e ∈ es, cW e) (hd : ∀ e ∈ es, Dd F.aRy [.agg (reL (fl c) e)] [] = some (.agg (reL (fl aO) e), [])) : ∀ i : Nat, i ≤ es.length → ∀ z : List (SV true), z.length = (es.length - i) * 10 →
    fI Dd (mM c (reE (fl c) es) es.length i (eN (reE (fl aO) es) i z)) = some (.leaf (.sl aO (reE (fl aO) es)), []) := by
  have hall : ∀ e ∈ reE (fl aO) es, e.length = 10 := iC fun e he => (hq e he).len
  have hN : (reE (fl aO) es).length = es.length := bL es
  have hC : (reE (fl c) es).length = es.length := bL es
  have hml : (1048576 : Nat) ≤ maxLen := by decide
  refine bS ?_ ?_
  · intro z hz
    have g1 := oD (z := z) hall
    have g2 := eU hall
    have g3 := eB (z := z) hall (Nat.le_refl _)
    rw [hN] at g1 g2 g3
    try rw [Nat.mul_one] at g1
    rw [sD]
    simp [g1, g2, g3, hC, SV.flatT, SV.flat, Fl.new]
  · intro i hi ih z hz
    have g3 := eB (z := z) hall (i := i) (by omega)
    have hp := lH (z := z) hall (i := i) (by omega)
    rw [sD]
    have hci := hd _ (List.getElem_mem hi)
    obtain ⟨s0, s1, s2, s3, b4, i5, s6, e7, e8, e9, he, h0, h1, h2, h3, h6, h7, q7, h8, q8, h9, q9⟩ := (hq _ (List.getElem_mem hi)).ex
    rw [pW, he] at hp
    simp only [reL, reF, List.map_cons, List.map_nil] at hp
    simp only [Int.ofNat_lt, hi, hC, decide_true, aE, Int.natCast_nonneg, Bool.and_true, Int.toNat_natCast, aD, bH (Nat.lt_of_lt_of_le hi (Nat.le_trans hl hml)), aS (iC (φ := fl c) fun e he => (hq e he).len), oC hi]
    rw [he] at hci ⊢
    simp only [reL, reF] at hci
    simp only [reL, reF, dK, bP, bW, bO, aZ, bR, cX, hci, Option.bind_some, eJ, List.length_cons, List.length_nil, beq_self_eq_true, Nat.reduceAdd, Nat.reduceBEq, aD]
    have hd' : (i + 1) * 10 ≤ es.length * 10 := Nat.mul_le_mul_right 10 hi
    have hg : (0 + i) * 10 + 10 ≤ (eN (reE (fl aO) es) i z).length := by rw [g3, hz, Nat.sub_mul]; omega
    simp only [hg, decide_true, aD]
    rw [Nat.zero_add, hp]
    exact ih _ (by rw [List.length_drop, hz, Nat.sub_mul, Nat.sub_mul]; omega)
theorem aDG {c : Fl true} {es : List (List (aB false))} (hl : es.length ≤ 1048576) (hq : ∀ e ∈ es, cW e) (hd : ∀ e ∈ es, Dd F.aRy [.agg (reL (fl c) e)] [] = some (.agg (reL (fl aO) e), [])) : Dd F.aQ3 [.leaf (.sl c (reE (fl c) es))] [] = some (.leaf (.sl aO (reE (fl aO) es)), []) := by
  apply jI rfl
  have hb : aK = 140737488355328 := rfl
  rw [aCE]
  have hs : decide (es.length ≤ aK) = true := decide_eq_true (by omega)
  have hs2 : decide (es.length * 168 ≤ aK) = true := decide_eq_true (by omega)
  simp only [bL, Int.natCast_nonneg, Int.toNat_natCast, beq_self_eq_true, hs, hs2, decide_true, Bool.and_true, Bool.true_and, aD]
  exact aDP hl hq hd 0 (Nat.zero_le _) _ (by simp [List.length_flatten])
theorem aHQ {c : Fl true} {ls : List (aB false)} (h : cW ls) : tL ls ≤ 1048576 → Dd F.aRy [.agg (reL (fl c) ls)] [] = some (.agg (reL (fl aO) ls), []) := by
  cases h with
  | mk s0 s1 s2 s3 b4 i5 s6 e7 e8 e9 h0 h1 h2 h3 h6 h7 q7 h8 q8 h9 q9 =>
    intro hb
    apply jI rfl
    simp only [reL, reF]
    rw [aD4]
    have c2 := aCV (c := c) (.mk s2 s3 h2 h3) (by simp only [tL, tF] at hb ⊢; omega)
    simp only [reL, reF] at c2
    have c5 := aB2 (c := c) (.mk i5 s6 e7 e8 h6 h7 q7 h8 q8) (by simp only [tL, tF] at hb ⊢; omega)
    simp only [reL, reF] at c5
    have c9 := nZ (c := c) (show e9.length + tE e9 ≤ 1048576 by simp only [tL, tF] at hb; omega) q9
    try simp [c2, c5, c9]
theorem aAy {c : Fl true} {es : List (List (aB false))} (hb : es.length + tE es ≤ 1048576) (hq : ∀ e ∈ es, cW e) : Dd F.aQ3 [.leaf (.sl c (reE (fl c) es))] [] = some (.leaf (.sl aO (reE (fl aO) es)), []) := aDG (by omega) hq fun e he => aHQ (hq e he) (by have := uV he; omega)
theorem aAA {c : Fl true} {es : List (List (aB false))} (hl : es.length ≤ 1048576) (hq : ∀ e ∈ es, bY e) (hd : ∀ e ∈ es, Dd F.aQL [.agg (reL (fl c) e)] [] = some (.agg (reL (fl aO) e), [])) : ∀ i : Nat, i ≤ es.length → ∀ z : List (SV true), z.length = (es.length - i) * 6 →
    dV Dd (kI c (reE (fl c) es) es.length i (eN (reE (fl aO) es) i z)) = some (.leaf (.sl aO (reE (fl aO) es)), []) := by
  have hall : ∀ e ∈ reE (fl aO) es, e.length = 6 := iC fun e he => (hq e he).len
  have hN : (reE (fl aO) es).length = es.length := bL es
  have hC : (reE (fl c) es).length = es.length := bL es
  have hml : (1048576 : Nat) ≤ maxLen := by decide
  refine bS ?_ ?_
  · intro z hz
    have g1 := oD (z := z) hall
    have g2 := eU hall
    have g3 := eB (z := z) hall (Nat.le_refl _)
    rw [hN] at g1 g2 g3
    try rw [Nat.mul_one] at g1
    rw [pL]
    simp [g1, g2, g3, hC, SV.flatT, SV.flat, Fl.new]
  · intro i hi ih z hz
    have g3 := eB (z := z) hall (i := i) (by omega)
    have hp := lH (z := z) hall (i := i) (by omega)
    rw [pL]
    have hci := hd _ (List.getElem_mem hi)
    obtain ⟨s0, s1, e2, s3, s4, e5, he, h0, h1, h2, q2, h3, h4, h5, q5⟩ := (hq _ (List.getElem_mem hi)).ex
    rw [pW, he] at hp
    simp only [reL, reF, List.map_cons, List.map_nil] at hp
    simp only [Int.ofNat_lt, hi, hC, decide_true, aE, Int.natCast_nonneg, Bool.and_true, Int.toNat_natCast, aD, bH (Nat.lt_of_lt_of_le hi (Nat.le_trans hl hml)), aS (iC (φ := fl c) fun e he => (hq e he).len), oC hi]
    rw [he] at hci ⊢
    simp only [reL, reF] at hci
    simp only [reL, reF, dK, bP, bW, bO, aZ, bR, cX, hci, Option.bind_some, eJ, List.length_cons, List.length_nil, beq_self_eq_true, Nat.reduceAdd, Nat.reduceBEq, aD]
    have hd' : (i + 1) * 6 ≤ es.length * 6 := Nat.mul_le_mul_right 6 hi
    have hg : (0 + i) * 6 + 6 ≤ (eN (reE (fl aO) es) i z).length := by rw [g3, hz, Nat.sub_mul]; omega
    simp only [hg, decide_true, aD]
    rw [Nat.zero_add, hp]
    exact ih _ (by rw [List.length_drop, hz, Nat.sub_mul, Nat.sub_mul]; omega)
theorem aAP {c : Fl true} {es : List (List (aB false))} (hl : es.length ≤ 1048576) (hq : ∀ e ∈ es, bY e) (hd : ∀ e ∈ es, Dd F.aQL [.agg (reL (fl c) e)] [] = some (.agg (reL (fl aO) e), [])) : Dd F.aQy [.leaf (.sl c (reE (fl c) es))] [] = some (.leaf (.sl aO (reE (fl aO) es)), []) := by
  apply jI rfl
  have hb : aK = 140737488355328 := rfl
  rw [zE]
  have hs : decide (es.length ≤ aK) = true := decide_eq_true (by omega)
  have hs2 : decide (es.length * 112 ≤ aK) = true := decide_eq_true (by omega)
  simp only [bL, Int.natCast_nonneg, Int.toNat_natCast, beq_self_eq_true, hs, hs2, decide_true, Bool.and_true, Bool.true_and, aD]
  exact aAA hl hq hd 0 (Nat.zero_le _) _ (by simp [List.length_flatten])
theorem aEA {c : Fl true} {ls : List (aB false)} (h : bY ls) : tL ls ≤ 1048576 → Dd F.aQL [.agg (reL (fl c) ls)] [] = some (.agg (reL (fl aO) ls), []) := by
  cases h with
  | mk s0 s1 e2 s3 s4 e5 h0 h1 h2 q2 h3 h4 h5 q5 =>
    intro hb
    apply jI rfl
    simp only [reL, reF]
    rw [aAH]
    have c2 := aAy (c := c) (show e2.length + tE e2 ≤ 1048576 by simp only [tL, tF] at hb; omega) q2
    have c3 := aCV (c := c) (.mk s3 s4 h3 h4) (by simp only [tL, tF] at hb ⊢; omega)
    simp only [reL, reF] at c3
    have c5 := nZ (c := c) (show e5.length + tE e5 ≤ 1048576 by simp only [tL, tF] at hb; omega) q5
    try simp [c2, c3, c5]
theorem aDZ {c : Fl true} {es : List (List (aB false))} (hb : es.length + tE es ≤ 1048576) (hq : ∀ e ∈ es, bY e) : Dd F.aQy [.leaf (.sl c (reE (fl c) es))] [] = some (.leaf (.sl aO (reE (fl aO) es)), []) := aAP (by omega) hq fun e he => aEA (hq e he) (by have := uV he; omega)
theorem aBO {c : Fl true} {es : List (List (aB false))} (hl : es.length ≤ 1048576) (hq : ∀ e ∈ es, cG e) (hd : ∀ e ∈ es, Dd F.aQW [.agg (reL (fl c) e)] [] = some (.agg (reL (fl aO) e), [])) : ∀ i : Nat, i ≤ es.length → ∀ z : List (SV true), z.length = (es.length - i) * 3 →
    eF Dd (kU c (reE (fl c) es) es.length i (eN (reE (fl aO) es) i z)) = some (.leaf (.sl aO (reE (fl aO) es)), []) := by
  have hall : ∀ e ∈ reE (fl aO) es, e.length = 3 := iC fun e he => (hq e he).len
  have hN : (reE (fl aO) es).length = es.length := bL es
  have hC : (reE (fl c) es).length = es.length := bL es
  have hml : (1048576 : Nat) ≤ maxLen := by decide
  refine bS ?_ ?_
  · intro z hz
    have g1 := oD (z := z) hall
    have g2 := eU hall
    have g3 := eB (z := z) hall (Nat.le_refl _)
    rw [hN] at g1 g2 g3
    try rw [Nat.mul_one] at g1
    rw [qE]
    simp [g1, g2, g3, hC, SV.flatT, SV.flat, Fl.new]
  · intro i hi ih z hz
    have g3 := eB (z := z) hall (i := i) (by omega)
    have hp := lH (z := z) hall (i := i) (by omega)
    rw [qE]
    have hci := hd _ (List.getElem_mem hi)
    obtain ⟨s0, s1, e2, he, h0, h1, h2, q2⟩ := (hq _ (List.getElem_mem hi)).ex
    rw [pW, he] at hp
    simp only [reL, reF, List.map_cons, List.map_nil] at hp
    simp only [Int.ofNat_lt, hi, hC, decide_true, aE, Int.natCast_nonneg, Bool.and_true, Int.toNat_natCast, aD, bH (Nat.lt_of_lt_of_le hi (Nat.le_trans hl hml)), aS (iC (φ := fl c) fun e he => (hq e he).len), oC hi]
    rw [he] at hci ⊢
    simp only [reL, reF] at hci
    simp only [reL, reF, dK, bP, bW, bO, aZ, bR, cX, hci, Option.bind_some, eJ, List.length_cons, List.length_nil, beq_self_eq_true, Nat.reduceAdd, Nat.reduceBEq, aD]
    have hd' : (i + 1) * 3 ≤ es.length * 3 := Nat.mul_le_mul_right 3 hi
    have hg : (0 + i) * 3 + 3 ≤ (eN (reE (fl aO) es) i z).length := by rw [g3, hz, Nat.sub_mul]; omega
    simp only [hg, decide_true, aD]
    rw [Nat.zero_add, hp]
    exact ih _ (by rw [List.length_drop, hz, Nat.sub_mul, Nat.sub_mul]; omega)
theorem aBM {c : Fl true} {es : List (List (aB false))} (hl : es.length ≤ 1048576) (hq : ∀ e ∈ es, cG e) (hd : ∀ e ∈ es, Dd F.aQW [.agg (reL (fl c) e)] [] = some (.agg (reL (fl aO) e), [])) : Dd F.aQK [.leaf (.sl c (reE (fl c) es))] [] = some (.leaf (.sl aO (reE (fl aO) es)), []) := by
  apply jI rfl
  have hb : aK = 140737488355328 := rfl
  rw [aAE]
  have hs : decide (es.length ≤ aK) = true := decide_eq_true (by omega)
  have hs2 : decide (es.length * 56 ≤ aK) = true := decide_eq_true (by omega)
  simp only [bL, Int.natCast_nonneg, Int.toNat_natCast, beq_self_eq_true, hs, hs2, decide_true, Bool.and_true, Bool.true_and, aD]
  exact aBO hl hq hd 0 (Nat.zero_le _) _ (by simp [List.length_flatten])
theorem aF9 {c : Fl true} {ls : List (aB false)} (h : cG ls) : tL ls ≤ 1048576 → Dd F.aQW [.agg (reL (fl c) ls)] [] = some (.agg (reL (fl aO) ls), []) := by
  cases h with
  | mk s0 s1 e2 h0 h1 h2 q2 =>
    intro hb
    apply jI rfl
    simp only [reL, reF]
    rw [aBG]
    have c2 := nZ (c := c) (show e2.length + tE e2 ≤ 1048576 by simp only [tL, tF] at hb; omega) q2
    try simp [c2]
theorem aEQ {c : Fl true} {es : List (List (aB false))} (hb : es.length + tE es ≤ 1048576) (hq : ∀ e ∈ es, cG e) : Dd F.aQK [.leaf (.sl c (reE (fl c) es))] [] = some (.leaf (.sl aO (reE (fl aO) es)), []) := aBM (by omega) hq fun e he => aF9 (hq e he) (by have := uV he; omega)
theorem aE8 {c : Fl true} {es : List (List (aB false))} (hl : es.length ≤ 1048576) (hq : ∀ e ∈ es, dT e) (hd : ∀ e ∈ es, Dd F.aRG [.agg (reL (fl c) e)] [] = some (.agg (reL (fl aO) e), [])) : ∀ i : Nat, i ≤ es.length → ∀ z : List (SV true), z.length = (es.length - i) * 2 →
    fZ Dd (nM c (reE (fl c) es) es.length i (eN (reE (fl aO) es) i z)) = some (.leaf (.sl aO (reE (fl aO) es)), []) := by
  have hall : ∀ e ∈ reE (fl aO) es, e.length = 2 := iC fun e he => (hq e he).len
  have hN : (reE (fl aO) es).length = es.length := bL es
  have hC : (reE (fl c) es).length = es.length := bL es
  have hml : (1048576 : Nat) ≤ maxLen := by decide
  refine bS ?_ ?_
  · intro z hz
    have g1 := oD (z := z) hall
    have g2 := eU hall
    have g3 := eB (z := z) hall (Nat.le_refl _)
    rw [hN] at g1 g2 g3
    try rw [Nat.mul_one] at g1
    rw [tS]
    simp [g1, g2, g3, hC, SV.flatT, SV.flat, Fl.new]
  · intro i hi ih z hz
    have g3 := eB (z := z) hall (i := i) (by omega)
    have hp := lH (z := z) hall (i := i) (by omega)
    rw [tS]
    have hci := hd _ (List.getElem_mem hi)
    obtain ⟨i0, s1, he, h1⟩ := (hq _ (List.getElem_mem hi)).ex
    rw [pW, he] at hp
    simp only [reL, reF, List.map_cons, List.map_nil] at hp
    simp only [Int.ofNat_lt, hi, hC, decide_true, aE, Int.natCast_nonneg, Bool.and_true, Int.toNat_natCast, aD, bH (Nat.lt_of_lt_of_le hi (Nat.le_trans hl hml)), aS (iC (φ := fl c) fun e he => (hq e he).len), oC hi]
    rw [he] at hci ⊢
    simp only [reL, reF] at hci
    simp only [reL, reF, dK, bP, bW, bO, aZ, bR, cX, hci, Option.bind_some, eJ, List.length_cons, List.length_nil, beq_self_eq_true, Nat.reduceAdd, Nat.reduceBEq, aD]
    have hd' : (i + 1) * 2 ≤ es.length * 2 := Nat.mul_le_mul_right 2 hi
    have hg : (0 + i) * 2 + 2 ≤ (eN (reE (fl aO) es) i z).length := by rw [g3, hz, Nat.sub_mul]; omega
    simp only [hg, decide_true, aD]
    rw [Nat.zero_add, hp]
    exact ih _ (by rw [List.length_drop, hz, Nat.sub_mul, Nat.sub_mul]; omega)
theorem aEy {c : Fl true} {es : List (List (aB false))} (hl : es.length ≤ 1048576) (hq : ∀ e ∈ es, dT e) (hd : ∀ e ∈ es, Dd F.aRG [.agg (reL (fl c) e)] [] = some (.agg (reL (fl aO) e), [])) : Dd F.aRA [.leaf (.sl c (reE (fl c) es))] [] = some (.leaf (.sl aO (reE (fl aO) es)), []) := by
  apply jI rfl
  have hb : aK = 140737488355328 := rfl
  rw [aDK]
  have hs : decide (es.length ≤ aK) = true := decide_eq_true (by omega)
  have hs2 : decide (es.length * 24 ≤ aK) = true := decide_eq_true (by omega)
  simp only [bL, Int.natCast_nonneg, Int.toNat_natCast, beq_self_eq_true, hs, hs2, decide_true, Bool.and_true, Bool.true_and, aD]
  exact aE8 hl hq hd 0 (Nat.zero_le _) _ (by simp [List.length_flatten])
theorem aIN {c : Fl true} {ls : List (aB false)} (h : dT ls) : tL ls ≤ 1048576 → Dd F.aRG [.agg (reL (fl c) ls)] [] = some (.agg (reL (fl aO) ls), []) := by
  cases h with
  | mk i0 s1 h1 =>
    intro hb
    apply jI rfl
    simp only [reL, reF]
    rw [aE5]
    try simp []
theorem aB1 {c : Fl true} {es : List (List (aB false))} (hb : es.length + tE es ≤ 1048576) (hq : ∀ e ∈ es, dT e) : Dd F.aRA [.leaf (.sl c (reE (fl c) es))] [] = some (.leaf (.sl aO (reE (fl aO) es)), []) := aEy (by omega) hq fun e he => aIN (hq e he) (by have := uV he; omega)
theorem aFL {c : Fl true} {es : List (List (aB false))} (hl : es.length ≤ 1048576) (hq : ∀ e ∈ es, fQ e) (hd : ∀ e ∈ es, Dd F.aR3 [.agg (reL (fl c) e)] [] = some (.agg (reL (fl aO) e), [])) : ∀ i : Nat, i ≤ es.length → ∀ z : List (SV true), z.length = (es.length - i) * 11 →
    gZ Dd (oT c (reE (fl c) es) es.length i (eN (reE (fl aO) es) i z)) = some (.leaf (.sl aO (reE (fl aO) es)), []) := by
  have hall : ∀ e ∈ reE (fl aO) es, e.length = 11 := iC fun e he => (hq e he).len
  have hN : (reE (fl aO) es).length = es.length := bL es
  have hC : (reE (fl c) es).length = es.length := bL es
  have hml : (1048576 : Nat) ≤ maxLen := by decide
  refine bS ?_ ?_
  · intro z hz
    have g1 := oD (z := z) hall
    have g2 := eU hall
    have g3 := eB (z := z) hall (Nat.le_refl _)
    rw [hN] at g1 g2 g3
    try rw [Nat.mul_one] at g1
    rw [uW]
    simp [g1, g2, g3, hC, SV.flatT, SV.flat, Fl.new]
  · intro i hi ih z hz
    have g3 := eB (z := z) hall (i := i) (by omega)
    have hp := lH (z := z) hall (i := i) (by omega)
    rw [uW]
    have hci := hd _ (List.getElem_mem hi)
    obtain ⟨i0, b1, s2, s3, e4, e5, e6, e7, e8, b9, e10, he, h2, h3, h4, q4, h5, q5, h6, q6, h7, q7, h8, q8, h10, q10⟩ := (hq _ (List.getElem_mem hi)).ex
    rw [pW, he] at hp
    simp only [reL, reF, List.map_cons, List.map_nil] at hp
    simp only [Int.ofNat_lt, hi, hC, decide_true, aE, Int.natCast_nonneg, Bool.and_true, Int.toNat_natCast, aD, bH (Nat.lt_of_lt_of_le hi (Nat.le_trans hl hml)), aS (iC (φ := fl c) fun e he => (hq e he).len), oC hi]
    rw [he] at hci ⊢
    simp only [reL, reF] at hci
    simp only [reL, reF, dK, bP, bW, bO, aZ, bR, cX, hci, Option.bind_some, eJ, List.length_cons, List.length_nil, beq_self_eq_true, Nat.reduceAdd, Nat.reduceBEq, aD]
    have hd' : (i + 1) * 11 ≤ es.length * 11 := Nat.mul_le_mul_right 11 hi
    have hg : (0 + i) * 11 + 11 ≤ (eN (reE (fl aO) es) i z).length := by rw [g3, hz, Nat.sub_mul]; omega
    simp only [hg, decide_true, aD]
    rw [Nat.zero_add, hp]
    exact ih _ (by rw [List.length_drop, hz, Nat.sub_mul, Nat.sub_mul]; omega)
theorem aFT {c : Fl true} {es : List (List (aB false))} (hl : es.length ≤ 1048576) (hq : ∀ e ∈ es, fQ e) (hd : ∀ e ∈ es, Dd F.aR3 [.agg (reL (fl c) e)] [] = some (.agg (reL (fl aO) e), [])) : Dd F.aRW [.leaf (.sl c (reE (fl c) es))] [] = some (.leaf (.sl aO (reE (fl aO) es)), []) := by
  apply jI rfl
  have hb : aK = 140737488355328 := rfl
  rw [aEF]
  have hs : decide (es.length ≤ aK) = true := decide_eq_true (by omega)
  have hs2 : decide (es.length * 200 ≤ aK) = true := decide_eq_true (by omega)
  simp only [bL, Int.natCast_nonneg, Int.toNat_natCast, beq_self_eq_true, hs, hs2, decide_true, Bool.and_true, Bool.true_and, aD]
  exact aFL hl hq hd 0 (Nat.zero_le _) _ (by simp [List.length_flatten])
theorem aKq {c : Fl true} {ls : List (aB false)} (h : fQ ls) : tL ls ≤ 1048576 → Dd F.aR3 [.agg (reL (fl c) ls)] [] = some (.agg (reL (fl aO) ls), []) := by
  cases h with
  | mk i0 b1 s2 s3 e4 e5 e6 e7 e8 b9 e10 h2 h3 h4 q4 h5 q5 h6 q6 h7 q7 h8 q8 h10 q10 =>
    intro hb
    apply jI rfl
    simp only [reL, reF]
    rw [aFO]
    have c4 := xP (c := c) (show e4.length ≤ 1048576 by simp only [tL, tF] at hb; omega) q4
    have c5 := aDZ (c := c) (show e5.length + tE e5 ≤ 1048576 by simp only [tL, tF] at hb; omega) q5
    have c6 := aAy (c := c) (show e6.length + tE e6 ≤ 1048576 by simp only [tL, tF] at hb; omega) q6
    have c7 := aEQ (c := c) (show e7.length + tE e7 ≤ 1048576 by simp only [tL, tF] at hb; omega) q7
    have c8 := aB1 (c := c) (show e8.length + tE e8 ≤ 1048576 by simp only [tL, tF] at hb; omega) q8
    have c10 := nZ (c := c) (show e10.length + tE e10 ≤ 1048576 by simp only [tL, tF] at hb; omega) q10
    try simp [c4, c5, c6, c7, c8, c10]
theorem aCW {c : Fl true} {es : List (List (aB false))} (hb : es.length + tE es ≤ 1048576) (hq : ∀ e ∈ es, fQ e) : Dd F.aRW [.leaf (.sl c (reE (fl c) es))] [] = some (.leaf (.sl aO (reE (fl aO) es)), []) := aFT (by omega) hq fun e he => aKq (hq e he) (by have := uV he; omega)
theorem aGV {c : Fl true} {ls : List (aB false)} (h : bK ls) : tL ls ≤ 1048576 → Dd F.aQ6 [.agg (reL (fl c) ls)] [] = some (.agg (reL (fl aO) ls), []) := by
  cases h with
  | mk e0 e1 e2 h0 q0 h1 q1 h2 q2 =>
    intro hb
    apply jI rfl
    simp only [reL, reF]
    rw [aCt]
    have c0 := aCW (c := c) (show e0.length + tE e0 ≤ 1048576 by simp only [tL, tF] at hb; omega) q0
    have c1 := aCW (c := c) (show e1.length + tE e1 ≤ 1048576 by simp only [tL, tF] at hb; omega) q1
    have c2 := aB1 (c := c) (show e2.length + tE e2 ≤ 1048576 by simp only [tL, tF] at hb; omega) q2
    try simp [c0, c1, c2]
theorem aFp {c : Fl true} {es : List (List (aB false))} (hl : es.length ≤ 1048576) (hq : ∀ e ∈ es, dM e) (hd : ∀ e ∈ es, Dd F.aR4 [.agg (reL (fl c) e)] [] = some (.agg (reL (fl aO) e), [])) : ∀ i : Nat, i ≤ es.length → ∀ z : List (SV true), z.length = (es.length - i) * 7 →
    gQ Dd (oS c (reE (fl c) es) es.length i (eN (reE (fl aO) es) i z)) = some (.leaf (.sl aO (reE (fl aO) es)), []) := by
  have hall : ∀ e ∈ reE (fl aO) es, e.length = 7 := iC fun e he => (hq e he).len
  have hN : (reE (fl aO) es).length = es.length := bL es
  have hC : (reE (fl c) es).length = es.length := bL es
  have hml : (1048576 : Nat) ≤ maxLen := by decide
  refine bS ?_ ?_
  · intro z hz
    have g1 := oD (z := z) hall
    have g2 := eU hall
    have g3 := eB (z := z) hall (Nat.le_refl _)
    rw [hN] at g1 g2 g3
    try rw [Nat.mul_one] at g1
    rw [vQ]
    simp [g1, g2, g3, hC, SV.flatT, SV.flat, Fl.new]
  · intro i hi ih z hz
    have g3 := eB (z := z) hall (i := i) (by omega)
    have hp := lH (z := z) hall (i := i) (by omega)
    rw [vQ]
    have hci := hd _ (List.getElem_mem hi)
    obtain ⟨i0, s1, s2, s3, e4, e5, e6, he, h1, h2, h3, h4, q4, h5, q5, h6, q6⟩ := (hq _ (List.getElem_mem hi)).ex
    rw [pW, he] at hp
    simp only [reL, reF, List.map_cons, List.map_nil] at hp
    simp only [Int.ofNat_lt, hi, hC, decide_true, aE, Int.natCast_nonneg, Bool.and_true, Int.toNat_natCast, aD, bH (Nat.lt_of_lt_of_le hi (Nat.le_trans hl hml)), aS (iC (φ := fl c) fun e he => (hq e he).len), oC hi]
    rw [he] at hci ⊢
    simp only [reL, reF] at hci
    simp only [reL, reF, dK, bP, bW, bO, aZ, bR, cX, hci, Option.bind_some, eJ, List.length_cons, List.length_nil, beq_self_eq_true, Nat.reduceAdd, Nat.reduceBEq, aD]
    have hd' : (i + 1) * 7 ≤ es.length * 7 := Nat.mul_le_mul_right 7 hi
    have hg : (0 + i) * 7 + 7 ≤ (eN (reE (fl aO) es) i z).length := by rw [g3, hz, Nat.sub_mul]; omega
    simp only [hg, decide_true, aD]
    rw [Nat.zero_add, hp]
    exact ih _ (by rw [List.length_drop, hz, Nat.sub_mul, Nat.sub_mul]; omega)
theorem yU {c : Fl true} {es : List (List (aB false))} (hl : es.length ≤ 1048576) (hq : ∀ e ∈ es, dM e) (hd : ∀ e ∈ es, Dd F.aR4 [.agg (reL (fl c) e)] [] = some (.agg (reL (fl aO) e), [])) : Dd F.aRH [.leaf (.sl c (reE (fl c) es))] [] = some (.leaf (.sl aO (reE (fl aO) es)), []) := by
  apply jI rfl
  have hb : aK = 140737488355328 := rfl
  rw [aEN]
  have hs : decide (es.length ≤ aK) = true := decide_eq_true (by omega)
  have hs2 : decide (es.length * 128 ≤ aK) = true := decide_eq_true (by omega)
  simp only [bL, Int.natCast_nonneg, Int.toNat_natCast, beq_self_eq_true, hs, hs2, decide_true, Bool.and_true, Bool.true_and, aD]
  exact aFp hl hq hd 0 (Nat.zero_le _) _ (by simp [List.length_flatten])
theorem aJS {c : Fl true} {ls : List (aB false)} (h : dM ls) : tL ls ≤ 1048576 → Dd F.aR4 [.agg (reL (fl c) ls)] [] = some (.agg (reL (fl aO) ls), []) := by
  induction h with
  | mk i0 s1 s2 s3 e4 e5 e6 h1 h2 h3 h4 q4 h5 q5 h6 q6 ih6 =>
    intro hb
    apply jI rfl
    simp only [reL, reF]
    rw [aFs]
    have c4 := aC7 (c := c) (show e4.length + tE e4 ≤ 1048576 by simp only [tL, tF] at hb; omega) q4
    have c5 := nZ (c := c) (show e5.length + tE e5 ≤ 1048576 by simp only [tL, tF] at hb; omega) q5
    have c6 := yU (c := c) (show e6.length ≤ 1048576 by simp only [tL, tF] at hb; omega) q6 fun e he => ih6 e he (by have := uV he; simp only [tL, tF] at hb; omega)
    try simp [c4, c5, c6]
theorem aIF {c : Fl true} {es : List (List (aB false))} (hb : es.length + tE es ≤ 1048576) (hq : ∀ e ∈ es, dM e) : Dd F.aRH [.leaf (.sl c (reE (fl c) es))] [] = some (.leaf (.sl aO (reE (fl aO) es)), []) := yU (by omega) hq fun e he => aJS (hq e he) (by have := uV he; omega)
end Go.Vs
end
section
open Go Go.Vs Go.Proofs
set_option linter.unusedVariables false
set_option linter.unusedSimpArgs false
namespace Go.Vs
theorem aOV {x : Int} (h : 0 ≤ x) : IntKind.i64.wrap x ≤ x := by
  have e : IntKind.i64.wrap x = if x % 18446744073709551616 ≥ 9223372036854775808 then x % 18446744073709551616 - 18446744073709551616 else x % 18446744073709551616 := by
    simp [IntKind.wrap, IntKind.signed, IntKind.bits]
  rw [e]
  split <;> omega
theorem aCK : ∀ (n : Nat) (i0 : Int) (s3 : ByteArray), i0 < 10 ^ n → s3.size + n + 1 ≤ 140737488355328 → ∃ s : ByteArray, gS Dn (oO i0 s3) = some (.leaf (.str s), [])
  | 0, i0, s3, h, hs => by
    have h0 : ¬ i0 > 0 := by simp at h; omega
    rw [pG]
    have h1 : (ByteArray.mk #[109]).size + s3.size ≤ 140737488355328 := by have : (ByteArray.mk #[109]).size = 1 := rfl; omega
    simp only [h0, decide_false, aF, h1, decide_true, aD]
    exact ⟨_, rfl⟩
  | n + 1, i0, s3, h, hs => by
    rw [pG]
    by_cases h0 : i0 > 0
    · have hz : ∀ x : UInt8, (ByteArray.mk #[x]).size = 1 := fun _ => rfl
      have h2 : IntKind.i64.wrap (i0.tdiv 10) < 10 ^ n := by
        have h3 : 0 ≤ i0.tdiv 10 := Int.tdiv_nonneg (by omega) (by omega)
        have h4 := aOV h3
        have h5 : i0.tdiv 10 < 10 ^ n := by
          rw [Int.tdiv_eq_ediv_of_nonneg (by omega)]
          rw [Int.pow_succ] at h
          omega
        omega
      simp only [h0, decide_true, aE, List.map_cons, List.map_nil, hz, show 1 + s3.size ≤ 140737488355328 by omega, aD]
      exact aCK n _ _ h2 (by rw [ByteArray.size_append, hz]; omega)
    · have h1 : (ByteArray.mk #[109]).size + s3.size ≤ 140737488355328 := by have : (ByteArray.mk #[109]).size = 1 := rfl; omega
      simp only [h0, decide_false, aF, h1, decide_true, aD]
      exact ⟨_, rfl⟩
theorem aGB (k : Int) : ∃ s : ByteArray, Dn F.aRb [aH k] [] = some (.leaf (.str s), []) := by
  have key : ∃ s : ByteArray, bB Go.Proofs.Tryz.prog Dn Hs bQ F.aRb [aH k] [] = some (.leaf (.str s), []) := by
    rw [aE3]
    by_cases h : k ≤ 0
    · simp only [h, decide_true, aE]; exact ⟨_, rfl⟩
    · obtain ⟨n, hn⟩ : ∃ n : Nat, k < 10 ^ n ∧ n ≤ k.toNat := ⟨k.toNat, by
        have : (k.toNat : Int) < 10 ^ k.toNat := by exact_mod_cast (Nat.lt_pow_self (by omega) : k.toNat < 10 ^ k.toNat)
        omega, Nat.le_refl _⟩
      simp only [h, decide_false, aF]
      rw [pG]
      have hz : ∀ x : UInt8, (ByteArray.mk #[x]).size = 1 := fun _ => rfl
      have h0 : k > 0 := by omega
      have he : (ByteArray.mk #[]).size = 0 := rfl
      simp only [h0, decide_true, aE, List.map_cons, List.map_nil, hz, he, show 1 + 0 ≤ 140737488355328 by omega, aD]
      refine aCK 19 _ _ ?_ (by rw [ByteArray.size_append, hz, he]; omega)
      have e : ∀ x : Int, IntKind.i64.wrap x < 10 ^ 19 := fun x => by
        have e : IntKind.i64.wrap x = if x % 18446744073709551616 ≥ 9223372036854775808 then x % 18446744073709551616 - 18446744073709551616 else x % 18446744073709551616 := by
          simp [IntKind.wrap, IntKind.signed, IntKind.bits]
        rw [e]
        split <;> omega
      exact e _
  obtain ⟨s, hs⟩ := key
  exact ⟨s, bG hs⟩
noncomputable def mtx (k : Int) : ByteArray := Classical.choose (aGB k)
theorem aDE (k : Int) : Dn F.aRb [aH k] [] = some (.leaf (.str (mtx k)), []) := Classical.choose_spec (aGB k)
end Go.Vs
end
