/- What the program's functions compute, read off their text by the shadow runner (CTt, CTm, CTe, CTl, CTs, CTr, CTz, CTy, VsShape, CTx); no condition. -/
import Derived.Test.YtingdapimncjjaaRows
import Derived.Test.YtingdapimncjjaaVB7
section
open Go Go.Vs Go.Proofs
set_option linter.unusedVariables false
set_option linter.unusedSimpArgs false
namespace Go.Vs
/-- The functions whose text is read in the deep mode; of the others the plain mode tells. -/
def keep : FuncId → Bool := fun f => [F.laws_toStringS, F.laws_toValue, F.laws_toValueS, F.laws_toType, F.laws_toArg, F.laws_toArgS, F.laws_toDir, F.laws_toDirS, F.laws_toInDef, F.laws_toInDefS,
  F.laws_markStringS, F.laws_markValueS, F.laws_markArgS, F.laws_markDirS, F.laws_markInDefS, F.impl_InChanges, F.impl_changes_add].contains f
noncomputable abbrev Dd : Oracle true := den Go.Proofs.Try.prog (liftT Dn keep) Hs
theorem dd_of {f : FuncId} {a : List (SV true)} {b : List (List (SV true))} {r : SV true × List (List (SV true))} (hk : keep f = true) (h : run2V Go.Proofs.Try.prog Dd Hs limR f a b = some r) : Dd f a b = some r :=
  den_fast (by simp only [liftT, hk]) h
theorem dd_told {f : FuncId} (hk : keep f = false) {a : List (SV true)} {b : List (List (SV true))} {a' : List (SV false)} {b' : List (List (SV false))} {r' : SV false × List (List (SV false))} {r : SV true × List (List (SV true))}
    (h : Dn f a' b' = some r') (ha : a.map (reS er) = a') (hb : b.map (List.map (reS er)) = b') (hr : (reS li r'.1, r'.2.map (List.map (reS li))) = r) : Dd f a b = some r := lift_told hk h ha hb hr
theorem sizeT3 : sizeT Try.prog 3 = some 1 := by kernel_rfl
theorem sizeT4 : sizeT Try.prog 4 = some 1 := by kernel_rfl
theorem sizeT9 : sizeT Try.prog 9 = some 1 := by kernel_rfl
theorem laws_toStringS_from {c : Fl true} {es : List (List (Leaf false))} (hl : es.length ≤ 1048576) (hq : ∀ e ∈ es, IsStr e) : ∀ i : Nat, i ≤ es.length → ∀ z : List (SV true), z.length = (es.length - i) * 1 →
    d_laws_toStringS_A Dd (d_laws_toStringS_0 c (reE (fl c) es) es.length i (rowAt (reE (fl fNew) es) i z)) = some (.leaf (.sl fNew (reE (fl fNew) es)), []) := by
  have hall : ∀ e ∈ reE (fl fNew) es, e.length = 1 := reE_all fun e he => (hq e he).len
  have hN : (reE (fl fNew) es).length = es.length := reE_length es
  have hC : (reE (fl c) es).length = es.length := reE_length es
  have hml : (1048576 : Nat) ≤ maxLen := by decide
  refine upto_ind ?_ ?_
  · intro z hz
    have g1 := row_full (z := z) hall
    have g2 := chunks_flatten hall
    have g3 := rowAt_len (z := z) hall (Nat.le_refl _)
    rw [hN] at g1 g2 g3
    try rw [Nat.mul_one] at g1
    rw [d_laws_toStringS_0_eq]
    simp [g1, g2, g3, hC, SV.flatT, SV.flat, Fl.new]
  · intro i hi ih z hz
    have g3 := rowAt_len (z := z) hall (i := i) (by omega)
    have hp := putAt_row (z := z) hall (i := i) (by omega)
    rw [d_laws_toStringS_0_eq]
    obtain ⟨s, he, hs⟩ := hq _ (List.getElem_mem hi)
    rw [reE_get, he] at hp
    simp only [reL, reF, List.map_cons, List.map_nil] at hp
    simp only [Int.ofNat_lt, hi, hC, decide_true, branch_true, Int.natCast_nonneg, Bool.and_true, Int.toNat_natCast, guarded_true, wrap_upL (Nat.lt_of_lt_of_le hi (Nat.le_trans hl hml)), sized_all (reE_all (φ := fl c) fun e he => (hq e he).len), reE_getD hi]
    rw [he]
    simp only [reL, reF, atK_zero, strK_str]
    have hd' : (i + 1) * 1 ≤ es.length * 1 := Nat.mul_le_mul_right 1 hi
    have hg : (0 + i) * 1 + 1 ≤ (rowAt (reE (fl fNew) es) i z).length := by rw [g3, hz, Nat.sub_mul]; omega
    simp only [hg, decide_true, guarded_true]
    rw [Nat.zero_add, hp]
    exact ih _ (by rw [List.length_drop, hz, Nat.sub_mul, Nat.sub_mul]; omega)
theorem t_laws_toStringS {c : Fl true} {es : List (List (Leaf false))} (hl : es.length ≤ 1048576) (hq : ∀ e ∈ es, IsStr e) : Dd F.laws_toStringS [.leaf (.sl c (reE (fl c) es))] [] = some (.leaf (.sl fNew (reE (fl fNew) es)), []) := by
  apply dd_of rfl
  have hb : maxBytes = 140737488355328 := rfl
  rw [run_d_laws_toStringS]
  have hs : decide (es.length ≤ maxBytes) = true := decide_eq_true (by omega)
  have hs2 : decide (es.length * 16 ≤ maxBytes) = true := decide_eq_true (by omega)
  simp only [reE_length, Int.natCast_nonneg, Int.toNat_natCast, beq_self_eq_true, hs, hs2, decide_true, Bool.and_true, Bool.true_and, guarded_true]
  exact laws_toStringS_from hl hq 0 (Nat.zero_le _) _ (by simp [List.length_flatten])
theorem t_laws_toType {c : Fl true} {ls : List (Leaf false)} (h : IsType ls) : tL ls ≤ 1048576 → Dd F.laws_toType [.agg (reL (fl c) ls)] [] = some (.agg (reL (fl fNew) ls), []) := by
  cases h with
  | mk s0 s1 h0 h1 =>
    intro hb
    apply dd_of rfl
    simp only [reL, reF]
    rw [run_d_laws_toType]
    try simp []
theorem laws_toValueS_from {c : Fl true} {es : List (List (Leaf false))} (hl : es.length ≤ 1048576) (hq : ∀ e ∈ es, IsValue e) (hd : ∀ e ∈ es, Dd F.laws_toValue [.agg (reL (fl c) e)] [] = some (.agg (reL (fl fNew) e), [])) : ∀ i : Nat, i ≤ es.length → ∀ z : List (SV true), z.length = (es.length - i) * 4 →
    d_laws_toValueS_A Dd (d_laws_toValueS_0 c (reE (fl c) es) es.length i (rowAt (reE (fl fNew) es) i z)) = some (.leaf (.sl fNew (reE (fl fNew) es)), []) := by
  have hall : ∀ e ∈ reE (fl fNew) es, e.length = 4 := reE_all fun e he => (hq e he).len
  have hN : (reE (fl fNew) es).length = es.length := reE_length es
  have hC : (reE (fl c) es).length = es.length := reE_length es
  have hml : (1048576 : Nat) ≤ maxLen := by decide
  refine upto_ind ?_ ?_
  · intro z hz
    have g1 := row_full (z := z) hall
    have g2 := chunks_flatten hall
    have g3 := rowAt_len (z := z) hall (Nat.le_refl _)
    rw [hN] at g1 g2 g3
    try rw [Nat.mul_one] at g1
    rw [d_laws_toValueS_0_eq]
    simp [g1, g2, g3, hC, SV.flatT, SV.flat, Fl.new]
  · intro i hi ih z hz
    have g3 := rowAt_len (z := z) hall (i := i) (by omega)
    have hp := putAt_row (z := z) hall (i := i) (by omega)
    rw [d_laws_toValueS_0_eq]
    have hci := hd _ (List.getElem_mem hi)
    obtain ⟨i0, s1, e2, e3, he, h1, h2, q2, h3, q3⟩ := (hq _ (List.getElem_mem hi)).ex
    rw [reE_get, he] at hp
    simp only [reL, reF, List.map_cons, List.map_nil] at hp
    simp only [Int.ofNat_lt, hi, hC, decide_true, branch_true, Int.natCast_nonneg, Bool.and_true, Int.toNat_natCast, guarded_true, wrap_upL (Nat.lt_of_lt_of_le hi (Nat.le_trans hl hml)), sized_all (reE_all (φ := fl c) fun e he => (hq e he).len), reE_getD hi]
    rw [he] at hci ⊢
    simp only [reL, reF] at hci
    simp only [reL, reF, bindE_eq, atK_zero, atK_succ, intK_int, strK_str, boolK_bool, slK_sl, hci, Option.bind_some, svAggK_agg, List.length_cons, List.length_nil, beq_self_eq_true, Nat.reduceAdd, Nat.reduceBEq, guarded_true]
    have hd' : (i + 1) * 4 ≤ es.length * 4 := Nat.mul_le_mul_right 4 hi
    have hg : (0 + i) * 4 + 4 ≤ (rowAt (reE (fl fNew) es) i z).length := by rw [g3, hz, Nat.sub_mul]; omega
    simp only [hg, decide_true, guarded_true]
    rw [Nat.zero_add, hp]
    exact ih _ (by rw [List.length_drop, hz, Nat.sub_mul, Nat.sub_mul]; omega)
theorem t_laws_toValueS_of {c : Fl true} {es : List (List (Leaf false))} (hl : es.length ≤ 1048576) (hq : ∀ e ∈ es, IsValue e) (hd : ∀ e ∈ es, Dd F.laws_toValue [.agg (reL (fl c) e)] [] = some (.agg (reL (fl fNew) e), [])) : Dd F.laws_toValueS [.leaf (.sl c (reE (fl c) es))] [] = some (.leaf (.sl fNew (reE (fl fNew) es)), []) := by
  apply dd_of rfl
  have hb : maxBytes = 140737488355328 := rfl
  rw [run_d_laws_toValueS]
  have hs : decide (es.length ≤ maxBytes) = true := decide_eq_true (by omega)
  have hs2 : decide (es.length * 72 ≤ maxBytes) = true := decide_eq_true (by omega)
  simp only [reE_length, Int.natCast_nonneg, Int.toNat_natCast, beq_self_eq_true, hs, hs2, decide_true, Bool.and_true, Bool.true_and, guarded_true]
  exact laws_toValueS_from hl hq hd 0 (Nat.zero_le _) _ (by simp [List.length_flatten])
theorem t_laws_toValue {c : Fl true} {ls : List (Leaf false)} (h : IsValue ls) : tL ls ≤ 1048576 → Dd F.laws_toValue [.agg (reL (fl c) ls)] [] = some (.agg (reL (fl fNew) ls), []) := by
  induction h with
  | mk i0 s1 e2 e3 h1 h2 q2 h3 q3 ih2 =>
    intro hb
    apply dd_of rfl
    simp only [reL, reF]
    rw [run_d_laws_toValue]
    have c2 := t_laws_toValueS_of (c := c) (show e2.length ≤ 1048576 by simp only [tL, tF] at hb; omega) q2 fun e he => ih2 e he (by have := tE_mem he; simp only [tL, tF] at hb; omega)
    have c3 := t_laws_toStringS (c := c) (show e3.length ≤ 1048576 by simp only [tL, tF] at hb; omega) q3
    try simp [c2, c3]
theorem t_laws_toValueS {c : Fl true} {es : List (List (Leaf false))} (hb : es.length + tE es ≤ 1048576) (hq : ∀ e ∈ es, IsValue e) : Dd F.laws_toValueS [.leaf (.sl c (reE (fl c) es))] [] = some (.leaf (.sl fNew (reE (fl fNew) es)), []) := t_laws_toValueS_of (by omega) hq fun e he => t_laws_toValue (hq e he) (by have := tE_mem he; omega)
theorem laws_toArgS_from {c : Fl true} {es : List (List (Leaf false))} (hl : es.length ≤ 1048576) (hq : ∀ e ∈ es, IsArg e) (hd : ∀ e ∈ es, Dd F.laws_toArg [.agg (reL (fl c) e)] [] = some (.agg (reL (fl fNew) e), [])) : ∀ i : Nat, i ≤ es.length → ∀ z : List (SV true), z.length = (es.length - i) * 5 →
    d_laws_toArgS_A Dd (d_laws_toArgS_0 c (reE (fl c) es) es.length i (rowAt (reE (fl fNew) es) i z)) = some (.leaf (.sl fNew (reE (fl fNew) es)), []) := by
  have hall : ∀ e ∈ reE (fl fNew) es, e.length = 5 := reE_all fun e he => (hq e he).len
  have hN : (reE (fl fNew) es).length = es.length := reE_length es
  have hC : (reE (fl c) es).length = es.length := reE_length es
  have hml : (1048576 : Nat) ≤ maxLen := by decide
  refine upto_ind ?_ ?_
  · intro z hz
    have g1 := row_full (z := z) hall
    have g2 := chunks_flatten hall
    have g3 := rowAt_len (z := z) hall (Nat.le_refl _)
    rw [hN] at g1 g2 g3
    try rw [Nat.mul_one] at g1
    rw [d_laws_toArgS_0_eq]
    simp [g1, g2, g3, hC, SV.flatT, SV.flat, Fl.new]
  · intro i hi ih z hz
    have g3 := rowAt_len (z := z) hall (i := i) (by omega)
    have hp := putAt_row (z := z) hall (i := i) (by omega)
    rw [d_laws_toArgS_0_eq]
    have hci := hd _ (List.getElem_mem hi)
    obtain ⟨s0, i1, s2, e3, e4, he, h0, h2, h3, q3, h4, q4⟩ := (hq _ (List.getElem_mem hi)).ex
    rw [reE_get, he] at hp
    simp only [reL, reF, List.map_cons, List.map_nil] at hp
    simp only [Int.ofNat_lt, hi, hC, decide_true, branch_true, Int.natCast_nonneg, Bool.and_true, Int.toNat_natCast, guarded_true, wrap_upL (Nat.lt_of_lt_of_le hi (Nat.le_trans hl hml)), sized_all (reE_all (φ := fl c) fun e he => (hq e he).len), reE_getD hi]
    rw [he] at hci ⊢
    simp only [reL, reF] at hci
    simp only [reL, reF, bindE_eq, atK_zero, atK_succ, intK_int, strK_str, boolK_bool, slK_sl, hci, Option.bind_some, svAggK_agg, List.length_cons, List.length_nil, beq_self_eq_true, Nat.reduceAdd, Nat.reduceBEq, guarded_true]
    have hd' : (i + 1) * 5 ≤ es.length * 5 := Nat.mul_le_mul_right 5 hi
    have hg : (0 + i) * 5 + 5 ≤ (rowAt (reE (fl fNew) es) i z).length := by rw [g3, hz, Nat.sub_mul]; omega
    simp only [hg, decide_true, guarded_true]
    rw [Nat.zero_add, hp]
    exact ih _ (by rw [List.length_drop, hz, Nat.sub_mul, Nat.sub_mul]; omega)
theorem t_laws_toArgS_of {c : Fl true} {es : List (List (Leaf false))} (hl : es.length ≤ 1048576) (hq : ∀ e ∈ es, IsArg e) (hd : ∀ e ∈ es, Dd F.laws_toArg [.agg (reL (fl c) e)] [] = some (.agg (reL (fl fNew) e), [])) : Dd F.laws_toArgS [.leaf (.sl c (reE (fl c) es))] [] = some (.leaf (.sl fNew (reE (fl fNew) es)), []) := by
  apply dd_of rfl
  have hb : maxBytes = 140737488355328 := rfl
  rw [run_d_laws_toArgS]
  have hs : decide (es.length ≤ maxBytes) = true := decide_eq_true (by omega)
  have hs2 : decide (es.length * 88 ≤ maxBytes) = true := decide_eq_true (by omega)
  simp only [reE_length, Int.natCast_nonneg, Int.toNat_natCast, beq_self_eq_true, hs, hs2, decide_true, Bool.and_true, Bool.true_and, guarded_true]
  exact laws_toArgS_from hl hq hd 0 (Nat.zero_le _) _ (by simp [List.length_flatten])
theorem t_laws_toArg {c : Fl true} {ls : List (Leaf false)} (h : IsArg ls) : tL ls ≤ 1048576 → Dd F.laws_toArg [.agg (reL (fl c) ls)] [] = some (.agg (reL (fl fNew) ls), []) := by
  cases h with
  | mk s0 i1 s2 e3 e4 h0 h2 h3 q3 h4 q4 =>
    intro hb
    apply dd_of rfl
    simp only [reL, reF]
    rw [run_d_laws_toArg]
    have c1 := t_laws_toValue (c := c) (.mk i1 s2 e3 e4 h2 h3 q3 h4 q4) (by simp only [tL, tF] at hb ⊢; omega)
    simp only [reL, reF] at c1
    try simp [c1]
theorem t_laws_toArgS {c : Fl true} {es : List (List (Leaf false))} (hb : es.length + tE es ≤ 1048576) (hq : ∀ e ∈ es, IsArg e) : Dd F.laws_toArgS [.leaf (.sl c (reE (fl c) es))] [] = some (.leaf (.sl fNew (reE (fl fNew) es)), []) := t_laws_toArgS_of (by omega) hq fun e he => t_laws_toArg (hq e he) (by have := tE_mem he; omega)
theorem laws_toDirS_from {c : Fl true} {es : List (List (Leaf false))} (hl : es.length ≤ 1048576) (hq : ∀ e ∈ es, IsDir e) (hd : ∀ e ∈ es, Dd F.laws_toDir [.agg (reL (fl c) e)] [] = some (.agg (reL (fl fNew) e), [])) : ∀ i : Nat, i ≤ es.length → ∀ z : List (SV true), z.length = (es.length - i) * 2 →
    d_laws_toDirS_A Dd (d_laws_toDirS_0 c (reE (fl c) es) es.length i (rowAt (reE (fl fNew) es) i z)) = some (.leaf (.sl fNew (reE (fl fNew) es)), []) := by
  have hall : ∀ e ∈ reE (fl fNew) es, e.length = 2 := reE_all fun e he => (hq e he).len
  have hN : (reE (fl fNew) es).length = es.length := reE_length es
  have hC : (reE (fl c) es).length = es.length := reE_length es
  have hml : (1048576 : Nat) ≤ maxLen := by decide
  refine upto_ind ?_ ?_
  · intro z hz
    have g1 := row_full (z := z) hall
    have g2 := chunks_flatten hall
    have g3 := rowAt_len (z := z) hall (Nat.le_refl _)
    rw [hN] at g1 g2 g3
    try rw [Nat.mul_one] at g1
    rw [d_laws_toDirS_0_eq]
    simp [g1, g2, g3, hC, SV.flatT, SV.flat, Fl.new]
  · intro i hi ih z hz
    have g3 := rowAt_len (z := z) hall (i := i) (by omega)
    have hp := putAt_row (z := z) hall (i := i) (by omega)
    rw [d_laws_toDirS_0_eq]
    have hci := hd _ (List.getElem_mem hi)
    obtain ⟨s0, e1, he, h0, h1, q1⟩ := (hq _ (List.getElem_mem hi)).ex
    rw [reE_get, he] at hp
    simp only [reL, reF, List.map_cons, List.map_nil] at hp
    simp only [Int.ofNat_lt, hi, hC, decide_true, branch_true, Int.natCast_nonneg, Bool.and_true, Int.toNat_natCast, guarded_true, wrap_upL (Nat.lt_of_lt_of_le hi (Nat.le_trans hl hml)), sized_all (reE_all (φ := fl c) fun e he => (hq e he).len), reE_getD hi]
    rw [he] at hci ⊢
    simp only [reL, reF] at hci
    simp only [reL, reF, bindE_eq, atK_zero, atK_succ, intK_int, strK_str, boolK_bool, slK_sl, hci, Option.bind_some, svAggK_agg, List.length_cons, List.length_nil, beq_self_eq_true, Nat.reduceAdd, Nat.reduceBEq, guarded_true]
    have hd' : (i + 1) * 2 ≤ es.length * 2 := Nat.mul_le_mul_right 2 hi
    have hg : (0 + i) * 2 + 2 ≤ (rowAt (reE (fl fNew) es) i z).length := by rw [g3, hz, Nat.sub_mul]; omega
    simp only [hg, decide_true, guarded_true]
    rw [Nat.zero_add, hp]
    exact ih _ (by rw [List.length_drop, hz, Nat.sub_mul, Nat.sub_mul]; omega)
theorem t_laws_toDirS_of {c : Fl true} {es : List (List (Leaf false))} (hl : es.length ≤ 1048576) (hq : ∀ e ∈ es, IsDir e) (hd : ∀ e ∈ es, Dd F.laws_toDir [.agg (reL (fl c) e)] [] = some (.agg (reL (fl fNew) e), [])) : Dd F.laws_toDirS [.leaf (.sl c (reE (fl c) es))] [] = some (.leaf (.sl fNew (reE (fl fNew) es)), []) := by
  apply dd_of rfl
  have hb : maxBytes = 140737488355328 := rfl
  rw [run_d_laws_toDirS]
  have hs : decide (es.length ≤ maxBytes) = true := decide_eq_true (by omega)
  have hs2 : decide (es.length * 40 ≤ maxBytes) = true := decide_eq_true (by omega)
  simp only [reE_length, Int.natCast_nonneg, Int.toNat_natCast, beq_self_eq_true, hs, hs2, decide_true, Bool.and_true, Bool.true_and, guarded_true]
  exact laws_toDirS_from hl hq hd 0 (Nat.zero_le _) _ (by simp [List.length_flatten])
theorem t_laws_toDir {c : Fl true} {ls : List (Leaf false)} (h : IsDir ls) : tL ls ≤ 1048576 → Dd F.laws_toDir [.agg (reL (fl c) ls)] [] = some (.agg (reL (fl fNew) ls), []) := by
  cases h with
  | mk s0 e1 h0 h1 q1 =>
    intro hb
    apply dd_of rfl
    simp only [reL, reF]
    rw [run_d_laws_toDir]
    have c1 := t_laws_toArgS (c := c) (show e1.length + tE e1 ≤ 1048576 by simp only [tL, tF] at hb; omega) q1
    try simp [c1]
theorem t_laws_toDirS {c : Fl true} {es : List (List (Leaf false))} (hb : es.length + tE es ≤ 1048576) (hq : ∀ e ∈ es, IsDir e) : Dd F.laws_toDirS [.leaf (.sl c (reE (fl c) es))] [] = some (.leaf (.sl fNew (reE (fl fNew) es)), []) := t_laws_toDirS_of (by omega) hq fun e he => t_laws_toDir (hq e he) (by have := tE_mem he; omega)
theorem laws_toInDefS_from {c : Fl true} {es : List (List (Leaf false))} (hl : es.length ≤ 1048576) (hq : ∀ e ∈ es, IsInDef e) (hd : ∀ e ∈ es, Dd F.laws_toInDef [.agg (reL (fl c) e)] [] = some (.agg (reL (fl fNew) e), [])) : ∀ i : Nat, i ≤ es.length → ∀ z : List (SV true), z.length = (es.length - i) * 10 →
    d_laws_toInDefS_A Dd (d_laws_toInDefS_0 c (reE (fl c) es) es.length i (rowAt (reE (fl fNew) es) i z)) = some (.leaf (.sl fNew (reE (fl fNew) es)), []) := by
  have hall : ∀ e ∈ reE (fl fNew) es, e.length = 10 := reE_all fun e he => (hq e he).len
  have hN : (reE (fl fNew) es).length = es.length := reE_length es
  have hC : (reE (fl c) es).length = es.length := reE_length es
  have hml : (1048576 : Nat) ≤ maxLen := by decide
  refine upto_ind ?_ ?_
  · intro z hz
    have g1 := row_full (z := z) hall
    have g2 := chunks_flatten hall
    have g3 := rowAt_len (z := z) hall (Nat.le_refl _)
    rw [hN] at g1 g2 g3
    try rw [Nat.mul_one] at g1
    rw [d_laws_toInDefS_0_eq]
    simp [g1, g2, g3, hC, SV.flatT, SV.flat, Fl.new]
  · intro i hi ih z hz
    have g3 := rowAt_len (z := z) hall (i := i) (by omega)
    have hp := putAt_row (z := z) hall (i := i) (by omega)
    rw [d_laws_toInDefS_0_eq]
    have hci := hd _ (List.getElem_mem hi)
    obtain ⟨s0, s1, s2, s3, b4, i5, s6, e7, e8, e9, he, h0, h1, h2, h3, h6, h7, q7, h8, q8, h9, q9⟩ := (hq _ (List.getElem_mem hi)).ex
    rw [reE_get, he] at hp
    simp only [reL, reF, List.map_cons, List.map_nil] at hp
    simp only [Int.ofNat_lt, hi, hC, decide_true, branch_true, Int.natCast_nonneg, Bool.and_true, Int.toNat_natCast, guarded_true, wrap_upL (Nat.lt_of_lt_of_le hi (Nat.le_trans hl hml)), sized_all (reE_all (φ := fl c) fun e he => (hq e he).len), reE_getD hi]
    rw [he] at hci ⊢
    simp only [reL, reF] at hci
    simp only [reL, reF, bindE_eq, atK_zero, atK_succ, intK_int, strK_str, boolK_bool, slK_sl, hci, Option.bind_some, svAggK_agg, List.length_cons, List.length_nil, beq_self_eq_true, Nat.reduceAdd, Nat.reduceBEq, guarded_true]
    have hd' : (i + 1) * 10 ≤ es.length * 10 := Nat.mul_le_mul_right 10 hi
    have hg : (0 + i) * 10 + 10 ≤ (rowAt (reE (fl fNew) es) i z).length := by rw [g3, hz, Nat.sub_mul]; omega
    simp only [hg, decide_true, guarded_true]
    rw [Nat.zero_add, hp]
    exact ih _ (by rw [List.length_drop, hz, Nat.sub_mul, Nat.sub_mul]; omega)
theorem t_laws_toInDefS_of {c : Fl true} {es : List (List (Leaf false))} (hl : es.length ≤ 1048576) (hq : ∀ e ∈ es, IsInDef e) (hd : ∀ e ∈ es, Dd F.laws_toInDef [.agg (reL (fl c) e)] [] = some (.agg (reL (fl fNew) e), [])) : Dd F.laws_toInDefS [.leaf (.sl c (reE (fl c) es))] [] = some (.leaf (.sl fNew (reE (fl fNew) es)), []) := by
  apply dd_of rfl
  have hb : maxBytes = 140737488355328 := rfl
  rw [run_d_laws_toInDefS]
  have hs : decide (es.length ≤ maxBytes) = true := decide_eq_true (by omega)
  have hs2 : decide (es.length * 168 ≤ maxBytes) = true := decide_eq_true (by omega)
  simp only [reE_length, Int.natCast_nonneg, Int.toNat_natCast, beq_self_eq_true, hs, hs2, decide_true, Bool.and_true, Bool.true_and, guarded_true]
  exact laws_toInDefS_from hl hq hd 0 (Nat.zero_le _) _ (by simp [List.length_flatten])
theorem t_laws_toInDef {c : Fl true} {ls : List (Leaf false)} (h : IsInDef ls) : tL ls ≤ 1048576 → Dd F.laws_toInDef [.agg (reL (fl c) ls)] [] = some (.agg (reL (fl fNew) ls), []) := by
  cases h with
  | mk s0 s1 s2 s3 b4 i5 s6 e7 e8 e9 h0 h1 h2 h3 h6 h7 q7 h8 q8 h9 q9 =>
    intro hb
    apply dd_of rfl
    simp only [reL, reF]
    rw [run_d_laws_toInDef]
    have c2 := t_laws_toType (c := c) (.mk s2 s3 h2 h3) (by simp only [tL, tF] at hb ⊢; omega)
    simp only [reL, reF] at c2
    have c5 := t_laws_toValue (c := c) (.mk i5 s6 e7 e8 h6 h7 q7 h8 q8) (by simp only [tL, tF] at hb ⊢; omega)
    simp only [reL, reF] at c5
    have c9 := t_laws_toDirS (c := c) (show e9.length + tE e9 ≤ 1048576 by simp only [tL, tF] at hb; omega) q9
    try simp [c2, c5, c9]
theorem t_laws_toInDefS {c : Fl true} {es : List (List (Leaf false))} (hb : es.length + tE es ≤ 1048576) (hq : ∀ e ∈ es, IsInDef e) : Dd F.laws_toInDefS [.leaf (.sl c (reE (fl c) es))] [] = some (.leaf (.sl fNew (reE (fl fNew) es)), []) := t_laws_toInDefS_of (by omega) hq fun e he => t_laws_toInDef (hq e he) (by have := tE_mem he; omega)

end Go.Vs
end
section
open Go Go.Vs Go.Proofs
set_option linter.unusedVariables false
set_option linter.unusedSimpArgs false
namespace Go.Vs
theorem t_markText (k : Int) : Dd F.laws_markText [.leaf (.int .i64 k)] [] = some (.leaf (.str (mtx k)), []) :=
  dd_told rfl (d_markText k) rfl rfl rfl
theorem laws_markStringS_from {es : List (List (Leaf false))} (hl : es.length ≤ maxLen) (hq : ∀ e ∈ es, IsStr e) : ∀ i : Nat, i ≤ es.length → ∀ k : Int,
    d_laws_markStringS_A Dd (d_laws_markStringS_0 fSoft (soE es) k i) = some (.leaf (.int .i64 (mkE (es.drop i) k)), []) := by
  have hC : (soE es).length = es.length := soE_length es
  refine upto_ind ?_ ?_
  · intro k; rw [d_laws_markStringS_0_eq]; simp [hC, mkE]
  · intro i hi ih k
    obtain ⟨s, he, hs⟩ := (hq _ (List.getElem_mem hi))
    rw [d_laws_markStringS_0_eq, drop_at hi]
    simp only [Int.ofNat_lt, hi, hC, decide_true, branch_true, Int.natCast_nonneg, Bool.and_true, Int.toNat_natCast, guarded_true, wrap_upL (Nat.lt_of_lt_of_le hi hl), sized_all (soE_all fun e he => (hq e he).len), soE_getD hi, t_markText, Option.bind_some, svLeafK_leaf, strK_str]
    rw [he]
    simp only [soL, soF, atK_zero, atK_succ, slK_sl, softAt, List.getElem?_cons_zero, List.getElem?_cons_succ, soft_isSoft, St.eval, List.getD_cons_zero, List.getD_cons_succ, SV.plain, sizeT3, sizeT4, sizeT9, and_self, ite_true, if_true, ite_yes, true_and, and_true, t_markText, Option.bind_some, svLeafK_leaf, strK_str, intK_int, ih]
    simp only [mkE, mkL, mkF]
theorem t_laws_markStringS {es : List (List (Leaf false))} (hl : es.length ≤ maxLen) (hq : ∀ e ∈ es, IsStr e) (k : Int) : Dd F.laws_markStringS [.leaf (.sl fSoft (soE es)), .leaf (.int .i64 k)] [] = some (.leaf (.int .i64 (mkE es k)), []) := by
  apply dd_of rfl
  rw [run_d_laws_markStringS]
  have := laws_markStringS_from hl hq 0 (Nat.zero_le _) k
  simpa using this
def MkValue (ls : List (Leaf false)) : Prop := ∀ (i0 : Int) (s1 : ByteArray) (e2 : List (List (Leaf false))) (e3 : List (List (Leaf false))), ls = [.int .i64 i0, .str s1, .sl fP e2, .sl fP e3] → (∀ k : Int, Dd F.laws_markValueS [.leaf (.sl fSoft (soE e2)), .leaf (.int .i64 k)] [] = some (.leaf (.int .i64 (mkE e2 k)), []))
theorem laws_markValueS_from {es : List (List (Leaf false))} (hl : es.length ≤ maxLen) (hq : ∀ e ∈ es, IsValue e) (hd : ∀ e ∈ es, MkValue e) : ∀ i : Nat, i ≤ es.length → ∀ k : Int,
    d_laws_markValueS_A Dd (d_laws_markValueS_0 fSoft (soE es) k i) = some (.leaf (.int .i64 (mkE (es.drop i) k)), []) := by
  have hC : (soE es).length = es.length := soE_length es
  refine upto_ind ?_ ?_
  · intro k; rw [d_laws_markValueS_0_eq]; simp [hC, mkE]
  · intro i hi ih k
    have hci := hd _ (List.getElem_mem hi)
    obtain ⟨i0, s1, e2, e3, he, h1, h2, q2, h3, q3⟩ := (hq _ (List.getElem_mem hi)).ex
    rw [d_laws_markValueS_0_eq, drop_at hi]
    simp only [Int.ofNat_lt, hi, hC, decide_true, branch_true, Int.natCast_nonneg, Bool.and_true, Int.toNat_natCast, guarded_true, wrap_upL (Nat.lt_of_lt_of_le hi hl), sized_all (soE_all fun e he => (hq e he).len), soE_getD hi, t_markText, Option.bind_some, svLeafK_leaf, strK_str]
    rw [he]
    have c2 := hci i0 s1 e2 e3 he
    have c3 := t_laws_markStringS h3 q3
    simp only [soL, soF, atK_zero, atK_succ, slK_sl, softAt, List.getElem?_cons_zero, List.getElem?_cons_succ, soft_isSoft, St.eval, List.getD_cons_zero, List.getD_cons_succ, SV.plain, sizeT3, sizeT4, sizeT9, and_self, ite_true, if_true, ite_yes, true_and, and_true, c2, c3, t_markText, Option.bind_some, svLeafK_leaf, strK_str, intK_int, ih]
    simp only [mkE, mkL, mkF]
theorem t_laws_markValueS_of {es : List (List (Leaf false))} (hl : es.length ≤ maxLen) (hq : ∀ e ∈ es, IsValue e) (hd : ∀ e ∈ es, MkValue e) (k : Int) : Dd F.laws_markValueS [.leaf (.sl fSoft (soE es)), .leaf (.int .i64 k)] [] = some (.leaf (.int .i64 (mkE es k)), []) := by
  apply dd_of rfl
  rw [run_d_laws_markValueS]
  have := laws_markValueS_from hl hq hd 0 (Nat.zero_le _) k
  simpa using this
theorem mkValue {ls : List (Leaf false)} (h : IsValue ls) : MkValue ls := by
  induction h with
  | mk i0 s1 e2 e3 h1 h2 q2 h3 q3 ih2 =>
    intro y0 y1 y2 y3 heq
    simp only [List.cons.injEq, Leaf.int.injEq, Leaf.str.injEq, Leaf.sl.injEq, and_true, true_and] at heq
    obtain ⟨rfl, rfl, rfl, rfl⟩ := heq
    exact t_laws_markValueS_of h2 q2 ih2
theorem t_laws_markValueS {es : List (List (Leaf false))} (hl : es.length ≤ maxLen) (hq : ∀ e ∈ es, IsValue e) (k : Int) : Dd F.laws_markValueS [.leaf (.sl fSoft (soE es)), .leaf (.int .i64 k)] [] = some (.leaf (.int .i64 (mkE es k)), []) := t_laws_markValueS_of hl hq (fun e he => mkValue (hq e he)) k
theorem laws_markArgS_from {es : List (List (Leaf false))} (hl : es.length ≤ maxLen) (hq : ∀ e ∈ es, IsArg e) : ∀ i : Nat, i ≤ es.length → ∀ k : Int,
    d_laws_markArgS_A Dd (d_laws_markArgS_0 fSoft (soE es) k i) = some (.leaf (.int .i64 (mkE (es.drop i) k)), []) := by
  have hC : (soE es).length = es.length := soE_length es
  refine upto_ind ?_ ?_
  · intro k; rw [d_laws_markArgS_0_eq]; simp [hC, mkE]
  · intro i hi ih k
    obtain ⟨s0, i1, s2, e3, e4, he, h0, h2, h3, q3, h4, q4⟩ := (hq _ (List.getElem_mem hi)).ex
    rw [d_laws_markArgS_0_eq, drop_at hi]
    simp only [Int.ofNat_lt, hi, hC, decide_true, branch_true, Int.natCast_nonneg, Bool.and_true, Int.toNat_natCast, guarded_true, wrap_upL (Nat.lt_of_lt_of_le hi hl), sized_all (soE_all fun e he => (hq e he).len), soE_getD hi, t_markText, Option.bind_some, svLeafK_leaf, strK_str]
    rw [he]
    have c3 := t_laws_markValueS h3 q3
    have c4 := t_laws_markStringS h4 q4
    simp only [soL, soF, atK_zero, atK_succ, slK_sl, softAt, List.getElem?_cons_zero, List.getElem?_cons_succ, soft_isSoft, St.eval, List.getD_cons_zero, List.getD_cons_succ, SV.plain, sizeT3, sizeT4, sizeT9, and_self, ite_true, if_true, ite_yes, true_and, and_true, c3, c4, t_markText, Option.bind_some, svLeafK_leaf, strK_str, intK_int, ih]
    simp only [mkE, mkL, mkF]
theorem t_laws_markArgS {es : List (List (Leaf false))} (hl : es.length ≤ maxLen) (hq : ∀ e ∈ es, IsArg e) (k : Int) : Dd F.laws_markArgS [.leaf (.sl fSoft (soE es)), .leaf (.int .i64 k)] [] = some (.leaf (.int .i64 (mkE es k)), []) := by
  apply dd_of rfl
  rw [run_d_laws_markArgS]
  have := laws_markArgS_from hl hq 0 (Nat.zero_le _) k
  simpa using this
theorem laws_markDirS_from {es : List (List (Leaf false))} (hl : es.length ≤ maxLen) (hq : ∀ e ∈ es, IsDir e) : ∀ i : Nat, i ≤ es.length → ∀ k : Int,
    d_laws_markDirS_A Dd (d_laws_markDirS_0 fSoft (soE es) k i) = some (.leaf (.int .i64 (mkE (es.drop i) k)), []) := by
  have hC : (soE es).length = es.length := soE_length es
  refine upto_ind ?_ ?_
  · intro k; rw [d_laws_markDirS_0_eq]; simp [hC, mkE]
  · intro i hi ih k
    obtain ⟨s0, e1, he, h0, h1, q1⟩ := (hq _ (List.getElem_mem hi)).ex
    rw [d_laws_markDirS_0_eq, drop_at hi]
    simp only [Int.ofNat_lt, hi, hC, decide_true, branch_true, Int.natCast_nonneg, Bool.and_true, Int.toNat_natCast, guarded_true, wrap_upL (Nat.lt_of_lt_of_le hi hl), sized_all (soE_all fun e he => (hq e he).len), soE_getD hi, t_markText, Option.bind_some, svLeafK_leaf, strK_str]
    rw [he]
    have c1 := t_laws_markArgS h1 q1
    simp only [soL, soF, atK_zero, atK_succ, slK_sl, softAt, List.getElem?_cons_zero, List.getElem?_cons_succ, soft_isSoft, St.eval, List.getD_cons_zero, List.getD_cons_succ, SV.plain, sizeT3, sizeT4, sizeT9, and_self, ite_true, if_true, ite_yes, true_and, and_true, c1, t_markText, Option.bind_some, svLeafK_leaf, strK_str, intK_int, ih]
    simp only [mkE, mkL, mkF]
theorem t_laws_markDirS {es : List (List (Leaf false))} (hl : es.length ≤ maxLen) (hq : ∀ e ∈ es, IsDir e) (k : Int) : Dd F.laws_markDirS [.leaf (.sl fSoft (soE es)), .leaf (.int .i64 k)] [] = some (.leaf (.int .i64 (mkE es k)), []) := by
  apply dd_of rfl
  rw [run_d_laws_markDirS]
  have := laws_markDirS_from hl hq 0 (Nat.zero_le _) k
  simpa using this
theorem laws_markInDefS_from {es : List (List (Leaf false))} (hl : es.length ≤ maxLen) (hq : ∀ e ∈ es, IsInDef e) : ∀ i : Nat, i ≤ es.length → ∀ k : Int,
    d_laws_markInDefS_A Dd (d_laws_markInDefS_0 (soE es) k i) = some (.leaf (.int .i64 (mkE (es.drop i) k)), []) := by
  have hC : (soE es).length = es.length := soE_length es
  refine upto_ind ?_ ?_
  · intro k; rw [d_laws_markInDefS_0_eq]; simp [hC, mkE]
  · intro i hi ih k
    obtain ⟨s0, s1, s2, s3, b4, i5, s6, e7, e8, e9, he, h0, h1, h2, h3, h6, h7, q7, h8, q8, h9, q9⟩ := (hq _ (List.getElem_mem hi)).ex
    rw [d_laws_markInDefS_0_eq, drop_at hi]
    simp only [Int.ofNat_lt, hi, hC, decide_true, branch_true, Int.natCast_nonneg, Bool.and_true, Int.toNat_natCast, guarded_true, wrap_upL (Nat.lt_of_lt_of_le hi hl), sized_all (soE_all fun e he => (hq e he).len), soE_getD hi, t_markText, Option.bind_some, svLeafK_leaf, strK_str]
    rw [he]
    have c7 := t_laws_markValueS h7 q7
    have c8 := t_laws_markStringS h8 q8
    have c9 := t_laws_markDirS h9 q9
    simp only [soL, soF, atK_zero, atK_succ, slK_sl, softAt, List.getElem?_cons_zero, List.getElem?_cons_succ, soft_isSoft, St.eval, List.getD_cons_zero, List.getD_cons_succ, SV.plain, sizeT3, sizeT4, sizeT9, and_self, ite_true, if_true, ite_yes, true_and, and_true, c7, c8, c9, t_markText, Option.bind_some, svLeafK_leaf, strK_str, intK_int, ih]
    simp only [mkE, mkL, mkF]
theorem t_laws_markInDefS {es : List (List (Leaf false))} (hl : es.length ≤ maxLen) (hq : ∀ e ∈ es, IsInDef e) (k : Int) : Dd F.laws_markInDefS [.leaf (.sl fSoft (soE es)), .leaf (.int .i64 k)] [] = some (.leaf (.int .i64 (mkE es k)), []) := by
  apply dd_of rfl
  rw [run_d_laws_markInDefS]
  have := laws_markInDefS_from hl hq 0 (Nat.zero_le _) k
  simpa using this

end Go.Vs
end
section
open Go Go.Vs Go.Proofs
set_option linter.unusedVariables false
set_option linter.unusedSimpArgs false
namespace Go.Vs
theorem laws_eqStringS_from {es : List (List (Leaf false))} (hl : es.length ≤ maxLen) (hq : ∀ e ∈ es, IsStr e) : ∀ i : Nat, i ≤ es.length →
    laws_eqStringS_A Dn (laws_eqStringS_0 es es i) = some (vbool true, []) := by
  refine upto_ind ?_ ?_
  · rw [laws_eqStringS_0_eq]; simp
  · intro i hi ih
    obtain ⟨s, he, hs⟩ := hq _ (List.getElem_mem hi)
    rw [laws_eqStringS_0_eq]
    simp only [Int.ofNat_lt, hi, decide_true, branch_true, Int.natCast_nonneg, Bool.and_true, Int.toNat_natCast, guarded_true, wrap_upL (Nat.lt_of_lt_of_le hi hl), sized_all (fun e he => (hq e he).len), getD_lt hi]
    rw [he]
    simp only [atK_zero, strK_str, beq_self_eq_true, Bool.not_true, branch_false]
    exact ih
theorem d_laws_eqStringS {es : List (List (Leaf false))} (hl : es.length ≤ maxLen) (hq : ∀ e ∈ es, IsStr e) : Dn F.laws_eqStringS [vsl es, vsl es] [] = some (vbool true, []) := by
  apply den_of
  rw [run_laws_eqStringS]
  have := laws_eqStringS_from hl hq 0 (Nat.zero_le _)
  simpa using this
theorem d_laws_eqType {ls : List (Leaf false)} (h : IsType ls) : Dn F.laws_eqType [.agg ls, .agg ls] [] = some (vbool true, []) := by
  cases h with
  | mk s0 s1 h0 h1 =>
    apply den_of
    rw [run_laws_eqType]
    simp []
theorem laws_eqValueS_from {es : List (List (Leaf false))} (hl : es.length ≤ maxLen) (hq : ∀ e ∈ es, IsValue e) (hd : ∀ e ∈ es, Dn F.laws_eqValue [.agg e, .agg e] [] = some (vbool true, [])) : ∀ i : Nat, i ≤ es.length →
    laws_eqValueS_A Dn (laws_eqValueS_0 es es i) = some (vbool true, []) := by
  refine upto_ind ?_ ?_
  · rw [laws_eqValueS_0_eq]; simp
  · intro i hi ih
    have hci := hd _ (List.getElem_mem hi)
    obtain ⟨i0, s1, e2, e3, he, h1, h2, q2, h3, q3⟩ := (hq _ (List.getElem_mem hi)).ex
    rw [laws_eqValueS_0_eq]
    simp only [Int.ofNat_lt, hi, decide_true, branch_true, Int.natCast_nonneg, Bool.and_true, Int.toNat_natCast, guarded_true, wrap_upL (Nat.lt_of_lt_of_le hi hl), sized_all (fun e he => (hq e he).len), getD_lt hi]
    rw [he] at hci ⊢
    simp only [bindE_eq, atK_zero, atK_succ, intK_int, strK_str, boolK_bool, slK_sl, hci, Option.bind_some, svLeafK_leaf, Bool.not_true, branch_false]
    exact ih
theorem d_laws_eqValueS_of {es : List (List (Leaf false))} (hl : es.length ≤ maxLen) (hq : ∀ e ∈ es, IsValue e) (hd : ∀ e ∈ es, Dn F.laws_eqValue [.agg e, .agg e] [] = some (vbool true, [])) : Dn F.laws_eqValueS [vsl es, vsl es] [] = some (vbool true, []) := by
  apply den_of
  rw [run_laws_eqValueS]
  have := laws_eqValueS_from hl hq hd 0 (Nat.zero_le _)
  simpa using this
theorem d_laws_eqValue {ls : List (Leaf false)} (h : IsValue ls) : Dn F.laws_eqValue [.agg ls, .agg ls] [] = some (vbool true, []) := by
  induction h with
  | mk i0 s1 e2 e3 h1 h2 q2 h3 q3 ih2 =>
    apply den_of
    rw [run_laws_eqValue]
    have c2 := d_laws_eqValueS_of h2 q2 ih2
    have c3 := d_laws_eqStringS h3 q3
    simp [c2, c3]
theorem d_laws_eqValueS {es : List (List (Leaf false))} (hl : es.length ≤ maxLen) (hq : ∀ e ∈ es, IsValue e) : Dn F.laws_eqValueS [vsl es, vsl es] [] = some (vbool true, []) := d_laws_eqValueS_of hl hq fun e he => d_laws_eqValue (hq e he)
theorem laws_eqArgS_from {es : List (List (Leaf false))} (hl : es.length ≤ maxLen) (hq : ∀ e ∈ es, IsArg e) (hd : ∀ e ∈ es, Dn F.laws_eqArg [.agg e, .agg e] [] = some (vbool true, [])) : ∀ i : Nat, i ≤ es.length →
    laws_eqArgS_A Dn (laws_eqArgS_0 es es i) = some (vbool true, []) := by
  refine upto_ind ?_ ?_
  · rw [laws_eqArgS_0_eq]; simp
  · intro i hi ih
    have hci := hd _ (List.getElem_mem hi)
    obtain ⟨s0, i1, s2, e3, e4, he, h0, h2, h3, q3, h4, q4⟩ := (hq _ (List.getElem_mem hi)).ex
    rw [laws_eqArgS_0_eq]
    simp only [Int.ofNat_lt, hi, decide_true, branch_true, Int.natCast_nonneg, Bool.and_true, Int.toNat_natCast, guarded_true, wrap_upL (Nat.lt_of_lt_of_le hi hl), sized_all (fun e he => (hq e he).len), getD_lt hi]
    rw [he] at hci ⊢
    simp only [bindE_eq, atK_zero, atK_succ, intK_int, strK_str, boolK_bool, slK_sl, hci, Option.bind_some, svLeafK_leaf, Bool.not_true, branch_false]
    exact ih
theorem d_laws_eqArgS_of {es : List (List (Leaf false))} (hl : es.length ≤ maxLen) (hq : ∀ e ∈ es, IsArg e) (hd : ∀ e ∈ es, Dn F.laws_eqArg [.agg e, .agg e] [] = some (vbool true, [])) : Dn F.laws_eqArgS [vsl es, vsl es] [] = some (vbool true, []) := by
  apply den_of
  rw [run_laws_eqArgS]
  have := laws_eqArgS_from hl hq hd 0 (Nat.zero_le _)
  simpa using this
theorem d_laws_eqArg {ls : List (Leaf false)} (h : IsArg ls) : Dn F.laws_eqArg [.agg ls, .agg ls] [] = some (vbool true, []) := by
  cases h with
  | mk s0 i1 s2 e3 e4 h0 h2 h3 q3 h4 q4 =>
    apply den_of
    rw [run_laws_eqArg]
    have c1 := d_laws_eqValue (.mk i1 s2 e3 e4 h2 h3 q3 h4 q4)
    simp [c1]
theorem d_laws_eqArgS {es : List (List (Leaf false))} (hl : es.length ≤ maxLen) (hq : ∀ e ∈ es, IsArg e) : Dn F.laws_eqArgS [vsl es, vsl es] [] = some (vbool true, []) := d_laws_eqArgS_of hl hq fun e he => d_laws_eqArg (hq e he)
theorem laws_eqDirS_from {es : List (List (Leaf false))} (hl : es.length ≤ maxLen) (hq : ∀ e ∈ es, IsDir e) (hd : ∀ e ∈ es, Dn F.laws_eqDir [.agg e, .agg e] [] = some (vbool true, [])) : ∀ i : Nat, i ≤ es.length →
    laws_eqDirS_A Dn (laws_eqDirS_0 es es i) = some (vbool true, []) := by
  refine upto_ind ?_ ?_
  · rw [laws_eqDirS_0_eq]; simp
  · intro i hi ih
    have hci := hd _ (List.getElem_mem hi)
    obtain ⟨s0, e1, he, h0, h1, q1⟩ := (hq _ (List.getElem_mem hi)).ex
    rw [laws_eqDirS_0_eq]
    simp only [Int.ofNat_lt, hi, decide_true, branch_true, Int.natCast_nonneg, Bool.and_true, Int.toNat_natCast, guarded_true, wrap_upL (Nat.lt_of_lt_of_le hi hl), sized_all (fun e he => (hq e he).len), getD_lt hi]
    rw [he] at hci ⊢
    simp only [bindE_eq, atK_zero, atK_succ, intK_int, strK_str, boolK_bool, slK_sl, hci, Option.bind_some, svLeafK_leaf, Bool.not_true, branch_false]
    exact ih
theorem d_laws_eqDirS_of {es : List (List (Leaf false))} (hl : es.length ≤ maxLen) (hq : ∀ e ∈ es, IsDir e) (hd : ∀ e ∈ es, Dn F.laws_eqDir [.agg e, .agg e] [] = some (vbool true, [])) : Dn F.laws_eqDirS [vsl es, vsl es] [] = some (vbool true, []) := by
  apply den_of
  rw [run_laws_eqDirS]
  have := laws_eqDirS_from hl hq hd 0 (Nat.zero_le _)
  simpa using this
theorem d_laws_eqDir {ls : List (Leaf false)} (h : IsDir ls) : Dn F.laws_eqDir [.agg ls, .agg ls] [] = some (vbool true, []) := by
  cases h with
  | mk s0 e1 h0 h1 q1 =>
    apply den_of
    rw [run_laws_eqDir]
    have c1 := d_laws_eqArgS h1 q1
    simp [c1]
theorem d_laws_eqDirS {es : List (List (Leaf false))} (hl : es.length ≤ maxLen) (hq : ∀ e ∈ es, IsDir e) : Dn F.laws_eqDirS [vsl es, vsl es] [] = some (vbool true, []) := d_laws_eqDirS_of hl hq fun e he => d_laws_eqDir (hq e he)
theorem laws_eqInDefS_from {es : List (List (Leaf false))} (hl : es.length ≤ maxLen) (hq : ∀ e ∈ es, IsInDef e) (hd : ∀ e ∈ es, Dn F.laws_eqInDef [.agg e, .agg e] [] = some (vbool true, [])) : ∀ i : Nat, i ≤ es.length →
    laws_eqInDefS_A Dn (laws_eqInDefS_0 es es i) = some (vbool true, []) := by
  refine upto_ind ?_ ?_
  · rw [laws_eqInDefS_0_eq]; simp
  · intro i hi ih
    have hci := hd _ (List.getElem_mem hi)
    obtain ⟨s0, s1, s2, s3, b4, i5, s6, e7, e8, e9, he, h0, h1, h2, h3, h6, h7, q7, h8, q8, h9, q9⟩ := (hq _ (List.getElem_mem hi)).ex
    rw [laws_eqInDefS_0_eq]
    simp only [Int.ofNat_lt, hi, decide_true, branch_true, Int.natCast_nonneg, Bool.and_true, Int.toNat_natCast, guarded_true, wrap_upL (Nat.lt_of_lt_of_le hi hl), sized_all (fun e he => (hq e he).len), getD_lt hi]
    rw [he] at hci ⊢
    simp only [bindE_eq, atK_zero, atK_succ, intK_int, strK_str, boolK_bool, slK_sl, hci, Option.bind_some, svLeafK_leaf, Bool.not_true, branch_false]
    exact ih
theorem d_laws_eqInDefS_of {es : List (List (Leaf false))} (hl : es.length ≤ maxLen) (hq : ∀ e ∈ es, IsInDef e) (hd : ∀ e ∈ es, Dn F.laws_eqInDef [.agg e, .agg e] [] = some (vbool true, [])) : Dn F.laws_eqInDefS [vsl es, vsl es] [] = some (vbool true, []) := by
  apply den_of
  rw [run_laws_eqInDefS]
  have := laws_eqInDefS_from hl hq hd 0 (Nat.zero_le _)
  simpa using this
theorem d_laws_eqInDef {ls : List (Leaf false)} (h : IsInDef ls) : Dn F.laws_eqInDef [.agg ls, .agg ls] [] = some (vbool true, []) := by
  cases h with
  | mk s0 s1 s2 s3 b4 i5 s6 e7 e8 e9 h0 h1 h2 h3 h6 h7 q7 h8 q8 h9 q9 =>
    apply den_of
    rw [run_laws_eqInDef]
    have c2 := d_laws_eqType (.mk s2 s3 h2 h3)
    have c5 := d_laws_eqValue (.mk i5 s6 e7 e8 h6 h7 q7 h8 q8)
    have c9 := d_laws_eqDirS h9 q9
    simp [c2, c5, c9]
theorem d_laws_eqInDefS {es : List (List (Leaf false))} (hl : es.length ≤ maxLen) (hq : ∀ e ∈ es, IsInDef e) : Dn F.laws_eqInDefS [vsl es, vsl es] [] = some (vbool true, []) := d_laws_eqInDefS_of hl hq fun e he => d_laws_eqInDef (hq e he)
theorem laws_eqChangeS_from {es : List (List (Leaf false))} (hl : es.length ≤ maxLen) (hq : ∀ e ∈ es, IsChange e) (hd : ∀ e ∈ es, Dn F.laws_eqChange [.agg e, .agg e] [] = some (vbool true, [])) : ∀ i : Nat, i ≤ es.length →
    laws_eqChangeS_A Dn (laws_eqChangeS_0 es es i) = some (vbool true, []) := by
  refine upto_ind ?_ ?_
  · rw [laws_eqChangeS_0_eq]; simp
  · intro i hi ih
    have hci := hd _ (List.getElem_mem hi)
    obtain ⟨i0, s1, s2, he⟩ := (hq _ (List.getElem_mem hi)).ex
    rw [laws_eqChangeS_0_eq]
    simp only [Int.ofNat_lt, hi, decide_true, branch_true, Int.natCast_nonneg, Bool.and_true, Int.toNat_natCast, guarded_true, wrap_upL (Nat.lt_of_lt_of_le hi hl), sized_all (fun e he => (hq e he).len), getD_lt hi]
    rw [he] at hci ⊢
    simp only [bindE_eq, atK_zero, atK_succ, intK_int, strK_str, boolK_bool, slK_sl, hci, Option.bind_some, svLeafK_leaf, Bool.not_true, branch_false]
    exact ih
theorem d_laws_eqChangeS_of {es : List (List (Leaf false))} (hl : es.length ≤ maxLen) (hq : ∀ e ∈ es, IsChange e) (hd : ∀ e ∈ es, Dn F.laws_eqChange [.agg e, .agg e] [] = some (vbool true, [])) : Dn F.laws_eqChangeS [vsl es, vsl es] [] = some (vbool true, []) := by
  apply den_of
  rw [run_laws_eqChangeS]
  have := laws_eqChangeS_from hl hq hd 0 (Nat.zero_le _)
  simpa using this
theorem d_laws_eqChange {ls : List (Leaf false)} (h : IsChange ls) : Dn F.laws_eqChange [.agg ls, .agg ls] [] = some (vbool true, []) := by
  cases h with
  | mk i0 s1 s2 =>
    apply den_of
    rw [run_laws_eqChange]
    simp []
theorem d_laws_eqChangeS {es : List (List (Leaf false))} (hl : es.length ≤ maxLen) (hq : ∀ e ∈ es, IsChange e) : Dn F.laws_eqChangeS [vsl es, vsl es] [] = some (vbool true, []) := d_laws_eqChangeS_of hl hq fun e he => d_laws_eqChange (hq e he)

end Go.Vs
end
section
open Go Go.Vs Go.Proofs
set_option linter.unusedVariables false
set_option linter.unusedSimpArgs false
namespace Go.Vs
mutual
theorem reF_er (c : Fl true) : ∀ l : Leaf false, reF er (reF (fl c) l) = l
  | .sl _ es => by rw [reF, reF, reE_er c es]; cases ‹Fl false›; rfl
  | .bool _ | .int _ _ | .str _ | .unk | .nl _ => by simp [reF]
theorem reL_er (c : Fl true) : ∀ l : List (Leaf false), reL er (reL (fl c) l) = l
  | [] => by rw [reL, reL]
  | l :: r => by rw [reL, reL, reF_er c l, reL_er c r]
theorem reE_er (c : Fl true) : ∀ l : List (List (Leaf false)), reE er (reE (fl c) l) = l
  | [] => by rw [reE, reE]
  | l :: r => by rw [reE, reE, reL_er c l, reE_er c r]
end
theorem reE_append {m m' : Bool} {φ : Fl m → Fl m'} (a b : List (List (Leaf m))) : reE φ (a ++ b) = reE φ a ++ reE φ b := by rw [reE_map, reE_map, reE_map, List.map_append]
theorem reS_sl (c : Fl true) (es : List (List (Leaf false))) : reS er (.leaf (.sl c (reE (fl c) es))) = vsl es := by
  simp only [reS, reF, reE_er]
theorem reS_agg (c : Fl true) (ls : List (Leaf false)) : reS er (.agg (reL (fl c) ls)) = .agg ls := by
  simp only [reS, reL_er]
section
variable {o : ByteArray} {a b : List (List (Leaf false))} {c c' : Fl true}
theorem t_impl_InAt {s : ByteArray} (hl : a.length ≤ maxLen) (hq : ∀ e ∈ a, IsInDef e) : Dd F.impl_InAt [.leaf (.sl c (reE (fl c) a)), .leaf (.str s)] [] = some (.leaf (.int .i64 (idxOf s 0 a)), []) :=
  dd_told rfl (d_impl_InAt hl hq) (by rw [List.map_cons, reS_sl]; rfl) rfl rfl
theorem t_impl_Compatible {n1 w1 n2 w2 : ByteArray} (h1 : w1.size ≤ maxLen) (h2 : w2.size ≤ maxLen) : Dd F.impl_Compatible [.agg [.str n1, .str w1], .agg [.str n2, .str w2]] [] = some (.leaf (.bool (compat n1 w1 n2 w2)), []) :=
  dd_told rfl (d_impl_Compatible h1 h2) rfl rfl rfl
theorem t_impl_Needed {n s : ByteArray} (hs : s.size ≤ maxLen) : Dd F.impl_Needed [.agg [.str n, .str s]] [] = some (.leaf (.bool (ends s 33)), []) :=
  dd_told rfl (d_impl_Needed hs) rfl rfl rfl
theorem t_impl_SameValue {x y : List (Leaf false)} (hx : IsValue x) (hy : IsValue y) : Dd F.impl_SameValue [.agg (reL (fl c) x), .agg (reL (fl c') y)] [] = some (.leaf (.bool (eqL x y)), []) :=
  dd_told rfl (d_SameValue hx hy).1 (by rw [List.map_cons, List.map_cons, reS_agg, reS_agg]; rfl) rfl rfl
theorem t_add {q : Bool} {code : Int} {s p : ByteArray} {out : List (List (Leaf false))} (hr : out.length ≤ 4194304) : Dd F.impl_changes_add [.ptr 0 0, .leaf (.bool q), .leaf (.int .i64 code), .leaf (.str s), .leaf (.str p)] [[.own (some T.impl_Change) (reE (fl fNew) out)]] =
    some (.tup [], [[.own (some T.impl_Change) (reE (fl fNew) (out ++ if q = true then [chg code s p] else []))]]) := by
  apply dd_of rfl
  rw [run_d_impl_changes_add, reE_length]
  simp only [room hr, guarded_true, branch_ite]
  cases q
  · simp
  · simp only [if_true, reE_append, chg, reE, reL, reF]
theorem impl_tail {out : List (List (Leaf false))} {e1 e2 e19 : List (List (Leaf true))} {c1 c2 c19 cx cy : Fl true} {n i : Int} {x0 x1 x2 x3 : ByteArray} {x4 : Bool} {x5 : Int} {x6 : ByteArray} {x7 x8 x9 : List (List (Leaf false))} {y0 y1 y2 y3 : ByteArray} {y4 : Bool} {y5 : Int} {y6 : ByteArray} {y7 y8 y9 : List (List (Leaf false))}
    (hx : IsValue [.int .i64 x5, .str x6, .sl fP x7, .sl fP x8]) (hy : IsValue [.int .i64 y5, .str y6, .sl fP y7, .sl fP y8]) (hw : y3.size ≤ maxLen) (hr : out.length ≤ 4194000) :
    d_impl_InChanges_A Dd (d_impl_InChanges_4 o c1 e1 c2 e2 c19 e19 n i x0 x1 x2 x3 x4 x5 x6 cx (reE (fl cx) x7) cx (reE (fl cx) x8) cx (reE (fl cx) x9) y0 y1 y2 y3 y4 y5 y6 cy (reE (fl cy) y7) cy (reE (fl cy) y8) cy (reE (fl cy) y9) (reE (fl fNew) out)) =
      d_impl_InChanges_A Dd (d_impl_InChanges_1 o c1 e1 c2 e2 c19 e19 n i (reE (fl fNew) (out ++ d2 o x0 x4 y4 y3 [.int .i64 x5, .str x6, .sl fP x7, .sl fP x8] [.int .i64 y5, .str y6, .sl fP y7, .sl fP y8]))) := by
  have sv := t_impl_SameValue (c := cx) (c' := cy) hx hy
  simp only [reL, reF] at sv
  have r1 : ∀ l : List (List (Leaf false)), l.length ≤ 1 → (out ++ l).length ≤ 4194304 := fun l hl => by rw [List.length_append]; omega
  have r0 : out.length ≤ 4194304 := by omega
  have ad0 := fun (q : Bool) (code : Int) (s p : ByteArray) => t_add (q := q) (code := code) (s := s) (p := p) r0
  have ad1 := fun (q q' : Bool) (code code' : Int) (s p s' p' : ByteArray) => t_add (q := q) (code := code) (s := s) (p := p) (out := out ++ if q' = true then [chg code' s' p'] else []) (r1 _ (by split <;> simp))
  rw [d_impl_InChanges_4_eq]
  simp -implicitDefEqProofs only [t_impl_Needed hw, Option.bind_some, svLeafK_leaf, boolK_bool, d_impl_InChanges_7_eq, ad0, headB_cons, headK_cons, svOwnK_own, lastK_nil, lastB_nil, svTupK_tup, ad1, sv]
  unfold d2
  generalize eqL [.int .i64 x5, .str x6, .sl fP x7, .sl fP x8] [.int .i64 y5, .str y6, .sl fP y7, .sl fP y8] = q
  cases x4 <;> cases y4 <;> cases ends y3 33 <;> cases q <;> simp -implicitDefEqProofs only [branch_true, branch_false, beq_self_eq_true, Bool.not_true, Bool.not_false, Bool.and_true, Bool.and_false, Bool.false_and, Bool.true_and, Bool.or_true, Bool.or_false, Bool.true_or, Bool.false_or, if_true, Bool.false_eq_true, if_false, List.append_nil, show ((false : Bool) == true) = false from rfl, show ((true : Bool) == false) = false from rfl]
theorem impl_A_from (ha : a.length ≤ 1048576) (hb : b.length ≤ 1048576) (qa : ∀ e ∈ a, IsInDef e) (qb : ∀ e ∈ b, IsInDef e) : ∀ i : Nat, i ≤ a.length → ∀ out : List (List (Leaf false)), out.length ≤ 2 * i →
    d_impl_InChanges_A Dd (d_impl_InChanges_0 o c (reE (fl c) a) c' (reE (fl c') b) c (reE (fl c) a) a.length i (reE (fl fNew) out)) =
      d_impl_InChanges_A Dd (d_impl_InChanges_3 o c (reE (fl c) a) c' (reE (fl c') b) b.length 0 (reE (fl fNew) (out ++ (a.drop i).flatMap (perA o b)))) := by
  have hml : (1048576 : Nat) ≤ maxLen := by decide
  have hla : a.length ≤ maxLen := Nat.le_trans ha hml
  have hlb : b.length ≤ maxLen := Nat.le_trans hb hml
  have hA : (reE (fl c) a).length = a.length := reE_length a
  have hB : (reE (fl c') b).length = b.length := reE_length b
  refine upto_ind ?_ ?_
  · intro out ho; rw [d_impl_InChanges_0_eq]; simp [hB]
  · intro i hi ih out ho
    have hro : out.length ≤ 4194304 := by omega
    obtain ⟨x0, x1, x2, x3, x4, x5, x6, x7, x8, x9, he, h0, h1, h2, h3, h6, h7, q7, h8, q8, h9, q9⟩ := (qa _ (List.getElem_mem hi)).ex
    have next : ∀ out' : List (List (Leaf false)), out' = out ++ perA o b a[i] → d_impl_InChanges_A Dd (d_impl_InChanges_1 o c (reE (fl c) a) c' (reE (fl c') b) c (reE (fl c) a) a.length i (reE (fl fNew) out')) =
        d_impl_InChanges_A Dd (d_impl_InChanges_3 o c (reE (fl c) a) c' (reE (fl c') b) b.length 0 (reE (fl fNew) (out ++ (a.drop i).flatMap (perA o b)))) := fun out' ho' => by
      subst ho'
      rw [d_impl_InChanges_1_eq, wrap_upL (Nat.lt_of_lt_of_le hi hla), ih _ (by have := perA_len o b a[i]; rw [List.length_append]; omega), drop_at hi, List.flatMap_cons, List.append_assoc]
    have hin := t_impl_InAt (c := c') (s := x0) hlb qb
    have ad0 := fun (q : Bool) (code : Int) (s p : ByteArray) => t_add (q := q) (code := code) (s := s) (p := p) hro
    rw [d_impl_InChanges_0_eq]
    simp -implicitDefEqProofs only [hA, Int.ofNat_lt, hi, decide_true, branch_true, Int.natCast_nonneg, Bool.and_true, Int.toNat_natCast, guarded_true, sized_all (reE_all (φ := fl c) fun e he => (qa e he).len), reE_getD hi]
    rw [he]
    simp -implicitDefEqProofs only [reL, reF, bindE_eq, atK_zero, atK_succ, intK_int, strK_str, boolK_bool, slK_sl, hin, Option.bind_some, svLeafK_leaf, ad0, headB_cons, headK_cons, svOwnK_own, lastK_nil, lastB_nil, svTupK_tup, if_true]
    rcases idxOf_lt x0 b 0 (by omega) with hk | ⟨hk0, hk1⟩
    · rw [hk]
      simp -implicitDefEqProofs only [show ((-1 : Int) < 0) by omega, decide_true, branch_true]
      exact next _ (by rw [he]; simp only [perA, strAt, List.getElem?_cons_zero, hk, show ((-1 : Int) < 0) = True from eq_true (by omega), if_true, chg])
    · obtain ⟨j, hj⟩ : ∃ j : Nat, idxOf x0 0 b = (j : Int) := ⟨(idxOf x0 0 b).toNat, by omega⟩
      have hjb : j < b.length := by omega
      obtain ⟨y0, y1, y2, y3, y4, y5, y6, y7, y8, y9, hf, g0, g1, g2, g3, g6, g7, r7, g8, r8, g9, r9⟩ := (qb _ (List.getElem_mem hjb)).ex
      have hjn : ¬ ((j : Int) < 0) := by omega
      have r1 : ∀ l : List (List (Leaf false)), l.length ≤ 1 → (out ++ l).length ≤ 4194000 := fun l hl => by rw [List.length_append]; omega
      have ad1 := fun (q q' : Bool) (code code' : Int) (s p s' p' : ByteArray) => t_add (q := q) (code := code) (s := s) (p := p) (out := out ++ if q' = true then [chg code' s' p'] else []) (by have := r1 (if q' = true then [chg code' s' p'] else []) (by split <;> simp); omega)
      rw [hj]
      simp -implicitDefEqProofs only [hB, hjn, decide_false, branch_false, Int.ofNat_lt, hjb, decide_true, Int.natCast_nonneg, Bool.and_true, Int.toNat_natCast, guarded_true, sized_all (reE_all (φ := fl c') fun e he => (qb e he).len), reE_getD hjb]
      rw [hf]
      simp -implicitDefEqProofs only [reL, reF, bindE_eq, atK_zero, atK_succ, intK_int, strK_str, boolK_bool, slK_sl, t_impl_Compatible h3 g3, Option.bind_some, svLeafK_leaf, d_impl_InChanges_2_eq, ad0, ad1, headB_cons, headK_cons, svOwnK_own, lastK_nil, lastB_nil, svTupK_tup]
      have tail := fun (out' : List (List (Leaf false))) (hr : out'.length ≤ 4194000) => impl_tail (o := o) (out := out') (e1 := reE (fl c) a) (e2 := reE (fl c') b) (e19 := reE (fl c) a) (c1 := c) (c2 := c') (c19 := c) (cx := c) (cy := c') (n := (a.length : Int)) (i := (i : Int)) (x0 := x0) (x1 := x1) (x2 := x2) (x3 := x3) (x4 := x4) (x9 := x9) (y0 := y0) (y1 := y1) (y2 := y2) (y4 := y4) (y9 := y9) (.mk x5 x6 x7 x8 h6 h7 q7 h8 q8) (.mk y5 y6 y7 y8 g6 g7 r7 g8 r8) g3 hr
      have pa : perA o b a[i] = d1 o x0 x2 x3 y2 y3 ++ d2 o x0 x4 y4 y3 [.int .i64 x5, .str x6, .sl fP x7, .sl fP x8] [.int .i64 y5, .str y6, .sl fP y7, .sl fP y8] := by
        rw [he]
        simp only [perA, strAt, boolAt, List.getElem?_cons_zero, List.getElem?_cons_succ, hj, hjn, if_false, Int.toNat_natCast, getD_lt hjb, hf, List.drop_succ_cons, List.drop_zero, List.take_succ_cons, List.take_zero]
      rw [branch_ite]
      by_cases hne : (!(x2 == y2 && x3 == y3)) = true
      · simp -implicitDefEqProofs only [Bool.and_true, hne, beq_self_eq_true, if_true, branch_true]
        rw [tail _ (by cases compat x2 x3 y2 y3 <;> simp <;> omega)]
        refine next _ ?_
        rw [pa]
        unfold d1
        rw [if_pos hne]
        cases compat x2 x3 y2 y3 <;> simp
      · have hne' : (!(x2 == y2 && x3 == y3)) = false := by simpa using hne
        simp -implicitDefEqProofs only [Bool.and_true, hne', show ((false : Bool) == true) = false from rfl, Bool.false_eq_true, if_false, branch_false, List.append_nil]
        rw [tail _ (by omega)]
        refine next _ ?_
        rw [pa]
        unfold d1
        rw [if_neg hne]
        simp
theorem impl_B_from (ha : a.length ≤ 1048576) (hb : b.length ≤ 1048576) (qa : ∀ e ∈ a, IsInDef e) (qb : ∀ e ∈ b, IsInDef e) : ∀ i : Nat, i ≤ b.length → ∀ out : List (List (Leaf false)), out.length ≤ 2097152 + i →
    d_impl_InChanges_A Dd (d_impl_InChanges_3 o c (reE (fl c) a) c' (reE (fl c') b) b.length i (reE (fl fNew) out)) = some (.leaf (.sl fNew (reE (fl fNew) (out ++ (b.drop i).flatMap (perB o a)))), []) := by
  have hml : (1048576 : Nat) ≤ maxLen := by decide
  have hla : a.length ≤ maxLen := Nat.le_trans ha hml
  have hlb : b.length ≤ maxLen := Nat.le_trans hb hml
  have hA : (reE (fl c) a).length = a.length := reE_length a
  have hB : (reE (fl c') b).length = b.length := reE_length b
  refine upto_ind ?_ ?_
  · intro out ho; rw [d_impl_InChanges_3_eq]; simp
  · intro i hi ih out ho
    have hro : out.length ≤ 4194304 := by omega
    obtain ⟨y0, y1, y2, y3, y4, y5, y6, y7, y8, y9, he, h0, h1, h2, h3, h6, h7, q7, h8, q8, h9, q9⟩ := (qb _ (List.getElem_mem hi)).ex
    have next : ∀ out' : List (List (Leaf false)), out' = out ++ perB o a b[i] → d_impl_InChanges_A Dd (d_impl_InChanges_5 o c (reE (fl c) a) c' (reE (fl c') b) b.length i (reE (fl fNew) out')) = some (.leaf (.sl fNew (reE (fl fNew) (out ++ (b.drop i).flatMap (perB o a)))), []) := fun out' ho' => by
      subst ho'
      rw [d_impl_InChanges_5_eq, wrap_upL (Nat.lt_of_lt_of_le hi hlb), ih _ (by have := perB_len o a b[i]; rw [List.length_append]; omega), drop_at hi, List.flatMap_cons, List.append_assoc]
    have hin := t_impl_InAt (c := c) (s := y0) hla qa
    have r1 : ∀ l : List (List (Leaf false)), l.length ≤ 1 → (out ++ l).length ≤ 4194000 := fun l hl => by rw [List.length_append]; omega
    have ad0 := fun (q : Bool) (code : Int) (s p : ByteArray) => t_add (q := q) (code := code) (s := s) (p := p) hro
    have ad1 := fun (q q' : Bool) (code code' : Int) (s p s' p' : ByteArray) => t_add (q := q) (code := code) (s := s) (p := p) (out := out ++ if q' = true then [chg code' s' p'] else []) (by have := r1 (if q' = true then [chg code' s' p'] else []) (by split <;> simp); omega)
    rw [d_impl_InChanges_3_eq]
    simp -implicitDefEqProofs only [hB, Int.ofNat_lt, hi, decide_true, branch_true, Int.natCast_nonneg, Bool.and_true, Int.toNat_natCast, guarded_true, sized_all (reE_all (φ := fl c') fun e he => (qb e he).len), reE_getD hi]
    rw [he]
    simp -implicitDefEqProofs only [reL, reF, bindE_eq, atK_zero, atK_succ, intK_int, strK_str, boolK_bool, slK_sl, hin, t_impl_Needed h3, Option.bind_some, svLeafK_leaf, d_impl_InChanges_6_eq, ad0, ad1, headB_cons, headK_cons, svOwnK_own, lastK_nil, lastB_nil, svTupK_tup]
    have pb : perB o a b[i] = if idxOf y0 0 a ≥ 0 then [] else [chg (if (ends y3 33 && !y4) = true then 8 else 20) o y0] := by
      rw [he]; rfl
    by_cases hk : idxOf y0 0 a ≥ 0
    · simp -implicitDefEqProofs only [hk, decide_true, branch_true]
      exact next _ (by rw [pb, if_pos hk]; simp)
    · simp -implicitDefEqProofs only [hk, decide_false, branch_false]
      rw [if_neg hk] at pb
      cases hn : ends y3 33 <;> cases hy : y4 <;> simp -implicitDefEqProofs only [hn, hy, beq_self_eq_true, branch_true, branch_false, Bool.not_true, Bool.not_false, if_true, Bool.false_eq_true, if_false, List.append_nil, show ((false : Bool) == true) = false from rfl] <;> exact next _ (by rw [pb, hn, hy]; rfl)
theorem t_impl_InChanges (ha : a.length ≤ 1048576) (hb : b.length ≤ 1048576) (qa : ∀ e ∈ a, IsInDef e) (qb : ∀ e ∈ b, IsInDef e) : Dd F.impl_InChanges [.leaf (.str o), .leaf (.sl c (reE (fl c) a)), .leaf (.sl c' (reE (fl c') b))] [] = some (.leaf (.sl fNew (reE (fl fNew) (inCh o a b))), []) := by
  apply dd_of rfl
  rw [run_d_impl_InChanges, reE_length]
  have h1 := impl_A_from (o := o) (c := c) (c' := c') ha hb qa qb 0 (Nat.zero_le _) [] (by simp)
  have hl := flatMap_len (fun x => perA_len o b x) a
  have h2 := impl_B_from (o := o) (c := c) (c' := c') ha hb qa qb 0 (Nat.zero_le _) (a.flatMap (perA o b)) (by omega)
  simp only [List.drop_zero, List.nil_append, reE] at h1 h2
  exact h1.trans h2
end
end Go.Vs
end
section
open Go Go.Vs Go.Proofs
set_option linter.unusedVariables false
set_option linter.unusedSimpArgs false
namespace Go.Vs
theorem laws_szStringS_from {es : List (List (Leaf false))} (hl : es.length ≤ maxLen) (hq : ∀ e ∈ es, IsStr e) : ∀ i : Nat, i ≤ es.length → ∀ n : Int, 0 ≤ n →
    laws_szStringS_A Dn (laws_szStringS_0 es n i) = some (vint (szE (es.drop i) n), []) := by
  refine upto_ind ?_ ?_
  · intro n hn; rw [laws_szStringS_0_eq]; simp [szE]
  · intro i hi ih n hn
    obtain ⟨s, he, hs⟩ := hq _ (List.getElem_mem hi)
    rw [laws_szStringS_0_eq, drop_at hi]
    simp only [Int.ofNat_lt, hi, decide_true, branch_true, Int.natCast_nonneg, Bool.and_true, Int.toNat_natCast, guarded_true, wrap_upL (Nat.lt_of_lt_of_le hi hl), sized_all (fun e he => (hq e he).len), getD_lt hi]
    rw [he]
    simp only [atK_zero, strK_str]
    exact sz_nextS fun hk => ih _ hk
theorem d_laws_szStringS {es : List (List (Leaf false))} (hl : es.length ≤ maxLen) (hq : ∀ e ∈ es, IsStr e) {n : Int} (hn : 0 ≤ n) :
    Dn F.laws_szStringS [vsl es, vint n] [] = some (vint (szF (.sl fP es) n), []) := by
  apply den_of
  rw [run_laws_szStringS]
  refine sz_len fun hk => ?_
  have := laws_szStringS_from hl hq 0 (Nat.zero_le _) _ hk
  simpa using this
theorem d_laws_szType {ls : List (Leaf false)} (h : IsType ls) : ∀ {n : Int}, 0 ≤ n → Dn F.laws_szType [.agg ls, vint n] [] = some (vint (szL ls n), []) := by
  cases h with
  | mk s0 s1 h0 h1 =>
    intro n hn
    apply den_of
    rw [run_laws_szType]
    refine sz_str fun hn => ?_
    refine sz_str fun hn => ?_
    rfl
theorem laws_szValueS_from {es : List (List (Leaf false))} (hl : es.length ≤ maxLen) (hq : ∀ e ∈ es, IsValue e) (hd : ∀ e ∈ es, ∀ n : Int, 0 ≤ n → Dn F.laws_szValue [.agg e, vint n] [] = some (vint (szL e n), [])) : ∀ i : Nat, i ≤ es.length → ∀ n : Int, 0 ≤ n →
    laws_szValueS_A Dn (laws_szValueS_0 es n i) = some (vint (szE (es.drop i) n), []) := by
  refine upto_ind ?_ ?_
  · intro n hn; rw [laws_szValueS_0_eq]; simp [szE]
  · intro i hi ih n hn
    have hci := hd _ (List.getElem_mem hi) n hn
    obtain ⟨i0, s1, e2, e3, he, h1, h2, q2, h3, q3⟩ := (hq _ (List.getElem_mem hi)).ex
    rw [laws_szValueS_0_eq, drop_at hi]
    simp only [Int.ofNat_lt, hi, decide_true, branch_true, Int.natCast_nonneg, Bool.and_true, Int.toNat_natCast, guarded_true, wrap_upL (Nat.lt_of_lt_of_le hi hl), sized_all (fun e he => (hq e he).len), getD_lt hi]
    rw [he] at hci ⊢
    simp only [bindE_eq, atK_zero, atK_succ, intK_int, strK_str, boolK_bool, slK_sl]
    exact sz_next hci fun k hk => ih k hk
theorem d_laws_szValueS_of {es : List (List (Leaf false))} (hl : es.length ≤ maxLen) (hq : ∀ e ∈ es, IsValue e) (hd : ∀ e ∈ es, ∀ n : Int, 0 ≤ n → Dn F.laws_szValue [.agg e, vint n] [] = some (vint (szL e n), [])) {n : Int} (hn : 0 ≤ n) :
    Dn F.laws_szValueS [vsl es, vint n] [] = some (vint (szF (.sl fP es) n), []) := by
  apply den_of
  rw [run_laws_szValueS]
  refine sz_len fun hk => ?_
  have := laws_szValueS_from hl hq hd 0 (Nat.zero_le _) _ hk
  simpa using this
theorem d_laws_szValue {ls : List (Leaf false)} (h : IsValue ls) : ∀ {n : Int}, 0 ≤ n → Dn F.laws_szValue [.agg ls, vint n] [] = some (vint (szL ls n), []) := by
  induction h with
  | mk i0 s1 e2 e3 h1 h2 q2 h3 q3 ih2 =>
    intro n hn
    apply den_of
    rw [run_laws_szValue]
    refine sz_int hn ?_
    refine sz_str fun hn => ?_
    refine sz_callS (d_laws_szValueS_of h2 q2 (fun e he n hn => ih2 e he hn) hn) fun k hn => ?_
    refine sz_callS (d_laws_szStringS h3 q3 hn) fun k hn => ?_
    rfl
theorem d_laws_szValueS {es : List (List (Leaf false))} (hl : es.length ≤ maxLen) (hq : ∀ e ∈ es, IsValue e) {n : Int} (hn : 0 ≤ n) : Dn F.laws_szValueS [vsl es, vint n] [] = some (vint (szF (.sl fP es) n), []) := d_laws_szValueS_of hl hq (fun e he n hn => d_laws_szValue (hq e he) hn) hn
theorem laws_szArgS_from {es : List (List (Leaf false))} (hl : es.length ≤ maxLen) (hq : ∀ e ∈ es, IsArg e) (hd : ∀ e ∈ es, ∀ n : Int, 0 ≤ n → Dn F.laws_szArg [.agg e, vint n] [] = some (vint (szL e n), [])) : ∀ i : Nat, i ≤ es.length → ∀ n : Int, 0 ≤ n →
    laws_szArgS_A Dn (laws_szArgS_0 es n i) = some (vint (szE (es.drop i) n), []) := by
  refine upto_ind ?_ ?_
  · intro n hn; rw [laws_szArgS_0_eq]; simp [szE]
  · intro i hi ih n hn
    have hci := hd _ (List.getElem_mem hi) n hn
    obtain ⟨s0, i1, s2, e3, e4, he, h0, h2, h3, q3, h4, q4⟩ := (hq _ (List.getElem_mem hi)).ex
    rw [laws_szArgS_0_eq, drop_at hi]
    simp only [Int.ofNat_lt, hi, decide_true, branch_true, Int.natCast_nonneg, Bool.and_true, Int.toNat_natCast, guarded_true, wrap_upL (Nat.lt_of_lt_of_le hi hl), sized_all (fun e he => (hq e he).len), getD_lt hi]
    rw [he] at hci ⊢
    simp only [bindE_eq, atK_zero, atK_succ, intK_int, strK_str, boolK_bool, slK_sl]
    exact sz_next hci fun k hk => ih k hk
theorem d_laws_szArgS_of {es : List (List (Leaf false))} (hl : es.length ≤ maxLen) (hq : ∀ e ∈ es, IsArg e) (hd : ∀ e ∈ es, ∀ n : Int, 0 ≤ n → Dn F.laws_szArg [.agg e, vint n] [] = some (vint (szL e n), [])) {n : Int} (hn : 0 ≤ n) :
    Dn F.laws_szArgS [vsl es, vint n] [] = some (vint (szF (.sl fP es) n), []) := by
  apply den_of
  rw [run_laws_szArgS]
  refine sz_len fun hk => ?_
  have := laws_szArgS_from hl hq hd 0 (Nat.zero_le _) _ hk
  simpa using this
theorem d_laws_szArg {ls : List (Leaf false)} (h : IsArg ls) : ∀ {n : Int}, 0 ≤ n → Dn F.laws_szArg [.agg ls, vint n] [] = some (vint (szL ls n), []) := by
  cases h with
  | mk s0 i1 s2 e3 e4 h0 h2 h3 q3 h4 q4 =>
    intro n hn
    apply den_of
    rw [run_laws_szArg]
    refine sz_str fun hn => ?_
    refine sz_call (a := [.int .i64 i1, .str s2, .sl fP e3, .sl fP e4]) (d_laws_szValue (.mk _ _ _ _ h2 h3 q3 h4 q4) hn) hn fun k hn => ?_
    rfl
theorem d_laws_szArgS {es : List (List (Leaf false))} (hl : es.length ≤ maxLen) (hq : ∀ e ∈ es, IsArg e) {n : Int} (hn : 0 ≤ n) : Dn F.laws_szArgS [vsl es, vint n] [] = some (vint (szF (.sl fP es) n), []) := d_laws_szArgS_of hl hq (fun e he n hn => d_laws_szArg (hq e he) hn) hn
theorem laws_szDirS_from {es : List (List (Leaf false))} (hl : es.length ≤ maxLen) (hq : ∀ e ∈ es, IsDir e) (hd : ∀ e ∈ es, ∀ n : Int, 0 ≤ n → Dn F.laws_szDir [.agg e, vint n] [] = some (vint (szL e n), [])) : ∀ i : Nat, i ≤ es.length → ∀ n : Int, 0 ≤ n →
    laws_szDirS_A Dn (laws_szDirS_0 es n i) = some (vint (szE (es.drop i) n), []) := by
  refine upto_ind ?_ ?_
  · intro n hn; rw [laws_szDirS_0_eq]; simp [szE]
  · intro i hi ih n hn
    have hci := hd _ (List.getElem_mem hi) n hn
    obtain ⟨s0, e1, he, h0, h1, q1⟩ := (hq _ (List.getElem_mem hi)).ex
    rw [laws_szDirS_0_eq, drop_at hi]
    simp only [Int.ofNat_lt, hi, decide_true, branch_true, Int.natCast_nonneg, Bool.and_true, Int.toNat_natCast, guarded_true, wrap_upL (Nat.lt_of_lt_of_le hi hl), sized_all (fun e he => (hq e he).len), getD_lt hi]
    rw [he] at hci ⊢
    simp only [bindE_eq, atK_zero, atK_succ, intK_int, strK_str, boolK_bool, slK_sl]
    exact sz_next hci fun k hk => ih k hk
theorem d_laws_szDirS_of {es : List (List (Leaf false))} (hl : es.length ≤ maxLen) (hq : ∀ e ∈ es, IsDir e) (hd : ∀ e ∈ es, ∀ n : Int, 0 ≤ n → Dn F.laws_szDir [.agg e, vint n] [] = some (vint (szL e n), [])) {n : Int} (hn : 0 ≤ n) :
    Dn F.laws_szDirS [vsl es, vint n] [] = some (vint (szF (.sl fP es) n), []) := by
  apply den_of
  rw [run_laws_szDirS]
  refine sz_len fun hk => ?_
  have := laws_szDirS_from hl hq hd 0 (Nat.zero_le _) _ hk
  simpa using this
theorem d_laws_szDir {ls : List (Leaf false)} (h : IsDir ls) : ∀ {n : Int}, 0 ≤ n → Dn F.laws_szDir [.agg ls, vint n] [] = some (vint (szL ls n), []) := by
  cases h with
  | mk s0 e1 h0 h1 q1 =>
    intro n hn
    apply den_of
    rw [run_laws_szDir]
    refine sz_str fun hn => ?_
    refine sz_callS (d_laws_szArgS h1 q1 hn) fun k hn => ?_
    rfl
theorem d_laws_szDirS {es : List (List (Leaf false))} (hl : es.length ≤ maxLen) (hq : ∀ e ∈ es, IsDir e) {n : Int} (hn : 0 ≤ n) : Dn F.laws_szDirS [vsl es, vint n] [] = some (vint (szF (.sl fP es) n), []) := d_laws_szDirS_of hl hq (fun e he n hn => d_laws_szDir (hq e he) hn) hn
theorem laws_szInDefS_from {es : List (List (Leaf false))} (hl : es.length ≤ maxLen) (hq : ∀ e ∈ es, IsInDef e) (hd : ∀ e ∈ es, ∀ n : Int, 0 ≤ n → Dn F.laws_szInDef [.agg e, vint n] [] = some (vint (szL e n), [])) : ∀ i : Nat, i ≤ es.length → ∀ n : Int, 0 ≤ n →
    laws_szInDefS_A Dn (laws_szInDefS_0 es n i) = some (vint (szE (es.drop i) n), []) := by
  refine upto_ind ?_ ?_
  · intro n hn; rw [laws_szInDefS_0_eq]; simp [szE]
  · intro i hi ih n hn
    have hci := hd _ (List.getElem_mem hi) n hn
    obtain ⟨s0, s1, s2, s3, b4, i5, s6, e7, e8, e9, he, h0, h1, h2, h3, h6, h7, q7, h8, q8, h9, q9⟩ := (hq _ (List.getElem_mem hi)).ex
    rw [laws_szInDefS_0_eq, drop_at hi]
    simp only [Int.ofNat_lt, hi, decide_true, branch_true, Int.natCast_nonneg, Bool.and_true, Int.toNat_natCast, guarded_true, wrap_upL (Nat.lt_of_lt_of_le hi hl), sized_all (fun e he => (hq e he).len), getD_lt hi]
    rw [he] at hci ⊢
    simp only [bindE_eq, atK_zero, atK_succ, intK_int, strK_str, boolK_bool, slK_sl]
    exact sz_next hci fun k hk => ih k hk
theorem d_laws_szInDefS_of {es : List (List (Leaf false))} (hl : es.length ≤ maxLen) (hq : ∀ e ∈ es, IsInDef e) (hd : ∀ e ∈ es, ∀ n : Int, 0 ≤ n → Dn F.laws_szInDef [.agg e, vint n] [] = some (vint (szL e n), [])) {n : Int} (hn : 0 ≤ n) :
    Dn F.laws_szInDefS [vsl es, vint n] [] = some (vint (szF (.sl fP es) n), []) := by
  apply den_of
  rw [run_laws_szInDefS]
  refine sz_len fun hk => ?_
  have := laws_szInDefS_from hl hq hd 0 (Nat.zero_le _) _ hk
  simpa using this
theorem d_laws_szInDef {ls : List (Leaf false)} (h : IsInDef ls) : ∀ {n : Int}, 0 ≤ n → Dn F.laws_szInDef [.agg ls, vint n] [] = some (vint (szL ls n), []) := by
  cases h with
  | mk s0 s1 s2 s3 b4 i5 s6 e7 e8 e9 h0 h1 h2 h3 h6 h7 q7 h8 q8 h9 q9 =>
    intro n hn
    apply den_of
    rw [run_laws_szInDef]
    refine sz_str fun hn => ?_
    refine sz_str fun hn => ?_
    refine sz_call (a := [.str s2, .str s3]) (d_laws_szType (.mk _ _ h2 h3) hn) hn fun k hn => ?_
    refine sz_bool hn ?_
    refine sz_call (a := [.int .i64 i5, .str s6, .sl fP e7, .sl fP e8]) (d_laws_szValue (.mk _ _ _ _ h6 h7 q7 h8 q8) hn) hn fun k hn => ?_
    refine sz_callS (d_laws_szDirS h9 q9 hn) fun k hn => ?_
    rfl
theorem d_laws_szInDefS {es : List (List (Leaf false))} (hl : es.length ≤ maxLen) (hq : ∀ e ∈ es, IsInDef e) {n : Int} (hn : 0 ≤ n) : Dn F.laws_szInDefS [vsl es, vint n] [] = some (vint (szF (.sl fP es) n), []) := d_laws_szInDefS_of hl hq (fun e he n hn => d_laws_szInDef (hq e he) hn) hn

end Go.Vs
end
section
open Go Go.Vs Go.Proofs
set_option linter.unusedVariables false
set_option linter.unusedSimpArgs false
namespace Go.Vs
noncomputable def mkChange (k : Int) : List (Leaf false) := [.int .i64 (k), .str (mtx (IntKind.i64.wrap (k + 1))), .str (mtx (IntKind.i64.wrap (IntKind.i64.wrap (k + 1) + 1)))]
def nextChange (k : Int) : Int := IntKind.i64.wrap (IntKind.i64.wrap (IntKind.i64.wrap (k + 1) + 1) + 1)
noncomputable def rowChange : Nat → Int → List (List (Leaf false))
  | 0, _ => []
  | n + 1, k => mkChange k :: rowChange n (nextChange k)
def endChange : Nat → Int → Int
  | 0, k => k
  | n + 1, k => endChange n (nextChange k)
theorem endChange_succ : ∀ (n : Nat) (k : Int), endChange (n + 1) k = nextChange (endChange n k)
  | 0, _ => rfl
  | n + 1, k => endChange_succ n (nextChange k)
theorem rowChange_length : ∀ (n : Nat) (k : Int), (rowChange n k).length = n
  | 0, _ => rfl
  | n + 1, k => by rw [rowChange, List.length_cons, rowChange_length n]
theorem rowChange_all : ∀ (n : Nat) (k : Int), ∀ e ∈ rowChange n k, e.length = 3
  | 0, _, e, h => by simp [rowChange] at h
  | n + 1, k, e, h => by
    rcases List.mem_cons.1 h with rfl | h
    · rfl
    · exact rowChange_all n _ e h
theorem rowChange_get : ∀ (n : Nat) (k : Int) (i : Nat) (h : i < (rowChange n k).length), (rowChange n k)[i] = mkChange (endChange i k)
  | 0, _, i, h => by simp [rowChange] at h
  | n + 1, k, 0, h => rfl
  | n + 1, k, i + 1, h => rowChange_get n (nextChange k) i (by simpa [rowChange] using h)
theorem laws_markChangeS_from {n : Nat} {k : Int} (hl : n ≤ maxLen) : ∀ i : Nat, i ≤ n → ∀ z : List (SV false), z.all SV.flat = true → (n - i) * 3 ≤ z.length →
    laws_markChangeS_r0_A Dn (laws_markChangeS_r0_0 n (endChange i k) i (rowAt (rowChange n k) i z)) = some (vint (endChange n k), [rowAt (rowChange n k) n (z.drop ((n - i) * 3))]) := by
  have hN := rowChange_length n k
  have hall := rowChange_all n k
  refine upto_ind ?_ ?_
  · intro z hz hzl
    rw [laws_markChangeS_r0_0_eq]
    have hf := rowAt_flat (l := rowChange n k) (i := n) hz
    simp [hf]
  · intro i hi ih z hz hzl
    have hlen := rowAt_len (z := z) hall (i := i) (by omega)
    have hp := putAt_row (z := z) hall (i := i) (by omega)
    rw [rowChange_get] at hp
    simp only [mkChange, List.map_cons, List.map_nil] at hp
    have hd : (n - i) * 3 = (n - (i + 1)) * 3 + 3 := by rw [← Nat.succ_mul]; congr 1; omega
    rw [laws_markChangeS_r0_0_eq]
    simp only [Int.ofNat_lt, hi, decide_true, branch_true, Int.natCast_nonneg, Bool.and_true, guarded_true, wrap_upL (Nat.lt_of_lt_of_le hi hl), List.getElem_toArray, List.getElem_cons_zero, List.getElem_cons_succ, Nat.zero_add, Nat.add_zero, Int.toNat_natCast, d_markText, Option.bind_some, svLeafK_leaf, strK_str]
    have b0 : i * 3 + 1 ≤ (rowAt (rowChange n k) i z).length := by rw [hlen]; omega
    simp only [b0, decide_true, guarded_true]
    have b1 : ∀ l : List (SV false), l.length = 1 → i * 3 + 1 + 1 ≤ (putAt (rowAt (rowChange n k) i z) (i * 3) l).length := fun l hl0 => by rw [putAt_length (by rw [hl0, hlen]; omega), hlen]; omega
    have j1 : ∀ (l : List (SV false)) (x : SV false), l.length = 1 → putAt (putAt (rowAt (rowChange n k) i z) (i * 3) l) (i * 3 + 1) [x] = putAt (rowAt (rowChange n k) i z) (i * 3) (l ++ [x]) := fun l x hl0 => putAt_two (by rw [hl0]) (by rw [hl0, hlen]; simp; omega)
    have b2 : ∀ l : List (SV false), l.length = 2 → i * 3 + 2 + 1 ≤ (putAt (rowAt (rowChange n k) i z) (i * 3) l).length := fun l hl0 => by rw [putAt_length (by rw [hl0, hlen]; omega), hlen]; omega
    have j2 : ∀ (l : List (SV false)) (x : SV false), l.length = 2 → putAt (putAt (rowAt (rowChange n k) i z) (i * 3) l) (i * 3 + 2) [x] = putAt (rowAt (rowChange n k) i z) (i * 3) (l ++ [x]) := fun l x hl0 => putAt_two (by rw [hl0]) (by rw [hl0, hlen]; simp; omega)
    rw [decide_eq_true (b1 _ rfl), guarded_true, j1 _ _ rfl]
    simp only [List.cons_append, List.nil_append]
    rw [decide_eq_true (b2 _ rfl), guarded_true, j2 _ _ rfl]
    simp only [List.cons_append, List.nil_append]
    rw [hp]
    have hz2 : (z.drop 3).all SV.flat = true := List.all_eq_true.2 fun x hx => List.all_eq_true.1 hz x (List.mem_of_mem_drop hx)
    have := ih (z.drop 3) hz2 (by rw [List.length_drop]; omega)
    rw [endChange_succ] at this
    simp only [nextChange] at this
    rw [this, List.drop_drop, hd, Nat.add_comm 3]
theorem d_laws_markChangeS_r {n : Nat} {k : Int} (hl : n ≤ maxLen) {z : List (SV false)} (hz : z.all SV.flat = true) (hzl : n * 3 ≤ z.length) :
    Dn F.laws_markChangeS [.bsl 0 3 0 n, vint k] [z] = some (vint (endChange n k), [rowAt (rowChange n k) n (z.drop (n * 3))]) := by
  apply den_of
  rw [run_laws_markChangeS_r0]
  have := laws_markChangeS_from (n := n) (k := k) hl 0 (Nat.zero_le _) z hz (by simpa using hzl)
  simpa [rowAt, endChange] using this
theorem laws_heldChangeS_from {n : Nat} {k : Int} (hl : n ≤ maxLen) {z : List (SV false)} (hz : z.all SV.flat = true) : ∀ i : Nat, i ≤ n →
    laws_heldChangeS_r0_A Dn (laws_heldChangeS_r0_0 n (endChange i k) i (rowAt (rowChange n k) n z)) = some (vint (endChange n k), [rowAt (rowChange n k) n z]) := by
  have hN := rowChange_length n k
  have hall := rowChange_all n k
  have hf := rowAt_flat (l := rowChange n k) (i := n) hz
  refine upto_ind ?_ ?_
  · rw [laws_heldChangeS_r0_0_eq]
    simp [hf]
  · intro i hi ih
    have hi' : i < (rowChange n k).length := by omega
    rw [endChange_succ] at ih
    simp only [nextChange] at ih
    rw [laws_heldChangeS_r0_0_eq]
    simp only [Int.ofNat_lt, hi, decide_true, branch_true, Int.natCast_nonneg, Bool.and_true, guarded_true, wrap_upL (Nat.lt_of_lt_of_le hi hl), List.getElem_toArray, List.getElem_cons_zero, List.getElem_cons_succ, Nat.zero_add, Nat.add_zero, Int.toNat_natCast, d_markText, Option.bind_some, svLeafK_leaf, strK_str]
    have get : ∀ (o p : Nat) (ho : o < 3) (hp : p = i * 3 + o) (kk : SV false → Res), atSV (rowAt (rowChange n k) n z) p kk = kk (.leaf ((mkChange (endChange i k))[o]'ho)) := fun o p ho hp kk => by
      have := atSV_row (r := z) hall hi' ho hp kk
      rw [hN] at this
      rw [this]
      simp only [rowChange_get]
      try rfl
    rw [get 0 _ (by omega) (by omega)]
    simp only [mkChange, List.getElem_cons_zero, List.getElem_cons_succ, SV.drop, svLeafK_leaf, intK_int, strK_str, bne_self_eq_false, beq_self_eq_true, Bool.not_true, branch_false]
    rw [get 1 _ (by omega) (by omega)]
    simp only [mkChange, List.getElem_cons_zero, List.getElem_cons_succ, SV.drop, svLeafK_leaf, intK_int, strK_str, bne_self_eq_false, beq_self_eq_true, Bool.not_true, branch_false]
    rw [get 2 _ (by omega) (by omega)]
    simp only [mkChange, List.getElem_cons_zero, List.getElem_cons_succ, SV.drop, svLeafK_leaf, intK_int, strK_str, bne_self_eq_false, beq_self_eq_true, Bool.not_true, branch_false]
    exact ih
theorem d_laws_heldChangeS_r {n : Nat} {k : Int} (hl : n ≤ maxLen) {z : List (SV false)} (hz : z.all SV.flat = true) :
    Dn F.laws_heldChangeS [.bsl 0 3 0 n, vint k] [rowAt (rowChange n k) n z] = some (vint (endChange n k), [rowAt (rowChange n k) n z]) := by
  apply den_of
  rw [run_laws_heldChangeS_r0]
  have := laws_heldChangeS_from (n := n) (k := k) hl hz 0 (Nat.zero_le _)
  simpa [endChange] using this
theorem d_laws_markChangeS_nil (k : Int) : Dn F.laws_markChangeS [vsl [], vint k] [] = some (vint k, []) := by
  apply den_of
  rw [run_laws_markChangeS, laws_markChangeS_0_eq]
  simp
theorem d_laws_heldChangeS_nil (k : Int) : Dn F.laws_heldChangeS [vsl [], vint k] [] = some (vint k, []) := by
  apply den_of
  rw [run_laws_heldChangeS, laws_heldChangeS_0_eq]
  simp

end Go.Vs
end
section
open Go Go.Vs Go.Proofs
set_option linter.unusedVariables false
set_option linter.unusedSimpArgs false
set_option maxRecDepth 100000
namespace Go.Vs
theorem hP : Try.prog.follows .mixedOrders = true := by kernel_rfl
theorem hG : Try.prog.funcs.all (fun fn => !(fn.name == "runtime.NumGoroutine")) = true := by kernel_rfl
theorem dn_sound : DSound Try.prog Dn := den_sound hP hG tsound_none Hs
theorem dd_sound : DSound Try.prog Dd := den_sound hP hG (liftT_sound dn_sound keep) Hs
section
variable {o : ByteArray} {a b w : List (List (Leaf false))} {c c' : Fl true}
theorem t_szInDefS (hl : a.length ≤ maxLen) (hq : ∀ e ∈ a, IsInDef e) {n : Int} (hn : 0 ≤ n) : Dd F.laws_szInDefS [.leaf (.sl c (reE (fl c) a)), .leaf (.int .i64 n)] [] = some (.leaf (.int .i64 (szF (.sl fP a) n)), []) :=
  dd_told rfl (d_laws_szInDefS hl hq hn) (by rw [List.map_cons, reS_sl]; rfl) rfl rfl
theorem t_spec_InChanges (ha : a.length ≤ 1048576) (hb : b.length ≤ 1048576) (qa : ∀ e ∈ a, IsInDef e) (qb : ∀ e ∈ b, IsInDef e) : Dd F.spec_InChanges [.leaf (.str o), .leaf (.sl c (reE (fl c) a)), .leaf (.sl c' (reE (fl c') b))] [] = some (.own (some T.impl_Change) (reE (fl fOld) (inCh o a b)), []) :=
  dd_told rfl (d_spec_InChanges ha hb qa qb) (by rw [List.map_cons, List.map_cons, List.map_cons, reS_sl, reS_sl]; rfl) rfl rfl
theorem t_eqChangeS (hl : w.length ≤ maxLen) (hq : ∀ e ∈ w, IsChange e) : Dd F.laws_eqChangeS [.leaf (.sl c (reE (fl c) w)), .leaf (.sl c' (reE (fl c') w))] [] = some (.leaf (.bool true), []) :=
  dd_told rfl (d_laws_eqChangeS hl hq) (by rw [List.map_cons, List.map_cons, reS_sl, reS_sl]; rfl) rfl rfl
theorem t_eqInDefS (hl : a.length ≤ maxLen) (hq : ∀ e ∈ a, IsInDef e) : Dd F.laws_eqInDefS [.leaf (.sl c (reE (fl c) a)), .leaf (.sl c' (reE (fl c') a))] [] = some (.leaf (.bool true), []) :=
  dd_told rfl (d_laws_eqInDefS hl hq) (by rw [List.map_cons, List.map_cons, reS_sl, reS_sl]; rfl) rfl rfl
theorem reS_er_li {x : SV false} (h : x.flat = true) : reS er (reS li x) = x := by
  have e : ∀ es : List (List (Leaf false)), reE er (reE li es) = es := fun es => reE_er fOld es
  cases x <;> simp [SV.flat] at h <;> simp only [reS]
  · rw [show reF er (reF li _) = _ from reF_er fOld _]
  · rw [e]
  · rw [show reL er (reL li _) = _ from reL_er fOld _]
theorem map_er_li : ∀ {l : List (SV false)}, l.all SV.flat = true → (l.map (reS li)).map (reS er) = l
  | [], _ => rfl
  | x :: l, h => by
    rw [List.all_cons, Bool.and_eq_true] at h
    rw [List.map_cons, List.map_cons, reS_er_li h.1, map_er_li h.2]
theorem map_flat {l : List (SV false)} (h : l.all SV.flat = true) : (l.map (reS li)).all SV.flat = true := by
  rw [List.all_map]
  exact List.all_eq_true.2 fun x hx => reS_flat x (List.all_eq_true.1 h x hx)
/-- A row that has been marked. -/
noncomputable def marked (n k : Nat) : List (SV false) := rowAt (rowChange n 1) n ((List.replicate k SV.any).drop (n * 3))
theorem any_flat (k : Nat) : (List.replicate k (SV.any (m := false))).all SV.flat = true := by
  rw [List.all_eq_true]; intro x hx; rw [List.eq_of_mem_replicate hx]; rfl
theorem drop_flat {l : List (SV false)} (h : l.all SV.flat = true) (n : Nat) : (l.drop n).all SV.flat = true :=
  List.all_eq_true.2 fun x hx => List.all_eq_true.1 h x (List.mem_of_mem_drop hx)
theorem marked_flat (n k : Nat) : (marked n k).all SV.flat = true := rowAt_flat (drop_flat (any_flat k) _)
theorem t_markChangeS_r {n k : Nat} (hl : n ≤ maxLen) (hk : n * 3 ≤ k) : Dd F.laws_markChangeS [.bsl 0 3 0 n, .leaf (.int .i64 1)] [List.replicate k .any] = some (.leaf (.int .i64 (endChange n 1)), [(marked n k).map (reS li)]) :=
  dd_told rfl (d_laws_markChangeS_r (k := 1) hl (any_flat k) (by rw [List.length_replicate]; exact hk)) rfl (by rw [List.map_cons, List.map_replicate]; rfl) rfl
theorem t_heldChangeS_r {n k : Nat} (hl : n ≤ maxLen) : Dd F.laws_heldChangeS [.bsl 0 3 0 n, .leaf (.int .i64 1)] [(marked n k).map (reS li)] = some (.leaf (.int .i64 (endChange n 1)), [(marked n k).map (reS li)]) :=
  dd_told rfl (d_laws_heldChangeS_r (k := 1) hl (drop_flat (any_flat k) _)) rfl (by rw [List.map_cons, map_er_li (marked_flat n k)]; rfl) rfl
theorem t_markChangeS_nil {k : Int} : Dd F.laws_markChangeS [.leaf (.sl c []), .leaf (.int .i64 k)] [] = some (.leaf (.int .i64 k), []) :=
  dd_told rfl (d_laws_markChangeS_nil k) (by simp [reS, reF, reE]) rfl rfl
theorem t_heldChangeS_nil {k : Int} : Dd F.laws_heldChangeS [.leaf (.sl c []), .leaf (.int .i64 k)] [] = some (.leaf (.int .i64 k), []) :=
  dd_told rfl (d_laws_heldChangeS_nil k) (by simp [reS, reF, reE]) rfl rfl
theorem endChange_le : ∀ (n : Nat) (k : Int), 0 ≤ k → k + 3 * n ≤ cap → 0 ≤ endChange n k
  | 0, k, h, _ => h
  | n + 1, k, h, hc => by
    rw [endChange]
    have e : nextChange k = k + 3 := by
      unfold nextChange
      simp only [cap] at hc
      rw [wrap64 (z := k + 1) (by omega) (by omega), wrap64 (z := k + 1 + 1) (by omega) (by omega), wrap64 (z := k + 1 + 1 + 1) (by omega) (by omega)]; omega
    rw [e]
    exact endChange_le n _ (by omega) (by omega)
end
end Go.Vs
end
section
open Go Go.Vs Go.Proofs
set_option linter.unusedVariables false
set_option linter.unusedSimpArgs false
set_option maxRecDepth 100000
namespace Go.Vs
noncomputable abbrev body : Code := bodyOf Try.prog F.laws_FnExactInChanges
theorem hc0 : (fnOf Try.prog F.laws_FnExactInChanges).body = some body := by kernel_rfl
theorem hfn : Try.prog.funcs[F.laws_FnExactInChanges]? = some (fnOf Try.prog F.laws_FnExactInChanges) := by kernel_rfl
theorem sp8 : spine (0 + (7 + 1)) body = true := by kernel_rfl
theorem sp10 : spine (8 + (1 + 1)) body = true := by kernel_rfl
theorem sp14 : spine (10 + (3 + 1)) body = true := by kernel_rfl
theorem sp18 : spine (14 + (3 + 1)) body = true := by kernel_rfl
theorem nl18 : noLoop (sub body (way 18)) = true := by kernel_rfl
section
variable {o : ByteArray} {a b : List (List (Leaf false))}
/-- Handed in so that the law looks at it. -/
structure Fits (o : ByteArray) (a b : List (List (Leaf false))) : Prop where
  ha : a.length + tE a ≤ 1048576
  hb : b.length + tE b ≤ 1048576
  qa : ∀ e ∈ a, IsInDef e
  qb : ∀ e ∈ b, IsInDef e
theorem row_eq (o : ByteArray) (c1 : Fl true) (e1 : List (List (Leaf true))) (c2 : Fl true) (e2 : List (List (Leaf true))) (c8 : Fl true) (e8 : List (List (Leaf true))) (c11 : Fl true) (e11 : List (List (Leaf true))) (n k : Nat) :
    rowSt (Vs.turn φ4 (fun _ => false) [11] (laws_FnExactInChanges_s4 o c1 e1 c2 e2 c8 e8 c11 e11)) 11 3 n k =
      laws_FnExactInChanges_s4r o (φ4 c1) (tuE φ4 (fun _ => false) false e1) (φ4 c2) (tuE φ4 (fun _ => false) false e2) (φ4 c8) (tuE φ4 (fun _ => false) false e8) n (List.replicate k .any) := by
  kernel_rfl
def e0 (o : ByteArray) (c1 : Fl true) (e1 : List (List (Leaf true))) (c2 : Fl true) (e2 : List (List (Leaf true))) (e8 : List (List (Leaf true))) : St true :=
  { tmps := (laws_FnExactInChanges_s1 o c1 e1 c2 e2 fNew e8).tmps.set 8 (.own (some T.impl_Change) e8), boxes := (laws_FnExactInChanges_s1 o c1 e1 c2 e2 fNew e8).boxes }
theorem turn1_eq (o : ByteArray) (c1 : Fl true) (e1 : List (List (Leaf true))) (c2 : Fl true) (e2 : List (List (Leaf true))) (e8 : List (List (Leaf true))) :
    Vs.turn φ1 (fun _ => false) [] (e0 o c1 e1 c2 e2 e8) = laws_FnExactInChanges_s1 o (φ1 c1) (tuE φ1 (fun _ => false) false e1) (φ1 c2) (tuE φ1 (fun _ => false) false e2) (φ1 fNew) (tuE φ1 (fun _ => false) false e8) := by
  kernel_rfl
theorem turn2_eq (o : ByteArray) (c1 : Fl true) (e1 : List (List (Leaf true))) (c2 : Fl true) (e2 : List (List (Leaf true))) (c8 : Fl true) (e8 : List (List (Leaf true))) (c9 : Fl true) (e9 : List (List (Leaf true))) (c10 : Fl true) (e10 : List (List (Leaf true))) :
    Vs.turn φ2 (fun _ => false) [] (laws_FnExactInChanges_s2 o c1 e1 c2 e2 c8 e8 c9 e9 c10 e10) =
      laws_FnExactInChanges_s2 o (φ2 c1) (tuE φ2 (fun _ => false) false e1) (φ2 c2) (tuE φ2 (fun _ => false) false e2) (φ2 c8) (tuE φ2 (fun _ => false) false e8) (φ2 c9) (tuE φ2 (fun _ => false) false e9) (φ2 c10) (tuE φ2 (fun _ => false) false e10) := by
  kernel_rfl
theorem turn3_eq (o : ByteArray) (c1 : Fl true) (e1 : List (List (Leaf true))) (c2 : Fl true) (e2 : List (List (Leaf true))) (c8 : Fl true) (e8 : List (List (Leaf true))) (c9 : Fl true) (e9 : List (List (Leaf true))) (c10 : Fl true) (e10 : List (List (Leaf true))) (c11 : Fl true) (e11 : List (List (Leaf true))) :
    Vs.turn φ3 σ3 [] (laws_FnExactInChanges_s3 o c1 e1 c2 e2 c8 e8 c9 e9 c10 e10 c11 e11) =
      laws_FnExactInChanges_s3 o (if σ3 c1 then fSoft else φ3 c1) (tuE φ3 σ3 (σ3 c1) e1) (if σ3 c2 then fSoft else φ3 c2) (tuE φ3 σ3 (σ3 c2) e2) (if σ3 c8 then fSoft else φ3 c8) (tuE φ3 σ3 (σ3 c8) e8) (if σ3 c9 then fSoft else φ3 c9) (tuE φ3 σ3 (σ3 c9) e9) (if σ3 c10 then fSoft else φ3 c10) (tuE φ3 σ3 (σ3 c10) e10) (if σ3 c11 then fSoft else φ3 c11) (tuE φ3 σ3 (σ3 c11) e11) := by
  kernel_rfl
theorem Fits.w (h : Fits o a b) : (inCh o a b).length ≤ 4194304 ∧ (inCh o a b).length ≤ maxLen := by
  have h1 := flatMap_len (fun x => perA_len o b x) a
  have h2 := flatMap_len (fun x => perB_len o a x) b
  have hl : (inCh o a b).length = (a.flatMap (perA o b)).length + (b.flatMap (perB o a)).length := by unfold inCh; rw [List.length_append]
  have := h.ha
  have := h.hb
  have hm : (4194304 : Nat) ≤ maxLen := by decide
  omega
theorem Fits.la (h : Fits o a b) : a.length ≤ 1048576 ∧ a.length ≤ maxLen := by
  have := h.ha
  have hm : (1048576 : Nat) ≤ maxLen := by decide
  omega
theorem Fits.lb (h : Fits o a b) : b.length ≤ 1048576 ∧ b.length ≤ maxLen := by
  have := h.hb
  have hm : (1048576 : Nat) ≤ maxLen := by decide
  omega
/-- The end. -/
theorem law_c4 (h : Fits o a b) {W w : World} {act : Act} {A B : Nat} {w0 : World} {hB0 : B ≤ w0.heap.size} {Fx : Fr} {Ow : Own} {bm : Nat → Nat} (hA : W.heap.size ≤ A) (hAB : A ≤ B) (hB : B ≤ w.heap.size)
    (on : OnWay Try.prog (fnOf Try.prog F.laws_FnExactInChanges) W (N3 w0 A B hB0) (laws_FnExactInChanges_s4 o tA (reE (fl tA) a) tA (reE (fl tA) b) tA (reE (fl tA) (inCh o a b)) tG (reE (fl tG) (inCh o a b))) act w Fx Ow bm) :
    (sub body (way 18)).wp Try.prog (bodyPost Try.prog (fnOf Try.prog F.laws_FnExactInChanges) (Good W)) act w := by
  have toA := fun (c : Fl true) => t_laws_toInDefS (c := c) h.ha h.qa
  have toB := fun (c : Fl true) => t_laws_toInDefS (c := c) h.hb h.qb
  have im := fun (c c' : Fl true) => t_impl_InChanges (o := o) (c := c) (c' := c') h.la.1 h.lb.1 h.qa h.qb
  have eqw := fun (c c' : Fl true) => t_eqChangeS (c := c) (c' := c') h.w.2 (chg_all (o := o) (a := a) (b := b))
  by_cases hw : inCh o a b = []
  · have eqw0 := eqw
    have im0 := im
    rw [hw] at on
    simp only [hw, reE] at eqw0 im0
    refine stretch_last (H := Hs) hP dd_sound hfn hc0 sp18 nl18 on fun J => ?_
    simp only [reE]
    rw [laws_FnExactInChanges_c4]
    simp -implicitDefEqProofs only [t_markChangeS_nil, t_heldChangeS_nil, Option.bind_some, svLeafK_leaf, intK_int, boolK_bool, svSlK_leaf, toA, toB, im0, eqw0, show decide ((1 : Int) < 0) = false from rfl, branch_false, bne_self_eq_false, Bool.not_true, lastB_nil]
  · have hpos : 0 < (inCh o a b).length := List.length_pos_iff.2 hw
    have hez : ∀ e ∈ reE (fl tG) (inCh o a b), e.length = 3 := reE_all fun e he => (chg_all e he).len
    obtain ⟨k, F', Ow', bm', hk, on'⟩ := turn4 on hA hB hAB [11] (t := 11) (of_decide_eq_true (by kernel_rfl)) (of_decide_eq_true (by kernel_rfl)) (es := reE (fl tG) (inCh o a b)) (z := 3) rfl (by rw [reE_length]; exact hpos) hez (by
      simp [slotsOk, slotOk, laws_FnExactInChanges_s4, allF, allE_re (p := p4) (c := tA) rfl, show p4 tA = true from rfl])
    rw [row_eq, tuE_fl (φ := φ4) (σ := fun _ => false) (c := tA) rfl, tuE_fl (φ := φ4) (σ := fun _ => false) (c := tA) rfl, tuE_fl (φ := φ4) (σ := fun _ => false) (c := tA) rfl, reE_length] at on'
    rw [reE_length] at hk
    refine stretch_last (H := Hs) hP dd_sound hfn hc0 sp18 nl18 on' fun J => ?_
    have hm := t_markChangeS_r (k := k) h.w.2 hk
    have hd := t_heldChangeS_r (n := (inCh o a b).length) (k := k) h.w.2
    have hf1 : ([List.replicate k (SV.any (m := true))].all fun (x : List (SV true)) => x.all SV.flat) = true := by
      simp only [List.all_cons, List.all_nil, Bool.and_true]
      rw [List.all_eq_true]; intro x hx; rw [List.eq_of_mem_replicate hx]; rfl
    have hf2 : ([(marked (inCh o a b).length k).map (reS li)].all fun (x : List (SV true)) => x.all SV.flat) = true := by
      simp only [List.all_cons, List.all_nil, Bool.and_true]
      exact map_flat (marked_flat _ _)
    have he : ¬ endChange (inCh o a b).length 1 < 0 := by
      have := endChange_le (inCh o a b).length 1 (by omega) (by have := h.w.1; simp only [cap]; omega)
      omega
    rw [laws_FnExactInChanges_c4r]
    simp -implicitDefEqProofs only [hf1, guarded_true, hm, hd, Option.bind_some, headB_cons, lastB_nil, svLeafK_leaf, intK_int, boolK_bool, svSlK_leaf, hf2, toA, toB, im, eqw, he, decide_false, branch_false, bne_self_eq_false, Bool.not_true, φ4]
/-- The marks. -/
theorem law_c3 (h : Fits o a b) {W w : World} {act : Act} {A B : Nat} {Fx : Fr} {Ow : Own} {bm : Nat → Nat} (hA : W.heap.size ≤ A) (hAB : A ≤ B) (hB : B ≤ w.heap.size)
    (on : OnWay Try.prog (fnOf Try.prog F.laws_FnExactInChanges) W (N2 A B) (laws_FnExactInChanges_s3 o tA (reE (fl tA) a) tA (reE (fl tA) b) tA (reE (fl tA) (inCh o a b)) tX (reE (fl tX) a) tX (reE (fl tX) b) fNew (reE (fl fNew) (inCh o a b))) act w Fx Ow bm) :
    (sub body (way 14)).wp Try.prog (bodyPost Try.prog (fnOf Try.prog F.laws_FnExactInChanges) (Good W)) act w := by
  have on' := turn3 on hA hB hAB [] (by simp [slotsOk, slotOk, laws_FnExactInChanges_s3, allF, allE_re (p := p3) (c := tA) rfl, allE_re (p := p3) (c := tX) rfl, allE_re (p := p3) (c := fNew) rfl, show p3 tA = true from rfl, show p3 tX = true from rfl, show p3 fNew = true from rfl])
  rw [turn3_eq] at on'
  simp only [show σ3 tA = false from rfl, show σ3 tX = true from rfl, show σ3 fNew = false from rfl, tuE_fl (φ := φ3) (σ := σ3) (c := tA) rfl, tuE_fl (φ := φ3) (σ := σ3) (c := fNew) rfl, tuE_so (φ := φ3) (σ := σ3) (c := tX) rfl, Bool.false_eq_true, if_false, if_true, show φ3 tA = tA from rfl, show φ3 fNew = tG from rfl] at on'
  have eqw := fun (c c' : Fl true) => t_eqChangeS (c := c) (c' := c') h.w.2 (chg_all (o := o) (a := a) (b := b))
  have oka : okE 16 a := okE_of fun e he => ⟨by have := (h.qa e he).len; omega, (h.qa e he).ok⟩
  have okb : okE 16 b := okE_of fun e he => ⟨by have := (h.qb e he).len; omega, (h.qb e he).ok⟩
  have ma := fun (k : Int) => t_laws_markInDefS h.la.2 h.qa k
  have mb := fun (k : Int) => t_laws_markInDefS h.lb.2 h.qb k
  have hk1 := mkE_t a 1 oka (by omega) (by have := h.ha; simp only [cap]; omega)
  have hk2 := mkE_t b (mkE a 1) okb (by omega) (by have := h.ha; have := h.hb; simp only [cap]; omega)
  have hn : ¬ mkE b (mkE a 1) < 0 := by omega
  refine stretch (H := Hs) (s1 := laws_FnExactInChanges_s4 o tA (reE (fl tA) a) tA (reE (fl tA) b) tA (reE (fl tA) (inCh o a b)) tG (reE (fl tG) (inCh o a b))) hP dd_sound hfn hc0 sp18 on' (fun J => ?_) fun a' w' F' Ow' bm' on2 far => ?_
  · rw [laws_FnExactInChanges_c3]
    simp -implicitDefEqProofs only [ma, mb, Option.bind_some, svLeafK_leaf, intK_int, boolK_bool, hn, decide_false, beq_self_eq_true, branch_true, eqw, Bool.not_true, branch_false]
    rfl
  · exact law_c4 h hA hAB (Nat.le_trans hB far.size) on2
/-- The answer. -/
theorem law_c2 (h : Fits o a b) {W w : World} {act : Act} {A : Nat} {Fx : Fr} {Ow : Own} {bm : Nat → Nat} (hA : W.heap.size ≤ A) (hB : A ≤ w.heap.size)
    (on : OnWay Try.prog (fnOf Try.prog F.laws_FnExactInChanges) W (N1 A) (laws_FnExactInChanges_s2 o tA (reE (fl tA) a) tA (reE (fl tA) b) tA (reE (fl tA) (inCh o a b)) fNew (reE (fl fNew) a) fNew (reE (fl fNew) b)) act w Fx Ow bm) :
    (sub body (way 10)).wp Try.prog (bodyPost Try.prog (fnOf Try.prog F.laws_FnExactInChanges) (Good W)) act w := by
  have on' := turn2 on [] (by simp [slotsOk, slotOk, laws_FnExactInChanges_s2, allF, allE_re (p := p2) (c := tA) rfl, allE_re (p := p2) (c := fNew) rfl, show p2 tA = true from rfl, show p2 fNew = true from rfl])
  rw [turn2_eq] at on'
  simp only [tuE_fl (φ := φ2) (σ := fun _ => false) (c := tA) rfl, tuE_fl (φ := φ2) (σ := fun _ => false) (c := fNew) rfl, show φ2 tA = tA from rfl, show φ2 fNew = tX from rfl] at on'
  have toA := fun (c : Fl true) => t_laws_toInDefS (c := c) h.ha h.qa
  have toB := fun (c : Fl true) => t_laws_toInDefS (c := c) h.hb h.qb
  have im := fun (c c' : Fl true) => t_impl_InChanges (o := o) (c := c) (c' := c') h.la.1 h.lb.1 h.qa h.qb
  have eqw := fun (c c' : Fl true) => t_eqChangeS (c := c) (c' := c') h.w.2 (chg_all (o := o) (a := a) (b := b))
  have eqa := fun (c c' : Fl true) => t_eqInDefS (c := c) (c' := c') h.la.2 h.qa
  have eqb := fun (c c' : Fl true) => t_eqInDefS (c := c) (c' := c') h.lb.2 h.qb
  refine stretch (H := Hs) (s1 := laws_FnExactInChanges_s3 o tA (reE (fl tA) a) tA (reE (fl tA) b) tA (reE (fl tA) (inCh o a b)) tX (reE (fl tX) a) tX (reE (fl tX) b) fNew (reE (fl fNew) (inCh o a b))) hP dd_sound hfn hc0 sp14 on' (fun J => ?_) fun a' w' F' Ow' bm' on2 far => ?_
  · rw [laws_FnExactInChanges_c2]
    simp -implicitDefEqProofs only [toA, toB, im, eqa, eqb, Option.bind_some, svLeafK_leaf, svSlK_leaf, intK_int, boolK_bool, eqw, Bool.not_true, branch_false]
    rfl
  · exact law_c3 h hA hB far.size on2
/-- The copies. -/
theorem law_c1 (h : Fits o a b) {W w : World} {act : Act} {A : Nat} {Fx : Fr} {Ow : Own} {bm : Nat → Nat} (hA : W.heap.size ≤ A) (hB : A ≤ w.heap.size)
    (on : OnWay Try.prog (fnOf Try.prog F.laws_FnExactInChanges) W (N1 A) (laws_FnExactInChanges_s1 o tA (reE (fl tA) a) tA (reE (fl tA) b) tA (reE (fl tA) (inCh o a b))) act w Fx Ow bm) :
    (sub body (way 8)).wp Try.prog (bodyPost Try.prog (fnOf Try.prog F.laws_FnExactInChanges) (Good W)) act w := by
  have toA := fun (c : Fl true) => t_laws_toInDefS (c := c) h.ha h.qa
  have toB := fun (c : Fl true) => t_laws_toInDefS (c := c) h.hb h.qb
  refine stretch (H := Hs) (s1 := laws_FnExactInChanges_s2 o tA (reE (fl tA) a) tA (reE (fl tA) b) tA (reE (fl tA) (inCh o a b)) fNew (reE (fl fNew) a) fNew (reE (fl fNew) b)) hP dd_sound hfn hc0 sp10 on (fun J => ?_) fun a' w' F' Ow' bm' on2 far => ?_
  · rw [laws_FnExactInChanges_c1]
    simp -implicitDefEqProofs only [toA, toB, Option.bind_some, svLeafK_leaf, svSlK_leaf]
    rfl
  · exact law_c2 h hA (Nat.le_trans hB far.size) on2
/-- From the beginning. -/
theorem law_c0 (hla : a.length ≤ maxLen) (hlb : b.length ≤ maxLen) (qa : ∀ e ∈ a, IsInDef e) (qb : ∀ e ∈ b, IsInDef e) {W : World} {act : Act} {Fx : Fr} {Ow : Own} {bm : Nat → Nat}
    (on : OnWay Try.prog (fnOf Try.prog F.laws_FnExactInChanges) W (N0 W) (laws_FnExactInChanges_s0 o fOld (reE (fl fOld) a) fOld (reE (fl fOld) b)) act W Fx Ow bm) :
    (sub body (way 0)).wp Try.prog (bodyPost Try.prog (fnOf Try.prog F.laws_FnExactInChanges) (Good W)) act W := by
  have sza := fun (c : Fl true) (n : Int) (hn : 0 ≤ n) => t_szInDefS (c := c) hla qa hn
  have szb := fun (c : Fl true) (n : Int) (hn : 0 ≤ n) => t_szInDefS (c := c) hlb qb hn
  have oka : okE 16 a := okE_of fun e he => ⟨by have := (qa e he).len; omega, (qa e he).ok⟩
  have okb : okE 16 b := okE_of fun e he => ⟨by have := (qb e he).len; omega, (qb e he).ok⟩
  by_cases ho : ((o.size : Nat) : Int) > 1048576
  · refine stretch_left (H := Hs) hP dd_sound hfn hc0 sp8 on fun J => ?_
    rw [laws_FnExactInChanges_c0]
    simp -implicitDefEqProofs only [ho, decide_true, branch_true]
  · by_cases hna : szF (.sl fP a) 1048576 < 0
    · refine stretch_left (H := Hs) hP dd_sound hfn hc0 sp8 on fun J => ?_
      rw [laws_FnExactInChanges_c0]
      simp -implicitDefEqProofs only [ho, decide_false, branch_false, sza fOld 1048576 (by omega), Option.bind_some, svLeafK_leaf, intK_int, hna, decide_true, branch_true]
    · by_cases hnb : szF (.sl fP b) (szF (.sl fP a) 1048576) < 0
      · refine stretch_left (H := Hs) hP dd_sound hfn hc0 sp8 on fun J => ?_
        rw [laws_FnExactInChanges_c0]
        simp -implicitDefEqProofs only [ho, decide_false, branch_false, sza fOld 1048576 (by omega), szb fOld (szF (.sl fP a) 1048576) (by omega), Option.bind_some, svLeafK_leaf, intK_int, hna, hnb, decide_true, branch_true]
      · have ta := szF_t (z := 16) (.sl fP a) 1048576 (by simp only [okF]; exact ⟨hla, oka⟩) (by omega) (by simp only [cap]; omega) (by omega)
        have tb := szF_t (z := 16) (.sl fP b) (szF (.sl fP a) 1048576) (by simp only [okF]; exact ⟨hlb, okb⟩) (by omega) (by simp only [cap]; omega) (by omega)
        simp only [tF] at ta tb
        have h : Fits o a b := ⟨by omega, by omega, qa, qb⟩
        have toA := fun (c : Fl true) => t_laws_toInDefS (c := c) h.ha h.qa
        have toB := fun (c : Fl true) => t_laws_toInDefS (c := c) h.hb h.qb
        have spc := fun (c c' : Fl true) => t_spec_InChanges (o := o) (c := c) (c' := c') h.la.1 h.lb.1 h.qa h.qb
        refine stretch (H := Hs) (s1 := e0 o fOld (reE (fl fOld) a) fOld (reE (fl fOld) b) (reE (fl fOld) (inCh o a b))) hP dd_sound hfn hc0 sp8 on (fun J => ?_) fun a' w' F' Ow' bm' on2 far => ?_
        · rw [laws_FnExactInChanges_c0]
          simp -implicitDefEqProofs only [ho, decide_false, branch_false, sza fOld 1048576 (by omega), szb fOld (szF (.sl fP a) 1048576) (by omega), Option.bind_some, svLeafK_leaf, svSlK_leaf, svOwnK_own, intK_int, hna, hnb, toA, toB, spc]
          rfl
        · have on3 := turn1 on2 []
          rw [turn1_eq] at on3
          simp only [tuE_fl (φ := φ1) (σ := fun _ => false) (c := fOld) rfl, show φ1 fOld = tA from rfl, show φ1 fNew = tA from rfl] at on3
          exact law_c1 h far.size (Nat.le_refl _) on3
end
end Go.Vs
end
section
/- Leaves of a type's shape, kind by kind. -/
namespace Go.Vs
variable {m : Bool} {P : Program} {c : Fl m}
theorem sh_bool {n : Nat} {t : TypeId} {ls : List (Leaf m)} (hu : P.underlying t = some .bool) (h : Shaped P c n t ls) : ∃ b, ls = [.bool b] := by
  cases n with
  | zero => exact h.elim
  | succ n => unfold Shaped at h; simp only [hu] at h; exact h
theorem sh_int {n : Nat} {t : TypeId} {k : IntKind} {ls : List (Leaf m)} (hu : P.underlying t = some (.int k)) (h : Shaped P c n t ls) : ∃ z, ls = [.int k z] := by
  cases n with
  | zero => exact h.elim
  | succ n =>
    unfold Shaped at h
    simp only [hu] at h
    obtain ⟨z, e, _⟩ := h
    exact ⟨z, e⟩
theorem sh_str {n : Nat} {t : TypeId} {ls : List (Leaf m)} (hu : P.underlying t = some .string) (h : Shaped P c n t ls) : ∃ s : ByteArray, ls = [.str s] ∧ s.size ≤ maxLen := by
  cases n with
  | zero => exact h.elim
  | succ n => unfold Shaped at h; simp only [hu] at h; exact h
theorem sh_sl {n : Nat} {t e : TypeId} {ls : List (Leaf m)} (hu : P.underlying t = some (.slice e)) (h : Shaped P c n t ls) : ∃ k es, n = k + 1 ∧ ls = [.sl c es] ∧ es.length ≤ maxLen ∧ ∀ x ∈ es, Shaped P c k e x := by
  cases n with
  | zero => exact h.elim
  | succ n =>
    unfold Shaped at h
    simp only [hu] at h
    obtain ⟨es, e1, e2, e3⟩ := h
    exact ⟨n, es, rfl, e1, e2, e3⟩
theorem sh_struct {n : Nat} {t : TypeId} {fs : Array Field} {ts : List TypeId} {ls : List (Leaf m)} (hu : P.underlying t = some (.struct fs)) (hts : fs.toList.map Field.type = ts) (h : Shaped P c n t ls) : ∃ k, n = k + 1 ∧ Parts (Shaped P c k) ts ls := by
  subst hts
  cases n with
  | zero => exact h.elim
  | succ n =>
    unfold Shaped at h
    simp only [hu] at h
    exact ⟨n, rfl, h⟩
end Go.Vs
end
section
open Go Go.Vs Go.Proofs
set_option linter.unusedVariables false
set_option linter.unusedSimpArgs false
namespace Go.Vs
theorem isType_of {n : Nat} {ls : List (Leaf false)} (h : Shaped Try.prog fP n 51 ls) : IsType ls := by
  obtain ⟨k, rfl, hh⟩ := sh_struct Try.underlying51 (ts := [9, 9]) (by kernel_rfl) h
  simp only [Parts] at hh
  obtain ⟨a0, _, rfl, g0, a1, _, rfl, g1, rfl⟩ := hh
  obtain ⟨s0, rfl, h0⟩ := sh_str Try.underlying9 g0
  obtain ⟨s1, rfl, h1⟩ := sh_str Try.underlying9 g1
  exact .mk s0 s1 h0 h1
theorem isValue_of {n : Nat} {ls : List (Leaf false)} (h : Shaped Try.prog fP n 55 ls) : IsValue ls := by
  induction n using Nat.strongRecOn generalizing ls with
  | ind n ih =>
    obtain ⟨k, rfl, hh⟩ := sh_struct Try.underlying55 (ts := [3, 9, 52, 53]) (by kernel_rfl) h
    simp only [Parts] at hh
    obtain ⟨a0, _, rfl, g0, a1, _, rfl, g1, a2, _, rfl, g2, a3, _, rfl, g3, rfl⟩ := hh
    obtain ⟨i0, rfl⟩ := sh_int Try.underlying3 g0
    obtain ⟨s1, rfl, h1⟩ := sh_str Try.underlying9 g1
    obtain ⟨k2, e2, hk2, rfl, h2, g2⟩ := sh_sl Try.underlying52 g2
    have q2 : ∀ e ∈ e2, IsValue e := fun e he => ih k2 (by omega) (g2 e he)
    obtain ⟨k3, e3, hk3, rfl, h3, g3⟩ := sh_sl Try.underlying53 g3
    have q3 : ∀ e ∈ e3, IsStr e := fun e he => sh_str Try.underlying9 (g3 e he)
    exact .mk i0 s1 e2 e3 h1 h2 q2 h3 q3
theorem isArg_of {n : Nat} {ls : List (Leaf false)} (h : Shaped Try.prog fP n 119 ls) : IsArg ls := by
  obtain ⟨k, rfl, hh⟩ := sh_struct Try.underlying119 (ts := [9, 55]) (by kernel_rfl) h
  simp only [Parts] at hh
  obtain ⟨a0, _, rfl, g0, a1, _, rfl, g1, rfl⟩ := hh
  obtain ⟨s0, rfl, h0⟩ := sh_str Try.underlying9 g0
  obtain ⟨i1, s2, e3, e4, rfl, h2, h3, q3, h4, q4⟩ := (isValue_of g1).ex
  exact .mk s0 i1 s2 e3 e4 h0 h2 h3 q3 h4 q4
theorem isDir_of {n : Nat} {ls : List (Leaf false)} (h : Shaped Try.prog fP n 104 ls) : IsDir ls := by
  obtain ⟨k, rfl, hh⟩ := sh_struct Try.underlying104 (ts := [9, 102]) (by kernel_rfl) h
  simp only [Parts] at hh
  obtain ⟨a0, _, rfl, g0, a1, _, rfl, g1, rfl⟩ := hh
  obtain ⟨s0, rfl, h0⟩ := sh_str Try.underlying9 g0
  obtain ⟨k1, e1, hk1, rfl, h1, g1⟩ := sh_sl Try.underlying102 g1
  have q1 : ∀ e ∈ e1, IsArg e := fun e he => isArg_of (g1 e he)
  exact .mk s0 e1 h0 h1 q1
theorem isInDef_of {n : Nat} {ls : List (Leaf false)} (h : Shaped Try.prog fP n 58 ls) : IsInDef ls := by
  obtain ⟨k, rfl, hh⟩ := sh_struct Try.underlying58 (ts := [9, 9, 51, 4, 55, 56]) (by kernel_rfl) h
  simp only [Parts] at hh
  obtain ⟨a0, _, rfl, g0, a1, _, rfl, g1, a2, _, rfl, g2, a3, _, rfl, g3, a4, _, rfl, g4, a5, _, rfl, g5, rfl⟩ := hh
  obtain ⟨s0, rfl, h0⟩ := sh_str Try.underlying9 g0
  obtain ⟨s1, rfl, h1⟩ := sh_str Try.underlying9 g1
  obtain ⟨s2, s3, rfl, h2, h3⟩ := (isType_of g2).ex
  obtain ⟨b4, rfl⟩ := sh_bool Try.underlying4 g3
  obtain ⟨i5, s6, e7, e8, rfl, h6, h7, q7, h8, q8⟩ := (isValue_of g4).ex
  obtain ⟨k9, e9, hk9, rfl, h9, g5⟩ := sh_sl Try.underlying56 g5
  have q9 : ∀ e ∈ e9, IsDir e := fun e he => isDir_of (g5 e he)
  exact .mk s0 s1 s2 s3 b4 i5 s6 e7 e8 e9 h0 h1 h2 h3 h6 h7 q7 h8 q8 h9 q9

end Go.Vs
end
