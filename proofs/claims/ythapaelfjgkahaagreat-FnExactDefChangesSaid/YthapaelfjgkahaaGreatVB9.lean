/- What the program's functions compute, read off their text by the shadow runner (DTt, DTm, DTe, DTl, DTv, DTw, DTs, DTr, DTz); no condition. -/
import Derived.Test.YthapaelfjgkahaaGreatVB8
section
open Go Go.Vs Go.Proofs
set_option linter.unusedVariables false
set_option linter.unusedSimpArgs false
namespace Go.Vs
/-- The functions whose text is read in the deep mode; of the others the plain mode tells. -/
def keep : FuncId → Bool := fun f => [F.laws_toStringS, F.laws_toValue, F.laws_toValueS, F.laws_toType, F.laws_toArg, F.laws_toArgS, F.laws_toDir, F.laws_toDirS, F.laws_toInDef, F.laws_toInDefS, F.laws_toFieldDef, F.laws_toFieldDefS, F.laws_toEnumDef, F.laws_toEnumDefS, F.laws_toRoot, F.laws_toRootS, F.laws_toDef, F.laws_markStringS, F.laws_markValueS, F.laws_markArgS, F.laws_markDirS, F.laws_markInDefS, F.laws_markFieldDefS, F.laws_markEnumDefS, F.laws_markRootS, F.laws_markDef, F.impl_InChanges, F.impl_fieldChanges, F.impl_DefChanges, F.impl_changes_add, F.impl_changes_all].contains f
noncomputable abbrev Dd : Oracle true := den Go.Proofs.Tryz.prog (liftT Dn keep) Hs
theorem dd_of {f : FuncId} {a : List (SV true)} {b : List (List (SV true))} {r : SV true × List (List (SV true))} (hk : keep f = true) (h : run2V Go.Proofs.Tryz.prog Dd Hs limR f a b = some r) : Dd f a b = some r :=
  den_fast (by simp only [liftT, hk]) h
theorem dd_told {f : FuncId} (hk : keep f = false) {a : List (SV true)} {b : List (List (SV true))} {a' : List (SV false)} {b' : List (List (SV false))} {r' : SV false × List (List (SV false))} {r : SV true × List (List (SV true))}
    (h : Dn f a' b' = some r') (ha : a.map (reS er) = a') (hb : b.map (List.map (reS er)) = b') (hr : (reS li r'.1, r'.2.map (List.map (reS li))) = r) : Dd f a b = some r := lift_told hk h ha hb hr
theorem sizeT3 : sizeT Tryz.prog 3 = some 1 := by kernel_rfl
theorem sizeT4 : sizeT Tryz.prog 4 = some 1 := by kernel_rfl
theorem sizeT9 : sizeT Tryz.prog 9 = some 1 := by kernel_rfl
theorem laws_toStringS_from {c : Fl true} {es : List (List (Leaf false))} (hl : es.length ≤ 1048576) (hq : ∀ e ∈ es, IsStr e) : ∀ i : Nat, i ≤ es.length → ∀ z : List (SV true), z.length = (es.length - i) * 1 →
    d_laws_toStringS_A Dd (d_laws_toStringS_0 c (reE (fl c) es) es.length i (rowAt (reE (fl fNew) es) i z)) = some (.leaf (.sl fNew (reE (fl fNew) es)), []) := by
  have hall : ∀ e ∈ reE (fl fNew) es, e.length = 1 := reE_all fun e he => (hq e he).len
  have hN : (reE (fl fNew) es).length = es.length := reE_length es
  have hC : (reE (fl c) es).length = es.length := reE_length es
  have hml : (1048576 : Nat) ≤ maxLen := by decide
  refine upto_ind ?_ ?_
  · intro z hz
    have g1 := row_full (z := z) hall
    have g2 := chunks_flatten hall
    have g3 := rowAt_len (z := z) hall (Nat.le_refl _)
    rw [hN] at g1 g2 g3
    try rw [Nat.mul_one] at g1
    rw [d_laws_toStringS_0_eq]
    simp [g1, g2, g3, hC, SV.flatT, SV.flat, Fl.new]
  · intro i hi ih z hz
    have g3 := rowAt_len (z := z) hall (i := i) (by omega)
    have hp := putAt_row (z := z) hall (i := i) (by omega)
    rw [d_laws_toStringS_0_eq]
    obtain ⟨s, he, hs⟩ := hq _ (List.getElem_mem hi)
    rw [reE_get, he] at hp
    simp only [reL, reF, List.map_cons, List.map_nil] at hp
    simp only [Int.ofNat_lt, hi, hC, decide_true, branch_true, Int.natCast_nonneg, Bool.and_true, Int.toNat_natCast, guarded_true, wrap_upL (Nat.lt_of_lt_of_le hi (Nat.le_trans hl hml)), sized_all (reE_all (φ := fl c) fun e he => (hq e he).len), reE_getD hi]
    rw [he]
    simp only [reL, reF, atK_zero, strK_str]
    have hd' : (i + 1) * 1 ≤ es.length * 1 := Nat.mul_le_mul_right 1 hi
    have hg : (0 + i) * 1 + 1 ≤ (rowAt (reE (fl fNew) es) i z).length := by rw [g3, hz, Nat.sub_mul]; omega
    simp only [hg, decide_true, guarded_true]
    rw [Nat.zero_add, hp]
    exact ih _ (by rw [List.length_drop, hz, Nat.sub_mul, Nat.sub_mul]; omega)
theorem t_laws_toStringS {c : Fl true} {es : List (List (Leaf false))} (hl : es.length ≤ 1048576) (hq : ∀ e ∈ es, IsStr e) : Dd F.laws_toStringS [.leaf (.sl c (reE (fl c) es))] [] = some (.leaf (.sl fNew (reE (fl fNew) es)), []) := by
  apply dd_of rfl
  have hb : maxBytes = 140737488355328 := rfl
  rw [run_d_laws_toStringS]
  have hs : decide (es.length ≤ maxBytes) = true := decide_eq_true (by omega)
  have hs2 : decide (es.length * 16 ≤ maxBytes) = true := decide_eq_true (by omega)
  simp only [reE_length, Int.natCast_nonneg, Int.toNat_natCast, beq_self_eq_true, hs, hs2, decide_true, Bool.and_true, Bool.true_and, guarded_true]
  exact laws_toStringS_from hl hq 0 (Nat.zero_le _) _ (by simp [List.length_flatten])
theorem t_laws_toType {c : Fl true} {ls : List (Leaf false)} (h : IsType ls) : tL ls ≤ 1048576 → Dd F.laws_toType [.agg (reL (fl c) ls)] [] = some (.agg (reL (fl fNew) ls), []) := by
  cases h with
  | mk s0 s1 h0 h1 =>
    intro hb
    apply dd_of rfl
    simp only [reL, reF]
    rw [run_d_laws_toType]
    try simp []
theorem laws_toValueS_from {c : Fl true} {es : List (List (Leaf false))} (hl : es.length ≤ 1048576) (hq : ∀ e ∈ es, IsValue e) (hd : ∀ e ∈ es, Dd F.laws_toValue [.agg (reL (fl c) e)] [] = some (.agg (reL (fl fNew) e), [])) : ∀ i : Nat, i ≤ es.length → ∀ z : List (SV true), z.length = (es.length - i) * 4 →
    d_laws_toValueS_A Dd (d_laws_toValueS_0 c (reE (fl c) es) es.length i (rowAt (reE (fl fNew) es) i z)) = some (.leaf (.sl fNew (reE (fl fNew) es)), []) := by
  have hall : ∀ e ∈ reE (fl fNew) es, e.length = 4 := reE_all fun e he => (hq e he).len
  have hN : (reE (fl fNew) es).length = es.length := reE_length es
  have hC : (reE (fl c) es).length = es.length := reE_length es
  have hml : (1048576 : Nat) ≤ maxLen := by decide
  refine upto_ind ?_ ?_
  · intro z hz
    have g1 := row_full (z := z) hall
    have g2 := chunks_flatten hall
    have g3 := rowAt_len (z := z) hall (Nat.le_refl _)
    rw [hN] at g1 g2 g3
    try rw [Nat.mul_one] at g1
    rw [d_laws_toValueS_0_eq]
    simp [g1, g2, g3, hC, SV.flatT, SV.flat, Fl.new]
  · intro i hi ih z hz
    have g3 := rowAt_len (z := z) hall (i := i) (by omega)
    have hp := putAt_row (z := z) hall (i := i) (by omega)
    rw [d_laws_toValueS_0_eq]
    have hci := hd _ (List.getElem_mem hi)
    obtain ⟨i0, s1, e2, e3, he, h1, h2, q2, h3, q3⟩ := (hq _ (List.getElem_mem hi)).ex
    rw [reE_get, he] at hp
    simp only [reL, reF, List.map_cons, List.map_nil] at hp
    simp only [Int.ofNat_lt, hi, hC, decide_true, branch_true, Int.natCast_nonneg, Bool.and_true, Int.toNat_natCast, guarded_true, wrap_upL (Nat.lt_of_lt_of_le hi (Nat.le_trans hl hml)), sized_all (reE_all (φ := fl c) fun e he => (hq e he).len), reE_getD hi]
    rw [he] at hci ⊢
    simp only [reL, reF] at hci
    simp only [reL, reF, bindE_eq, atK_zero, atK_succ, intK_int, strK_str, boolK_bool, slK_sl, hci, Option.bind_some, svAggK_agg, List.length_cons, List.length_nil, beq_self_eq_true, Nat.reduceAdd, Nat.reduceBEq, guarded_true]
    have hd' : (i + 1) * 4 ≤ es.length * 4 := Nat.mul_le_mul_right 4 hi
    have hg : (0 + i) * 4 + 4 ≤ (rowAt (reE (fl fNew) es) i z).length := by rw [g3, hz, Nat.sub_mul]; omega
    simp only [hg, decide_true, guarded_true]
    rw [Nat.zero_add, hp]
    exact ih _ (by rw [List.length_drop, hz, Nat.sub_mul, Nat.sub_mul]; omega)
theorem t_laws_toValueS_of {c : Fl true} {es : List (List (Leaf false))} (hl : es.length ≤ 1048576) (hq : ∀ e ∈ es, IsValue e) (hd : ∀ e ∈ es, Dd F.laws_toValue [.agg (reL (fl c) e)] [] = some (.agg (reL (fl fNew) e), [])) : Dd F.laws_toValueS [.leaf (.sl c (reE (fl c) es))] [] = some (.leaf (.sl fNew (reE (fl fNew) es)), []) := by
  apply dd_of rfl
  have hb : maxBytes = 140737488355328 := rfl
  rw [run_d_laws_toValueS]
  have hs : decide (es.length ≤ maxBytes) = true := decide_eq_true (by omega)
  have hs2 : decide (es.length * 72 ≤ maxBytes) = true := decide_eq_true (by omega)
  simp only [reE_length, Int.natCast_nonneg, Int.toNat_natCast, beq_self_eq_true, hs, hs2, decide_true, Bool.and_true, Bool.true_and, guarded_true]
  exact laws_toValueS_from hl hq hd 0 (Nat.zero_le _) _ (by simp [List.length_flatten])
theorem t_laws_toValue {c : Fl true} {ls : List (Leaf false)} (h : IsValue ls) : tL ls ≤ 1048576 → Dd F.laws_toValue [.agg (reL (fl c) ls)] [] = some (.agg (reL (fl fNew) ls), []) := by
  induction h with
  | mk i0 s1 e2 e3 h1 h2 q2 h3 q3 ih2 =>
    intro hb
    apply dd_of rfl
    simp only [reL, reF]
    rw [run_d_laws_toValue]
    have c2 := t_laws_toValueS_of (c := c) (show e2.length ≤ 1048576 by simp only [tL, tF] at hb; omega) q2 fun e he => ih2 e he (by have := tE_mem he; simp only [tL, tF] at hb; omega)
    have c3 := t_laws_toStringS (c := c) (show e3.length ≤ 1048576 by simp only [tL, tF] at hb; omega) q3
    try simp [c2, c3]
theorem t_laws_toValueS {c : Fl true} {es : List (List (Leaf false))} (hb : es.length + tE es ≤ 1048576) (hq : ∀ e ∈ es, IsValue e) : Dd F.laws_toValueS [.leaf (.sl c (reE (fl c) es))] [] = some (.leaf (.sl fNew (reE (fl fNew) es)), []) := t_laws_toValueS_of (by omega) hq fun e he => t_laws_toValue (hq e he) (by have := tE_mem he; omega)
theorem laws_toArgS_from {c : Fl true} {es : List (List (Leaf false))} (hl : es.length ≤ 1048576) (hq : ∀ e ∈ es, IsArg e) (hd : ∀ e ∈ es, Dd F.laws_toArg [.agg (reL (fl c) e)] [] = some (.agg (reL (fl fNew) e), [])) : ∀ i : Nat, i ≤ es.length → ∀ z : List (SV true), z.length = (es.length - i) * 5 →
    d_laws_toArgS_A Dd (d_laws_toArgS_0 c (reE (fl c) es) es.length i (rowAt (reE (fl fNew) es) i z)) = some (.leaf (.sl fNew (reE (fl fNew) es)), []) := by
  have hall : ∀ e ∈ reE (fl fNew) es, e.length = 5 := reE_all fun e he => (hq e he).len
  have hN : (reE (fl fNew) es).length = es.length := reE_length es
  have hC : (reE (fl c) es).length = es.length := reE_length es
  have hml : (1048576 : Nat) ≤ maxLen := by decide
  refine upto_ind ?_ ?_
  · intro z hz
    have g1 := row_full (z := z) hall
    have g2 := chunks_flatten hall
    have g3 := rowAt_len (z := z) hall (Nat.le_refl _)
    rw [hN] at g1 g2 g3
    try rw [Nat.mul_one] at g1
    rw [d_laws_toArgS_0_eq]
    simp [g1, g2, g3, hC, SV.flatT, SV.flat, Fl.new]
  · intro i hi ih z hz
    have g3 := rowAt_len (z := z) hall (i := i) (by omega)
    have hp := putAt_row (z := z) hall (i := i) (by omega)
    rw [d_laws_toArgS_0_eq]
    have hci := hd _ (List.getElem_mem hi)
    obtain ⟨s0, i1, s2, e3, e4, he, h0, h2, h3, q3, h4, q4⟩ := (hq _ (List.getElem_mem hi)).ex
    rw [reE_get, he] at hp
    simp only [reL, reF, List.map_cons, List.map_nil] at hp
    simp only [Int.ofNat_lt, hi, hC, decide_true, branch_true, Int.natCast_nonneg, Bool.and_true, Int.toNat_natCast, guarded_true, wrap_upL (Nat.lt_of_lt_of_le hi (Nat.le_trans hl hml)), sized_all (reE_all (φ := fl c) fun e he => (hq e he).len), reE_getD hi]
    rw [he] at hci ⊢
    simp only [reL, reF] at hci
    simp only [reL, reF, bindE_eq, atK_zero, atK_succ, intK_int, strK_str, boolK_bool, slK_sl, hci, Option.bind_some, svAggK_agg, List.length_cons, List.length_nil, beq_self_eq_true, Nat.reduceAdd, Nat.reduceBEq, guarded_true]
    have hd' : (i + 1) * 5 ≤ es.length * 5 := Nat.mul_le_mul_right 5 hi
    have hg : (0 + i) * 5 + 5 ≤ (rowAt (reE (fl fNew) es) i z).length := by rw [g3, hz, Nat.sub_mul]; omega
    simp only [hg, decide_true, guarded_true]
    rw [Nat.zero_add, hp]
    exact ih _ (by rw [List.length_drop, hz, Nat.sub_mul, Nat.sub_mul]; omega)
theorem t_laws_toArgS_of {c : Fl true} {es : List (List (Leaf false))} (hl : es.length ≤ 1048576) (hq : ∀ e ∈ es, IsArg e) (hd : ∀ e ∈ es, Dd F.laws_toArg [.agg (reL (fl c) e)] [] = some (.agg (reL (fl fNew) e), [])) : Dd F.laws_toArgS [.leaf (.sl c (reE (fl c) es))] [] = some (.leaf (.sl fNew (reE (fl fNew) es)), []) := by
  apply dd_of rfl
  have hb : maxBytes = 140737488355328 := rfl
  rw [run_d_laws_toArgS]
  have hs : decide (es.length ≤ maxBytes) = true := decide_eq_true (by omega)
  have hs2 : decide (es.length * 88 ≤ maxBytes) = true := decide_eq_true (by omega)
  simp only [reE_length, Int.natCast_nonneg, Int.toNat_natCast, beq_self_eq_true, hs, hs2, decide_true, Bool.and_true, Bool.true_and, guarded_true]
  exact laws_toArgS_from hl hq hd 0 (Nat.zero_le _) _ (by simp [List.length_flatten])
theorem t_laws_toArg {c : Fl true} {ls : List (Leaf false)} (h : IsArg ls) : tL ls ≤ 1048576 → Dd F.laws_toArg [.agg (reL (fl c) ls)] [] = some (.agg (reL (fl fNew) ls), []) := by
  cases h with
  | mk s0 i1 s2 e3 e4 h0 h2 h3 q3 h4 q4 =>
    intro hb
    apply dd_of rfl
    simp only [reL, reF]
    rw [run_d_laws_toArg]
    have c1 := t_laws_toValue (c := c) (.mk i1 s2 e3 e4 h2 h3 q3 h4 q4) (by simp only [tL, tF] at hb ⊢; omega)
    simp only [reL, reF] at c1
    try simp [c1]
theorem t_laws_toArgS {c : Fl true} {es : List (List (Leaf false))} (hb : es.length + tE es ≤ 1048576) (hq : ∀ e ∈ es, IsArg e) : Dd F.laws_toArgS [.leaf (.sl c (reE (fl c) es))] [] = some (.leaf (.sl fNew (reE (fl fNew) es)), []) := t_laws_toArgS_of (by omega) hq fun e he => t_laws_toArg (hq e he) (by have := tE_mem he; omega)
theorem laws_toDirS_from {c : Fl true} {es : List (List (Leaf false))} (hl : es.length ≤ 1048576) (hq : ∀ e ∈ es, IsDir e) (hd : ∀ e ∈ es, Dd F.laws_toDir [.agg (reL (fl c) e)] [] = some (.agg (reL (fl fNew) e), [])) : ∀ i : Nat, i ≤ es.length → ∀ z : List (SV true), z.length = (es.length - i) * 2 →
    d_laws_toDirS_A Dd (d_laws_toDirS_0 c (reE (fl c) es) es.length i (rowAt (reE (fl fNew) es) i z)) = some (.leaf (.sl fNew (reE (fl fNew) es)), []) := by
  have hall : ∀ e ∈ reE (fl fNew) es, e.length = 2 := reE_all fun e he => (hq e he).len
  have hN : (reE (fl fNew) es).length = es.length := reE_length es
  have hC : (reE (fl c) es).length = es.length := reE_length es
  have hml : (1048576 : Nat) ≤ maxLen := by decide
  refine upto_ind ?_ ?_
  · intro z hz
    have g1 := row_full (z := z) hall
    have g2 := chunks_flatten hall
    have g3 := rowAt_len (z := z) hall (Nat.le_refl _)
    rw [hN] at g1 g2 g3
    try rw [Nat.mul_one] at g1
    rw [d_laws_toDirS_0_eq]
    simp [g1, g2, g3, hC, SV.flatT, SV.flat, Fl.new]
  · intro i hi ih z hz
    have g3 := rowAt_len (z := z) hall (i := i) (by omega)
    have hp := putAt_row (z := z) hall (i := i) (by omega)
    rw [d_laws_toDirS_0_eq]
    have hci := hd _ (List.getElem_mem hi)
    obtain ⟨s0, e1, he, h0, h1, q1⟩ := (hq _ (List.getElem_mem hi)).ex
    rw [reE_get, he] at hp
    simp only [reL, reF, List.map_cons, List.map_nil] at hp
    simp only [Int.ofNat_lt, hi, hC, decide_true, branch_true, Int.natCast_nonneg, Bool.and_true, Int.toNat_natCast, guarded_true, wrap_upL (Nat.lt_of_lt_of_le hi (Nat.le_trans hl hml)), sized_all (reE_all (φ := fl c) fun e he => (hq e he).len), reE_getD hi]
    rw [he] at hci ⊢
    simp only [reL, reF] at hci
    simp only [reL, reF, bindE_eq, atK_zero, atK_succ, intK_int, strK_str, boolK_bool, slK_sl, hci, Option.bind_some, svAggK_agg, List.length_cons, List.length_nil, beq_self_eq_true, Nat.reduceAdd, Nat.reduceBEq, guarded_true]
    have hd' : (i + 1) * 2 ≤ es.length * 2 := Nat.mul_le_mul_right 2 hi
    have hg : (0 + i) * 2 + 2 ≤ (rowAt (reE (fl fNew) es) i z).length := by rw [g3, hz, Nat.sub_mul]; omega
    simp only [hg, decide_true, guarded_true]
    rw [Nat.zero_add, hp]
    exact ih _ (by rw [List.length_drop, hz, Nat.sub_mul, Nat.sub_mul]; omega)
theorem t_laws_toDirS_of {c : Fl true} {es : List (List (Leaf false))} (hl : es.length ≤ 1048576) (hq : ∀ e ∈ es, IsDir e) (hd : ∀ e ∈ es, Dd F.laws_toDir [.agg (reL (fl c) e)] [] = some (.agg (reL (fl fNew) e), [])) : Dd F.laws_toDirS [.leaf (.sl c (reE (fl c) es))] [] = some (.leaf (.sl fNew (reE (fl fNew) es)), []) := by
  apply dd_of rfl
  have hb : maxBytes = 140737488355328 := rfl
  rw [run_d_laws_toDirS]
  have hs : decide (es.length ≤ maxBytes) = true := decide_eq_true (by omega)
  have hs2 : decide (es.length * 40 ≤ maxBytes) = true := decide_eq_true (by omega)
  simp only [reE_length, Int.natCast_nonneg, Int.toNat_natCast, beq_self_eq_true, hs, hs2, decide_true, Bool.and_true, Bool.true_and, guarded_true]
  exact laws_toDirS_from hl hq hd 0 (Nat.zero_le _) _ (by simp [List.length_flatten])
theorem t_laws_toDir {c : Fl true} {ls : List (Leaf false)} (h : IsDir ls) : tL ls ≤ 1048576 → Dd F.laws_toDir [.agg (reL (fl c) ls)] [] = some (.agg (reL (fl fNew) ls), []) := by
  cases h with
  | mk s0 e1 h0 h1 q1 =>
    intro hb
    apply dd_of rfl
    simp only [reL, reF]
    rw [run_d_laws_toDir]
    have c1 := t_laws_toArgS (c := c) (show e1.length + tE e1 ≤ 1048576 by simp only [tL, tF] at hb; omega) q1
    try simp [c1]
theorem t_laws_toDirS {c : Fl true} {es : List (List (Leaf false))} (hb : es.length + tE es ≤ 1048576) (hq : ∀ e ∈ es, IsDir e) : Dd F.laws_toDirS [.leaf (.sl c (reE (fl c) es))] [] = some (.leaf (.sl fNew (reE (fl fNew) es)), []) := t_laws_toDirS_of (by omega) hq fun e he => t_laws_toDir (hq e he) (by have := tE_mem he; omega)
theorem laws_toInDefS_from {c : Fl true} {es : List (List (Leaf false))} (hl : es.length ≤ 1048576) (hq : ∀ e ∈ es, IsInDef e) (hd : ∀ e ∈ es, Dd F.laws_toInDef [.agg (reL (fl c) e)] [] = some (.agg (reL (fl fNew) e), [])) : ∀ i : Nat, i ≤ es.length → ∀ z : List (SV true), z.length = (es.length - i) * 10 →
    d_laws_toInDefS_A Dd (d_laws_toInDefS_0 c (reE (fl c) es) es.length i (rowAt (reE (fl fNew) es) i z)) = some (.leaf (.sl fNew (reE (fl fNew) es)), []) := by
  have hall : ∀ e ∈ reE (fl fNew) es, e.length = 10 := reE_all fun e he => (hq e he).len
  have hN : (reE (fl fNew) es).length = es.length := reE_length es
  have hC : (reE (fl c) es).length = es.length := reE_length es
  have hml : (1048576 : Nat) ≤ maxLen := by decide
  refine upto_ind ?_ ?_
  · intro z hz
    have g1 := row_full (z := z) hall
    have g2 := chunks_flatten hall
    have g3 := rowAt_len (z := z) hall (Nat.le_refl _)
    rw [hN] at g1 g2 g3
    try rw [Nat.mul_one] at g1
    rw [d_laws_toInDefS_0_eq]
    simp [g1, g2, g3, hC, SV.flatT, SV.flat, Fl.new]
  · intro i hi ih z hz
    have g3 := rowAt_len (z := z) hall (i := i) (by omega)
    have hp := putAt_row (z := z) hall (i := i) (by omega)
    rw [d_laws_toInDefS_0_eq]
    have hci := hd _ (List.getElem_mem hi)
    obtain ⟨s0, s1, s2, s3, b4, i5, s6, e7, e8, e9, he, h0, h1, h2, h3, h6, h7, q7, h8, q8, h9, q9⟩ := (hq _ (List.getElem_mem hi)).ex
    rw [reE_get, he] at hp
    simp only [reL, reF, List.map_cons, List.map_nil] at hp
    simp only [Int.ofNat_lt, hi, hC, decide_true, branch_true, Int.natCast_nonneg, Bool.and_true, Int.toNat_natCast, guarded_true, wrap_upL (Nat.lt_of_lt_of_le hi (Nat.le_trans hl hml)), sized_all (reE_all (φ := fl c) fun e he => (hq e he).len), reE_getD hi]
    rw [he] at hci ⊢
    simp only [reL, reF] at hci
    simp only [reL, reF, bindE_eq, atK_zero, atK_succ, intK_int, strK_str, boolK_bool, slK_sl, hci, Option.bind_some, svAggK_agg, List.length_cons, List.length_nil, beq_self_eq_true, Nat.reduceAdd, Nat.reduceBEq, guarded_true]
    have hd' : (i + 1) * 10 ≤ es.length * 10 := Nat.mul_le_mul_right 10 hi
    have hg : (0 + i) * 10 + 10 ≤ (rowAt (reE (fl fNew) es) i z).length := by rw [g3, hz, Nat.sub_mul]; omega
    simp only [hg, decide_true, guarded_true]
    rw [Nat.zero_add, hp]
    exact ih _ (by rw [List.length_drop, hz, Nat.sub_mul, Nat.sub_mul]; omega)
theorem t_laws_toInDefS_of {c : Fl true} {es : List (List (Leaf false))} (hl : es.length ≤ 1048576) (hq : ∀ e ∈ es, IsInDef e) (hd : ∀ e ∈ es, Dd F.laws_toInDef [.agg (reL (fl c) e)] [] = some (.agg (reL (fl fNew) e), [])) : Dd F.laws_toInDefS [.leaf (.sl c (reE (fl c) es))] [] = some (.leaf (.sl fNew (reE (fl fNew) es)), []) := by
  apply dd_of rfl
  have hb : maxBytes = 140737488355328 := rfl
  rw [run_d_laws_toInDefS]
  have hs : decide (es.length ≤ maxBytes) = true := decide_eq_true (by omega)
  have hs2 : decide (es.length * 168 ≤ maxBytes) = true := decide_eq_true (by omega)
  simp only [reE_length, Int.natCast_nonneg, Int.toNat_natCast, beq_self_eq_true, hs, hs2, decide_true, Bool.and_true, Bool.true_and, guarded_true]
  exact laws_toInDefS_from hl hq hd 0 (Nat.zero_le _) _ (by simp [List.length_flatten])
theorem t_laws_toInDef {c : Fl true} {ls : List (Leaf false)} (h : IsInDef ls) : tL ls ≤ 1048576 → Dd F.laws_toInDef [.agg (reL (fl c) ls)] [] = some (.agg (reL (fl fNew) ls), []) := by
  cases h with
  | mk s0 s1 s2 s3 b4 i5 s6 e7 e8 e9 h0 h1 h2 h3 h6 h7 q7 h8 q8 h9 q9 =>
    intro hb
    apply dd_of rfl
    simp only [reL, reF]
    rw [run_d_laws_toInDef]
    have c2 := t_laws_toType (c := c) (.mk s2 s3 h2 h3) (by simp only [tL, tF] at hb ⊢; omega)
    simp only [reL, reF] at c2
    have c5 := t_laws_toValue (c := c) (.mk i5 s6 e7 e8 h6 h7 q7 h8 q8) (by simp only [tL, tF] at hb ⊢; omega)
    simp only [reL, reF] at c5
    have c9 := t_laws_toDirS (c := c) (show e9.length + tE e9 ≤ 1048576 by simp only [tL, tF] at hb; omega) q9
    try simp [c2, c5, c9]
theorem t_laws_toInDefS {c : Fl true} {es : List (List (Leaf false))} (hb : es.length + tE es ≤ 1048576) (hq : ∀ e ∈ es, IsInDef e) : Dd F.laws_toInDefS [.leaf (.sl c (reE (fl c) es))] [] = some (.leaf (.sl fNew (reE (fl fNew) es)), []) := t_laws_toInDefS_of (by omega) hq fun e he => t_laws_toInDef (hq e he) (by have := tE_mem he; omega)
theorem laws_toFieldDefS_from {c : Fl true} {es : List (List (Leaf false))} (hl : es.length ≤ 1048576) (hq : ∀ e ∈ es, IsFieldDef e) (hd : ∀ e ∈ es, Dd F.laws_toFieldDef [.agg (reL (fl c) e)] [] = some (.agg (reL (fl fNew) e), [])) : ∀ i : Nat, i ≤ es.length → ∀ z : List (SV true), z.length = (es.length - i) * 6 →
    d_laws_toFieldDefS_A Dd (d_laws_toFieldDefS_0 c (reE (fl c) es) es.length i (rowAt (reE (fl fNew) es) i z)) = some (.leaf (.sl fNew (reE (fl fNew) es)), []) := by
  have hall : ∀ e ∈ reE (fl fNew) es, e.length = 6 := reE_all fun e he => (hq e he).len
  have hN : (reE (fl fNew) es).length = es.length := reE_length es
  have hC : (reE (fl c) es).length = es.length := reE_length es
  have hml : (1048576 : Nat) ≤ maxLen := by decide
  refine upto_ind ?_ ?_
  · intro z hz
    have g1 := row_full (z := z) hall
    have g2 := chunks_flatten hall
    have g3 := rowAt_len (z := z) hall (Nat.le_refl _)
    rw [hN] at g1 g2 g3
    try rw [Nat.mul_one] at g1
    rw [d_laws_toFieldDefS_0_eq]
    simp [g1, g2, g3, hC, SV.flatT, SV.flat, Fl.new]
  · intro i hi ih z hz
    have g3 := rowAt_len (z := z) hall (i := i) (by omega)
    have hp := putAt_row (z := z) hall (i := i) (by omega)
    rw [d_laws_toFieldDefS_0_eq]
    have hci := hd _ (List.getElem_mem hi)
    obtain ⟨s0, s1, e2, s3, s4, e5, he, h0, h1, h2, q2, h3, h4, h5, q5⟩ := (hq _ (List.getElem_mem hi)).ex
    rw [reE_get, he] at hp
    simp only [reL, reF, List.map_cons, List.map_nil] at hp
    simp only [Int.ofNat_lt, hi, hC, decide_true, branch_true, Int.natCast_nonneg, Bool.and_true, Int.toNat_natCast, guarded_true, wrap_upL (Nat.lt_of_lt_of_le hi (Nat.le_trans hl hml)), sized_all (reE_all (φ := fl c) fun e he => (hq e he).len), reE_getD hi]
    rw [he] at hci ⊢
    simp only [reL, reF] at hci
    simp only [reL, reF, bindE_eq, atK_zero, atK_succ, intK_int, strK_str, boolK_bool, slK_sl, hci, Option.bind_some, svAggK_agg, List.length_cons, List.length_nil, beq_self_eq_true, Nat.reduceAdd, Nat.reduceBEq, guarded_true]
    have hd' : (i + 1) * 6 ≤ es.length * 6 := Nat.mul_le_mul_right 6 hi
    have hg : (0 + i) * 6 + 6 ≤ (rowAt (reE (fl fNew) es) i z).length := by rw [g3, hz, Nat.sub_mul]; omega
    simp only [hg, decide_true, guarded_true]
    rw [Nat.zero_add, hp]
    exact ih _ (by rw [List.length_drop, hz, Nat.sub_mul, Nat.sub_mul]; omega)
theorem t_laws_toFieldDefS_of {c : Fl true} {es : List (List (Leaf false))} (hl : es.length ≤ 1048576) (hq : ∀ e ∈ es, IsFieldDef e) (hd : ∀ e ∈ es, Dd F.laws_toFieldDef [.agg (reL (fl c) e)] [] = some (.agg (reL (fl fNew) e), [])) : Dd F.laws_toFieldDefS [.leaf (.sl c (reE (fl c) es))] [] = some (.leaf (.sl fNew (reE (fl fNew) es)), []) := by
  apply dd_of rfl
  have hb : maxBytes = 140737488355328 := rfl
  rw [run_d_laws_toFieldDefS]
  have hs : decide (es.length ≤ maxBytes) = true := decide_eq_true (by omega)
  have hs2 : decide (es.length * 112 ≤ maxBytes) = true := decide_eq_true (by omega)
  simp only [reE_length, Int.natCast_nonneg, Int.toNat_natCast, beq_self_eq_true, hs, hs2, decide_true, Bool.and_true, Bool.true_and, guarded_true]
  exact laws_toFieldDefS_from hl hq hd 0 (Nat.zero_le _) _ (by simp [List.length_flatten])
theorem t_laws_toFieldDef {c : Fl true} {ls : List (Leaf false)} (h : IsFieldDef ls) : tL ls ≤ 1048576 → Dd F.laws_toFieldDef [.agg (reL (fl c) ls)] [] = some (.agg (reL (fl fNew) ls), []) := by
  cases h with
  | mk s0 s1 e2 s3 s4 e5 h0 h1 h2 q2 h3 h4 h5 q5 =>
    intro hb
    apply dd_of rfl
    simp only [reL, reF]
    rw [run_d_laws_toFieldDef]
    have c2 := t_laws_toInDefS (c := c) (show e2.length + tE e2 ≤ 1048576 by simp only [tL, tF] at hb; omega) q2
    have c3 := t_laws_toType (c := c) (.mk s3 s4 h3 h4) (by simp only [tL, tF] at hb ⊢; omega)
    simp only [reL, reF] at c3
    have c5 := t_laws_toDirS (c := c) (show e5.length + tE e5 ≤ 1048576 by simp only [tL, tF] at hb; omega) q5
    try simp [c2, c3, c5]
theorem t_laws_toFieldDefS {c : Fl true} {es : List (List (Leaf false))} (hb : es.length + tE es ≤ 1048576) (hq : ∀ e ∈ es, IsFieldDef e) : Dd F.laws_toFieldDefS [.leaf (.sl c (reE (fl c) es))] [] = some (.leaf (.sl fNew (reE (fl fNew) es)), []) := t_laws_toFieldDefS_of (by omega) hq fun e he => t_laws_toFieldDef (hq e he) (by have := tE_mem he; omega)
theorem laws_toEnumDefS_from {c : Fl true} {es : List (List (Leaf false))} (hl : es.length ≤ 1048576) (hq : ∀ e ∈ es, IsEnumDef e) (hd : ∀ e ∈ es, Dd F.laws_toEnumDef [.agg (reL (fl c) e)] [] = some (.agg (reL (fl fNew) e), [])) : ∀ i : Nat, i ≤ es.length → ∀ z : List (SV true), z.length = (es.length - i) * 3 →
    d_laws_toEnumDefS_A Dd (d_laws_toEnumDefS_0 c (reE (fl c) es) es.length i (rowAt (reE (fl fNew) es) i z)) = some (.leaf (.sl fNew (reE (fl fNew) es)), []) := by
  have hall : ∀ e ∈ reE (fl fNew) es, e.length = 3 := reE_all fun e he => (hq e he).len
  have hN : (reE (fl fNew) es).length = es.length := reE_length es
  have hC : (reE (fl c) es).length = es.length := reE_length es
  have hml : (1048576 : Nat) ≤ maxLen := by decide
  refine upto_ind ?_ ?_
  · intro z hz
    have g1 := row_full (z := z) hall
    have g2 := chunks_flatten hall
    have g3 := rowAt_len (z := z) hall (Nat.le_refl _)
    rw [hN] at g1 g2 g3
    try rw [Nat.mul_one] at g1
    rw [d_laws_toEnumDefS_0_eq]
    simp [g1, g2, g3, hC, SV.flatT, SV.flat, Fl.new]
  · intro i hi ih z hz
    have g3 := rowAt_len (z := z) hall (i := i) (by omega)
    have hp := putAt_row (z := z) hall (i := i) (by omega)
    rw [d_laws_toEnumDefS_0_eq]
    have hci := hd _ (List.getElem_mem hi)
    obtain ⟨s0, s1, e2, he, h0, h1, h2, q2⟩ := (hq _ (List.getElem_mem hi)).ex
    rw [reE_get, he] at hp
    simp only [reL, reF, List.map_cons, List.map_nil] at hp
    simp only [Int.ofNat_lt, hi, hC, decide_true, branch_true, Int.natCast_nonneg, Bool.and_true, Int.toNat_natCast, guarded_true, wrap_upL (Nat.lt_of_lt_of_le hi (Nat.le_trans hl hml)), sized_all (reE_all (φ := fl c) fun e he => (hq e he).len), reE_getD hi]
    rw [he] at hci ⊢
    simp only [reL, reF] at hci
    simp only [reL, reF, bindE_eq, atK_zero, atK_succ, intK_int, strK_str, boolK_bool, slK_sl, hci, Option.bind_some, svAggK_agg, List.length_cons, List.length_nil, beq_self_eq_true, Nat.reduceAdd, Nat.reduceBEq, guarded_true]
    have hd' : (i + 1) * 3 ≤ es.length * 3 := Nat.mul_le_mul_right 3 hi
    have hg : (0 + i) * 3 + 3 ≤ (rowAt (reE (fl fNew) es) i z).length := by rw [g3, hz, Nat.sub_mul]; omega
    simp only [hg, decide_true, guarded_true]
    rw [Nat.zero_add, hp]
    exact ih _ (by rw [List.length_drop, hz, Nat.sub_mul, Nat.sub_mul]; omega)
theorem t_laws_toEnumDefS_of {c : Fl true} {es : List (List (Leaf false))} (hl : es.length ≤ 1048576) (hq : ∀ e ∈ es, IsEnumDef e) (hd : ∀ e ∈ es, Dd F.laws_toEnumDef [.agg (reL (fl c) e)] [] = some (.agg (reL (fl fNew) e), [])) : Dd F.laws_toEnumDefS [.leaf (.sl c (reE (fl c) es))] [] = some (.leaf (.sl fNew (reE (fl fNew) es)), []) := by
  apply dd_of rfl
  have hb : maxBytes = 140737488355328 := rfl
  rw [run_d_laws_toEnumDefS]
  have hs : decide (es.length ≤ maxBytes) = true := decide_eq_true (by omega)
  have hs2 : decide (es.length * 56 ≤ maxBytes) = true := decide_eq_true (by omega)
  simp only [reE_length, Int.natCast_nonneg, Int.toNat_natCast, beq_self_eq_true, hs, hs2, decide_true, Bool.and_true, Bool.true_and, guarded_true]
  exact laws_toEnumDefS_from hl hq hd 0 (Nat.zero_le _) _ (by simp [List.length_flatten])
theorem t_laws_toEnumDef {c : Fl true} {ls : List (Leaf false)} (h : IsEnumDef ls) : tL ls ≤ 1048576 → Dd F.laws_toEnumDef [.agg (reL (fl c) ls)] [] = some (.agg (reL (fl fNew) ls), []) := by
  cases h with
  | mk s0 s1 e2 h0 h1 h2 q2 =>
    intro hb
    apply dd_of rfl
    simp only [reL, reF]
    rw [run_d_laws_toEnumDef]
    have c2 := t_laws_toDirS (c := c) (show e2.length + tE e2 ≤ 1048576 by simp only [tL, tF] at hb; omega) q2
    try simp [c2]
theorem t_laws_toEnumDefS {c : Fl true} {es : List (List (Leaf false))} (hb : es.length + tE es ≤ 1048576) (hq : ∀ e ∈ es, IsEnumDef e) : Dd F.laws_toEnumDefS [.leaf (.sl c (reE (fl c) es))] [] = some (.leaf (.sl fNew (reE (fl fNew) es)), []) := t_laws_toEnumDefS_of (by omega) hq fun e he => t_laws_toEnumDef (hq e he) (by have := tE_mem he; omega)
theorem laws_toRootS_from {c : Fl true} {es : List (List (Leaf false))} (hl : es.length ≤ 1048576) (hq : ∀ e ∈ es, IsRoot e) (hd : ∀ e ∈ es, Dd F.laws_toRoot [.agg (reL (fl c) e)] [] = some (.agg (reL (fl fNew) e), [])) : ∀ i : Nat, i ≤ es.length → ∀ z : List (SV true), z.length = (es.length - i) * 2 →
    d_laws_toRootS_A Dd (d_laws_toRootS_0 c (reE (fl c) es) es.length i (rowAt (reE (fl fNew) es) i z)) = some (.leaf (.sl fNew (reE (fl fNew) es)), []) := by
  have hall : ∀ e ∈ reE (fl fNew) es, e.length = 2 := reE_all fun e he => (hq e he).len
  have hN : (reE (fl fNew) es).length = es.length := reE_length es
  have hC : (reE (fl c) es).length = es.length := reE_length es
  have hml : (1048576 : Nat) ≤ maxLen := by decide
  refine upto_ind ?_ ?_
  · intro z hz
    have g1 := row_full (z := z) hall
    have g2 := chunks_flatten hall
    have g3 := rowAt_len (z := z) hall (Nat.le_refl _)
    rw [hN] at g1 g2 g3
    try rw [Nat.mul_one] at g1
    rw [d_laws_toRootS_0_eq]
    simp [g1, g2, g3, hC, SV.flatT, SV.flat, Fl.new]
  · intro i hi ih z hz
    have g3 := rowAt_len (z := z) hall (i := i) (by omega)
    have hp := putAt_row (z := z) hall (i := i) (by omega)
    rw [d_laws_toRootS_0_eq]
    have hci := hd _ (List.getElem_mem hi)
    obtain ⟨i0, s1, he, h1⟩ := (hq _ (List.getElem_mem hi)).ex
    rw [reE_get, he] at hp
    simp only [reL, reF, List.map_cons, List.map_nil] at hp
    simp only [Int.ofNat_lt, hi, hC, decide_true, branch_true, Int.natCast_nonneg, Bool.and_true, Int.toNat_natCast, guarded_true, wrap_upL (Nat.lt_of_lt_of_le hi (Nat.le_trans hl hml)), sized_all (reE_all (φ := fl c) fun e he => (hq e he).len), reE_getD hi]
    rw [he] at hci ⊢
    simp only [reL, reF] at hci
    simp only [reL, reF, bindE_eq, atK_zero, atK_succ, intK_int, strK_str, boolK_bool, slK_sl, hci, Option.bind_some, svAggK_agg, List.length_cons, List.length_nil, beq_self_eq_true, Nat.reduceAdd, Nat.reduceBEq, guarded_true]
    have hd' : (i + 1) * 2 ≤ es.length * 2 := Nat.mul_le_mul_right 2 hi
    have hg : (0 + i) * 2 + 2 ≤ (rowAt (reE (fl fNew) es) i z).length := by rw [g3, hz, Nat.sub_mul]; omega
    simp only [hg, decide_true, guarded_true]
    rw [Nat.zero_add, hp]
    exact ih _ (by rw [List.length_drop, hz, Nat.sub_mul, Nat.sub_mul]; omega)
theorem t_laws_toRootS_of {c : Fl true} {es : List (List (Leaf false))} (hl : es.length ≤ 1048576) (hq : ∀ e ∈ es, IsRoot e) (hd : ∀ e ∈ es, Dd F.laws_toRoot [.agg (reL (fl c) e)] [] = some (.agg (reL (fl fNew) e), [])) : Dd F.laws_toRootS [.leaf (.sl c (reE (fl c) es))] [] = some (.leaf (.sl fNew (reE (fl fNew) es)), []) := by
  apply dd_of rfl
  have hb : maxBytes = 140737488355328 := rfl
  rw [run_d_laws_toRootS]
  have hs : decide (es.length ≤ maxBytes) = true := decide_eq_true (by omega)
  have hs2 : decide (es.length * 24 ≤ maxBytes) = true := decide_eq_true (by omega)
  simp only [reE_length, Int.natCast_nonneg, Int.toNat_natCast, beq_self_eq_true, hs, hs2, decide_true, Bool.and_true, Bool.true_and, guarded_true]
  exact laws_toRootS_from hl hq hd 0 (Nat.zero_le _) _ (by simp [List.length_flatten])
theorem t_laws_toRoot {c : Fl true} {ls : List (Leaf false)} (h : IsRoot ls) : tL ls ≤ 1048576 → Dd F.laws_toRoot [.agg (reL (fl c) ls)] [] = some (.agg (reL (fl fNew) ls), []) := by
  cases h with
  | mk i0 s1 h1 =>
    intro hb
    apply dd_of rfl
    simp only [reL, reF]
    rw [run_d_laws_toRoot]
    try simp []
theorem t_laws_toRootS {c : Fl true} {es : List (List (Leaf false))} (hb : es.length + tE es ≤ 1048576) (hq : ∀ e ∈ es, IsRoot e) : Dd F.laws_toRootS [.leaf (.sl c (reE (fl c) es))] [] = some (.leaf (.sl fNew (reE (fl fNew) es)), []) := t_laws_toRootS_of (by omega) hq fun e he => t_laws_toRoot (hq e he) (by have := tE_mem he; omega)
theorem t_laws_toDef {c : Fl true} {ls : List (Leaf false)} (h : IsDef ls) : tL ls ≤ 1048576 → Dd F.laws_toDef [.agg (reL (fl c) ls)] [] = some (.agg (reL (fl fNew) ls), []) := by
  cases h with
  | mk i0 b1 s2 s3 e4 e5 e6 e7 e8 b9 e10 h2 h3 h4 q4 h5 q5 h6 q6 h7 q7 h8 q8 h10 q10 =>
    intro hb
    apply dd_of rfl
    simp only [reL, reF]
    rw [run_d_laws_toDef]
    have c4 := t_laws_toStringS (c := c) (show e4.length ≤ 1048576 by simp only [tL, tF] at hb; omega) q4
    have c5 := t_laws_toFieldDefS (c := c) (show e5.length + tE e5 ≤ 1048576 by simp only [tL, tF] at hb; omega) q5
    have c6 := t_laws_toInDefS (c := c) (show e6.length + tE e6 ≤ 1048576 by simp only [tL, tF] at hb; omega) q6
    have c7 := t_laws_toEnumDefS (c := c) (show e7.length + tE e7 ≤ 1048576 by simp only [tL, tF] at hb; omega) q7
    have c8 := t_laws_toRootS (c := c) (show e8.length + tE e8 ≤ 1048576 by simp only [tL, tF] at hb; omega) q8
    have c10 := t_laws_toDirS (c := c) (show e10.length + tE e10 ≤ 1048576 by simp only [tL, tF] at hb; omega) q10
    try simp [c4, c5, c6, c7, c8, c10]

end Go.Vs
end
section
open Go Go.Vs Go.Proofs
set_option linter.unusedVariables false
set_option linter.unusedSimpArgs false
namespace Go.Vs
theorem t_markText (k : Int) : Dd F.laws_markText [.leaf (.int .i64 k)] [] = some (.leaf (.str (mtx k)), []) :=
  dd_told rfl (d_markText k) rfl rfl rfl
theorem laws_markStringS_from {es : List (List (Leaf false))} (hl : es.length ≤ maxLen) (hq : ∀ e ∈ es, IsStr e) : ∀ i : Nat, i ≤ es.length → ∀ k : Int,
    d_laws_markStringS_A Dd (d_laws_markStringS_0 fSoft (soE es) k i) = some (.leaf (.int .i64 (mkE (es.drop i) k)), []) := by
  have hC : (soE es).length = es.length := soE_length es
  refine upto_ind ?_ ?_
  · intro k; rw [d_laws_markStringS_0_eq]; simp [hC, mkE]
  · intro i hi ih k
    obtain ⟨s, he, hs⟩ := (hq _ (List.getElem_mem hi))
    rw [d_laws_markStringS_0_eq, drop_at hi]
    simp only [Int.ofNat_lt, hi, hC, decide_true, branch_true, Int.natCast_nonneg, Bool.and_true, Int.toNat_natCast, guarded_true, wrap_upL (Nat.lt_of_lt_of_le hi hl), sized_all (soE_all fun e he => (hq e he).len), soE_getD hi, t_markText, Option.bind_some, svLeafK_leaf, strK_str]
    rw [he]
    simp only [soL, soF, atK_zero, atK_succ, slK_sl, softAt, List.getElem?_cons_zero, List.getElem?_cons_succ, soft_isSoft, St.eval, List.getD_cons_zero, List.getD_cons_succ, SV.plain, sizeT3, sizeT4, sizeT9, and_self, ite_true, if_true, ite_yes, true_and, and_true, t_markText, Option.bind_some, svLeafK_leaf, strK_str, intK_int, ih]
    simp only [mkE, mkL, mkF]
theorem t_laws_markStringS {es : List (List (Leaf false))} (hl : es.length ≤ maxLen) (hq : ∀ e ∈ es, IsStr e) (k : Int) : Dd F.laws_markStringS [.leaf (.sl fSoft (soE es)), .leaf (.int .i64 k)] [] = some (.leaf (.int .i64 (mkE es k)), []) := by
  apply dd_of rfl
  rw [run_d_laws_markStringS]
  have := laws_markStringS_from hl hq 0 (Nat.zero_le _) k
  simpa using this
def MkValue (ls : List (Leaf false)) : Prop := ∀ (i0 : Int) (s1 : ByteArray) (e2 : List (List (Leaf false))) (e3 : List (List (Leaf false))), ls = [.int .i64 i0, .str s1, .sl fP e2, .sl fP e3] → (∀ k : Int, Dd F.laws_markValueS [.leaf (.sl fSoft (soE e2)), .leaf (.int .i64 k)] [] = some (.leaf (.int .i64 (mkE e2 k)), []))
theorem laws_markValueS_from {es : List (List (Leaf false))} (hl : es.length ≤ maxLen) (hq : ∀ e ∈ es, IsValue e) (hd : ∀ e ∈ es, MkValue e) : ∀ i : Nat, i ≤ es.length → ∀ k : Int,
    d_laws_markValueS_A Dd (d_laws_markValueS_0 fSoft (soE es) k i) = some (.leaf (.int .i64 (mkE (es.drop i) k)), []) := by
  have hC : (soE es).length = es.length := soE_length es
  refine upto_ind ?_ ?_
  · intro k; rw [d_laws_markValueS_0_eq]; simp [hC, mkE]
  · intro i hi ih k
    have hci := hd _ (List.getElem_mem hi)
    obtain ⟨i0, s1, e2, e3, he, h1, h2, q2, h3, q3⟩ := (hq _ (List.getElem_mem hi)).ex
    rw [d_laws_markValueS_0_eq, drop_at hi]
    simp only [Int.ofNat_lt, hi, hC, decide_true, branch_true, Int.natCast_nonneg, Bool.and_true, Int.toNat_natCast, guarded_true, wrap_upL (Nat.lt_of_lt_of_le hi hl), sized_all (soE_all fun e he => (hq e he).len), soE_getD hi, t_markText, Option.bind_some, svLeafK_leaf, strK_str]
    rw [he]
    have c2 := hci i0 s1 e2 e3 he
    have c3 := t_laws_markStringS h3 q3
    simp only [soL, soF, atK_zero, atK_succ, slK_sl, softAt, List.getElem?_cons_zero, List.getElem?_cons_succ, soft_isSoft, St.eval, List.getD_cons_zero, List.getD_cons_succ, SV.plain, sizeT3, sizeT4, sizeT9, and_self, ite_true, if_true, ite_yes, true_and, and_true, c2, c3, t_markText, Option.bind_some, svLeafK_leaf, strK_str, intK_int, ih]
    simp only [mkE, mkL, mkF]
theorem t_laws_markValueS_of {es : List (List (Leaf false))} (hl : es.length ≤ maxLen) (hq : ∀ e ∈ es, IsValue e) (hd : ∀ e ∈ es, MkValue e) (k : Int) : Dd F.laws_markValueS [.leaf (.sl fSoft (soE es)), .leaf (.int .i64 k)] [] = some (.leaf (.int .i64 (mkE es k)), []) := by
  apply dd_of rfl
  rw [run_d_laws_markValueS]
  have := laws_markValueS_from hl hq hd 0 (Nat.zero_le _) k
  simpa using this
theorem mkValue {ls : List (Leaf false)} (h : IsValue ls) : MkValue ls := by
  induction h with
  | mk i0 s1 e2 e3 h1 h2 q2 h3 q3 ih2 =>
    intro y0 y1 y2 y3 heq
    simp only [List.cons.injEq, Leaf.int.injEq, Leaf.str.injEq, Leaf.sl.injEq, and_true, true_and] at heq
    obtain ⟨rfl, rfl, rfl, rfl⟩ := heq
    exact t_laws_markValueS_of h2 q2 ih2
theorem t_laws_markValueS {es : List (List (Leaf false))} (hl : es.length ≤ maxLen) (hq : ∀ e ∈ es, IsValue e) (k : Int) : Dd F.laws_markValueS [.leaf (.sl fSoft (soE es)), .leaf (.int .i64 k)] [] = some (.leaf (.int .i64 (mkE es k)), []) := t_laws_markValueS_of hl hq (fun e he => mkValue (hq e he)) k
theorem laws_markArgS_from {es : List (List (Leaf false))} (hl : es.length ≤ maxLen) (hq : ∀ e ∈ es, IsArg e) : ∀ i : Nat, i ≤ es.length → ∀ k : Int,
    d_laws_markArgS_A Dd (d_laws_markArgS_0 fSoft (soE es) k i) = some (.leaf (.int .i64 (mkE (es.drop i) k)), []) := by
  have hC : (soE es).length = es.length := soE_length es
  refine upto_ind ?_ ?_
  · intro k; rw [d_laws_markArgS_0_eq]; simp [hC, mkE]
  · intro i hi ih k
    obtain ⟨s0, i1, s2, e3, e4, he, h0, h2, h3, q3, h4, q4⟩ := (hq _ (List.getElem_mem hi)).ex
    rw [d_laws_markArgS_0_eq, drop_at hi]
    simp only [Int.ofNat_lt, hi, hC, decide_true, branch_true, Int.natCast_nonneg, Bool.and_true, Int.toNat_natCast, guarded_true, wrap_upL (Nat.lt_of_lt_of_le hi hl), sized_all (soE_all fun e he => (hq e he).len), soE_getD hi, t_markText, Option.bind_some, svLeafK_leaf, strK_str]
    rw [he]
    have c3 := t_laws_markValueS h3 q3
    have c4 := t_laws_markStringS h4 q4
    simp only [soL, soF, atK_zero, atK_succ, slK_sl, softAt, List.getElem?_cons_zero, List.getElem?_cons_succ, soft_isSoft, St.eval, List.getD_cons_zero, List.getD_cons_succ, SV.plain, sizeT3, sizeT4, sizeT9, and_self, ite_true, if_true, ite_yes, true_and, and_true, c3, c4, t_markText, Option.bind_some, svLeafK_leaf, strK_str, intK_int, ih]
    simp only [mkE, mkL, mkF]
theorem t_laws_markArgS {es : List (List (Leaf false))} (hl : es.length ≤ maxLen) (hq : ∀ e ∈ es, IsArg e) (k : Int) : Dd F.laws_markArgS [.leaf (.sl fSoft (soE es)), .leaf (.int .i64 k)] [] = some (.leaf (.int .i64 (mkE es k)), []) := by
  apply dd_of rfl
  rw [run_d_laws_markArgS]
  have := laws_markArgS_from hl hq 0 (Nat.zero_le _) k
  simpa using this
theorem laws_markDirS_from {es : List (List (Leaf false))} (hl : es.length ≤ maxLen) (hq : ∀ e ∈ es, IsDir e) : ∀ i : Nat, i ≤ es.length → ∀ k : Int,
    d_laws_markDirS_A Dd (d_laws_markDirS_0 fSoft (soE es) k i) = some (.leaf (.int .i64 (mkE (es.drop i) k)), []) := by
  have hC : (soE es).length = es.length := soE_length es
  refine upto_ind ?_ ?_
  · intro k; rw [d_laws_markDirS_0_eq]; simp [hC, mkE]
  · intro i hi ih k
    obtain ⟨s0, e1, he, h0, h1, q1⟩ := (hq _ (List.getElem_mem hi)).ex
    rw [d_laws_markDirS_0_eq, drop_at hi]
    simp only [Int.ofNat_lt, hi, hC, decide_true, branch_true, Int.natCast_nonneg, Bool.and_true, Int.toNat_natCast, guarded_true, wrap_upL (Nat.lt_of_lt_of_le hi hl), sized_all (soE_all fun e he => (hq e he).len), soE_getD hi, t_markText, Option.bind_some, svLeafK_leaf, strK_str]
    rw [he]
    have c1 := t_laws_markArgS h1 q1
    simp only [soL, soF, atK_zero, atK_succ, slK_sl, softAt, List.getElem?_cons_zero, List.getElem?_cons_succ, soft_isSoft, St.eval, List.getD_cons_zero, List.getD_cons_succ, SV.plain, sizeT3, sizeT4, sizeT9, and_self, ite_true, if_true, ite_yes, true_and, and_true, c1, t_markText, Option.bind_some, svLeafK_leaf, strK_str, intK_int, ih]
    simp only [mkE, mkL, mkF]
theorem t_laws_markDirS {es : List (List (Leaf false))} (hl : es.length ≤ maxLen) (hq : ∀ e ∈ es, IsDir e) (k : Int) : Dd F.laws_markDirS [.leaf (.sl fSoft (soE es)), .leaf (.int .i64 k)] [] = some (.leaf (.int .i64 (mkE es k)), []) := by
  apply dd_of rfl
  rw [run_d_laws_markDirS]
  have := laws_markDirS_from hl hq 0 (Nat.zero_le _) k
  simpa using this
theorem laws_markInDefS_from {es : List (List (Leaf false))} (hl : es.length ≤ maxLen) (hq : ∀ e ∈ es, IsInDef e) : ∀ i : Nat, i ≤ es.length → ∀ k : Int,
    d_laws_markInDefS_A Dd (d_laws_markInDefS_0 fSoft (soE es) k i) = some (.leaf (.int .i64 (mkE (es.drop i) k)), []) := by
  have hC : (soE es).length = es.length := soE_length es
  refine upto_ind ?_ ?_
  · intro k; rw [d_laws_markInDefS_0_eq]; simp [hC, mkE]
  · intro i hi ih k
    obtain ⟨s0, s1, s2, s3, b4, i5, s6, e7, e8, e9, he, h0, h1, h2, h3, h6, h7, q7, h8, q8, h9, q9⟩ := (hq _ (List.getElem_mem hi)).ex
    rw [d_laws_markInDefS_0_eq, drop_at hi]
    simp only [Int.ofNat_lt, hi, hC, decide_true, branch_true, Int.natCast_nonneg, Bool.and_true, Int.toNat_natCast, guarded_true, wrap_upL (Nat.lt_of_lt_of_le hi hl), sized_all (soE_all fun e he => (hq e he).len), soE_getD hi, t_markText, Option.bind_some, svLeafK_leaf, strK_str]
    rw [he]
    have c7 := t_laws_markValueS h7 q7
    have c8 := t_laws_markStringS h8 q8
    have c9 := t_laws_markDirS h9 q9
    simp only [soL, soF, atK_zero, atK_succ, slK_sl, softAt, List.getElem?_cons_zero, List.getElem?_cons_succ, soft_isSoft, St.eval, List.getD_cons_zero, List.getD_cons_succ, SV.plain, sizeT3, sizeT4, sizeT9, and_self, ite_true, if_true, ite_yes, true_and, and_true, c7, c8, c9, t_markText, Option.bind_some, svLeafK_leaf, strK_str, intK_int, ih]
    simp only [mkE, mkL, mkF]
theorem t_laws_markInDefS {es : List (List (Leaf false))} (hl : es.length ≤ maxLen) (hq : ∀ e ∈ es, IsInDef e) (k : Int) : Dd F.laws_markInDefS [.leaf (.sl fSoft (soE es)), .leaf (.int .i64 k)] [] = some (.leaf (.int .i64 (mkE es k)), []) := by
  apply dd_of rfl
  rw [run_d_laws_markInDefS]
  have := laws_markInDefS_from hl hq 0 (Nat.zero_le _) k
  simpa using this
theorem laws_markFieldDefS_from {es : List (List (Leaf false))} (hl : es.length ≤ maxLen) (hq : ∀ e ∈ es, IsFieldDef e) : ∀ i : Nat, i ≤ es.length → ∀ k : Int,
    d_laws_markFieldDefS_A Dd (d_laws_markFieldDefS_0 fSoft (soE es) k i) = some (.leaf (.int .i64 (mkE (es.drop i) k)), []) := by
  have hC : (soE es).length = es.length := soE_length es
  refine upto_ind ?_ ?_
  · intro k; rw [d_laws_markFieldDefS_0_eq]; simp [hC, mkE]
  · intro i hi ih k
    obtain ⟨s0, s1, e2, s3, s4, e5, he, h0, h1, h2, q2, h3, h4, h5, q5⟩ := (hq _ (List.getElem_mem hi)).ex
    rw [d_laws_markFieldDefS_0_eq, drop_at hi]
    simp only [Int.ofNat_lt, hi, hC, decide_true, branch_true, Int.natCast_nonneg, Bool.and_true, Int.toNat_natCast, guarded_true, wrap_upL (Nat.lt_of_lt_of_le hi hl), sized_all (soE_all fun e he => (hq e he).len), soE_getD hi, t_markText, Option.bind_some, svLeafK_leaf, strK_str]
    rw [he]
    have c2 := t_laws_markInDefS h2 q2
    have c5 := t_laws_markDirS h5 q5
    simp only [soL, soF, atK_zero, atK_succ, slK_sl, softAt, List.getElem?_cons_zero, List.getElem?_cons_succ, soft_isSoft, St.eval, List.getD_cons_zero, List.getD_cons_succ, SV.plain, sizeT3, sizeT4, sizeT9, and_self, ite_true, if_true, ite_yes, true_and, and_true, c2, c5, t_markText, Option.bind_some, svLeafK_leaf, strK_str, intK_int, ih]
    simp only [mkE, mkL, mkF]
theorem t_laws_markFieldDefS {es : List (List (Leaf false))} (hl : es.length ≤ maxLen) (hq : ∀ e ∈ es, IsFieldDef e) (k : Int) : Dd F.laws_markFieldDefS [.leaf (.sl fSoft (soE es)), .leaf (.int .i64 k)] [] = some (.leaf (.int .i64 (mkE es k)), []) := by
  apply dd_of rfl
  rw [run_d_laws_markFieldDefS]
  have := laws_markFieldDefS_from hl hq 0 (Nat.zero_le _) k
  simpa using this
theorem laws_markEnumDefS_from {es : List (List (Leaf false))} (hl : es.length ≤ maxLen) (hq : ∀ e ∈ es, IsEnumDef e) : ∀ i : Nat, i ≤ es.length → ∀ k : Int,
    d_laws_markEnumDefS_A Dd (d_laws_markEnumDefS_0 fSoft (soE es) k i) = some (.leaf (.int .i64 (mkE (es.drop i) k)), []) := by
  have hC : (soE es).length = es.length := soE_length es
  refine upto_ind ?_ ?_
  · intro k; rw [d_laws_markEnumDefS_0_eq]; simp [hC, mkE]
  · intro i hi ih k
    obtain ⟨s0, s1, e2, he, h0, h1, h2, q2⟩ := (hq _ (List.getElem_mem hi)).ex
    rw [d_laws_markEnumDefS_0_eq, drop_at hi]
    simp only [Int.ofNat_lt, hi, hC, decide_true, branch_true, Int.natCast_nonneg, Bool.and_true, Int.toNat_natCast, guarded_true, wrap_upL (Nat.lt_of_lt_of_le hi hl), sized_all (soE_all fun e he => (hq e he).len), soE_getD hi, t_markText, Option.bind_some, svLeafK_leaf, strK_str]
    rw [he]
    have c2 := t_laws_markDirS h2 q2
    simp only [soL, soF, atK_zero, atK_succ, slK_sl, softAt, List.getElem?_cons_zero, List.getElem?_cons_succ, soft_isSoft, St.eval, List.getD_cons_zero, List.getD_cons_succ, SV.plain, sizeT3, sizeT4, sizeT9, and_self, ite_true, if_true, ite_yes, true_and, and_true, c2, t_markText, Option.bind_some, svLeafK_leaf, strK_str, intK_int, ih]
    simp only [mkE, mkL, mkF]
theorem t_laws_markEnumDefS {es : List (List (Leaf false))} (hl : es.length ≤ maxLen) (hq : ∀ e ∈ es, IsEnumDef e) (k : Int) : Dd F.laws_markEnumDefS [.leaf (.sl fSoft (soE es)), .leaf (.int .i64 k)] [] = some (.leaf (.int .i64 (mkE es k)), []) := by
  apply dd_of rfl
  rw [run_d_laws_markEnumDefS]
  have := laws_markEnumDefS_from hl hq 0 (Nat.zero_le _) k
  simpa using this
theorem laws_markRootS_from {es : List (List (Leaf false))} (hl : es.length ≤ maxLen) (hq : ∀ e ∈ es, IsRoot e) : ∀ i : Nat, i ≤ es.length → ∀ k : Int,
    d_laws_markRootS_A Dd (d_laws_markRootS_0 fSoft (soE es) k i) = some (.leaf (.int .i64 (mkE (es.drop i) k)), []) := by
  have hC : (soE es).length = es.length := soE_length es
  refine upto_ind ?_ ?_
  · intro k; rw [d_laws_markRootS_0_eq]; simp [hC, mkE]
  · intro i hi ih k
    obtain ⟨i0, s1, he, h1⟩ := (hq _ (List.getElem_mem hi)).ex
    rw [d_laws_markRootS_0_eq, drop_at hi]
    simp only [Int.ofNat_lt, hi, hC, decide_true, branch_true, Int.natCast_nonneg, Bool.and_true, Int.toNat_natCast, guarded_true, wrap_upL (Nat.lt_of_lt_of_le hi hl), sized_all (soE_all fun e he => (hq e he).len), soE_getD hi, t_markText, Option.bind_some, svLeafK_leaf, strK_str]
    rw [he]
    simp only [soL, soF, atK_zero, atK_succ, slK_sl, softAt, List.getElem?_cons_zero, List.getElem?_cons_succ, soft_isSoft, St.eval, List.getD_cons_zero, List.getD_cons_succ, SV.plain, sizeT3, sizeT4, sizeT9, and_self, ite_true, if_true, ite_yes, true_and, and_true, t_markText, Option.bind_some, svLeafK_leaf, strK_str, intK_int, ih]
    simp only [mkE, mkL, mkF]
theorem t_laws_markRootS {es : List (List (Leaf false))} (hl : es.length ≤ maxLen) (hq : ∀ e ∈ es, IsRoot e) (k : Int) : Dd F.laws_markRootS [.leaf (.sl fSoft (soE es)), .leaf (.int .i64 k)] [] = some (.leaf (.int .i64 (mkE es k)), []) := by
  apply dd_of rfl
  rw [run_d_laws_markRootS]
  have := laws_markRootS_from hl hq 0 (Nat.zero_le _) k
  simpa using this
theorem t_laws_markDef {ls : List (Leaf false)} (h : IsDef ls) (k : Int) : Dd F.laws_markDef [.agg (saL ls), .leaf (.int .i64 k)] [] = some (.leaf (.int .i64 (msL ls k)), []) := by
  cases h with
  | mk i0 b1 s2 s3 e4 e5 e6 e7 e8 b9 e10 h2 h3 h4 q4 h5 q5 h6 q6 h7 q7 h8 q8 h10 q10 =>
    apply dd_of rfl
    simp only [saL, saF]
    rw [run_d_laws_markDef]
    simp only [t_laws_markStringS h4 q4, t_laws_markFieldDefS h5 q5, t_laws_markInDefS h6 q6, t_laws_markEnumDefS h7 q7, t_laws_markRootS h8 q8, t_laws_markDirS h10 q10, Option.bind_some, svLeafK_leaf, intK_int, msL]

end Go.Vs
end
section
open Go Go.Vs Go.Proofs
set_option linter.unusedVariables false
set_option linter.unusedSimpArgs false
namespace Go.Vs
theorem laws_eqStringS_from {es : List (List (Leaf false))} (hl : es.length ≤ maxLen) (hq : ∀ e ∈ es, IsStr e) : ∀ i : Nat, i ≤ es.length →
    laws_eqStringS_A Dn (laws_eqStringS_0 es es i) = some (vbool true, []) := by
  refine upto_ind ?_ ?_
  · rw [laws_eqStringS_0_eq]; simp
  · intro i hi ih
    obtain ⟨s, he, hs⟩ := hq _ (List.getElem_mem hi)
    rw [laws_eqStringS_0_eq]
    simp only [Int.ofNat_lt, hi, decide_true, branch_true, Int.natCast_nonneg, Bool.and_true, Int.toNat_natCast, guarded_true, wrap_upL (Nat.lt_of_lt_of_le hi hl), sized_all (fun e he => (hq e he).len), getD_lt hi]
    rw [he]
    simp only [atK_zero, strK_str, beq_self_eq_true, Bool.not_true, branch_false]
    exact ih
theorem d_laws_eqStringS {es : List (List (Leaf false))} (hl : es.length ≤ maxLen) (hq : ∀ e ∈ es, IsStr e) : Dn F.laws_eqStringS [vsl es, vsl es] [] = some (vbool true, []) := by
  apply den_of
  rw [run_laws_eqStringS]
  have := laws_eqStringS_from hl hq 0 (Nat.zero_le _)
  simpa using this
theorem d_laws_eqType {ls : List (Leaf false)} (h : IsType ls) : Dn F.laws_eqType [.agg ls, .agg ls] [] = some (vbool true, []) := by
  cases h with
  | mk s0 s1 h0 h1 =>
    apply den_of
    rw [run_laws_eqType]
    simp []
theorem laws_eqValueS_from {es : List (List (Leaf false))} (hl : es.length ≤ maxLen) (hq : ∀ e ∈ es, IsValue e) (hd : ∀ e ∈ es, Dn F.laws_eqValue [.agg e, .agg e] [] = some (vbool true, [])) : ∀ i : Nat, i ≤ es.length →
    laws_eqValueS_A Dn (laws_eqValueS_0 es es i) = some (vbool true, []) := by
  refine upto_ind ?_ ?_
  · rw [laws_eqValueS_0_eq]; simp
  · intro i hi ih
    have hci := hd _ (List.getElem_mem hi)
    obtain ⟨i0, s1, e2, e3, he, h1, h2, q2, h3, q3⟩ := (hq _ (List.getElem_mem hi)).ex
    rw [laws_eqValueS_0_eq]
    simp only [Int.ofNat_lt, hi, decide_true, branch_true, Int.natCast_nonneg, Bool.and_true, Int.toNat_natCast, guarded_true, wrap_upL (Nat.lt_of_lt_of_le hi hl), sized_all (fun e he => (hq e he).len), getD_lt hi]
    rw [he] at hci ⊢
    simp only [bindE_eq, atK_zero, atK_succ, intK_int, strK_str, boolK_bool, slK_sl, hci, Option.bind_some, svLeafK_leaf, Bool.not_true, branch_false]
    exact ih
theorem d_laws_eqValueS_of {es : List (List (Leaf false))} (hl : es.length ≤ maxLen) (hq : ∀ e ∈ es, IsValue e) (hd : ∀ e ∈ es, Dn F.laws_eqValue [.agg e, .agg e] [] = some (vbool true, [])) : Dn F.laws_eqValueS [vsl es, vsl es] [] = some (vbool true, []) := by
  apply den_of
  rw [run_laws_eqValueS]
  have := laws_eqValueS_from hl hq hd 0 (Nat.zero_le _)
  simpa using this
theorem d_laws_eqValue {ls : List (Leaf false)} (h : IsValue ls) : Dn F.laws_eqValue [.agg ls, .agg ls] [] = some (vbool true, []) := by
  induction h with
  | mk i0 s1 e2 e3 h1 h2 q2 h3 q3 ih2 =>
    apply den_of
    rw [run_laws_eqValue]
    have c2 := d_laws_eqValueS_of h2 q2 ih2
    have c3 := d_laws_eqStringS h3 q3
    simp [c2, c3]
theorem d_laws_eqValueS {es : List (List (Leaf false))} (hl : es.length ≤ maxLen) (hq : ∀ e ∈ es, IsValue e) : Dn F.laws_eqValueS [vsl es, vsl es] [] = some (vbool true, []) := d_laws_eqValueS_of hl hq fun e he => d_laws_eqValue (hq e he)
theorem laws_eqArgS_from {es : List (List (Leaf false))} (hl : es.length ≤ maxLen) (hq : ∀ e ∈ es, IsArg e) (hd : ∀ e ∈ es, Dn F.laws_eqArg [.agg e, .agg e] [] = some (vbool true, [])) : ∀ i : Nat, i ≤ es.length →
    laws_eqArgS_A Dn (laws_eqArgS_0 es es i) = some (vbool true, []) := by
  refine upto_ind ?_ ?_
  · rw [laws_eqArgS_0_eq]; simp
  · intro i hi ih
    have hci := hd _ (List.getElem_mem hi)
    obtain ⟨s0, i1, s2, e3, e4, he, h0, h2, h3, q3, h4, q4⟩ := (hq _ (List.getElem_mem hi)).ex
    rw [laws_eqArgS_0_eq]
    simp only [Int.ofNat_lt, hi, decide_true, branch_true, Int.natCast_nonneg, Bool.and_true, Int.toNat_natCast, guarded_true, wrap_upL (Nat.lt_of_lt_of_le hi hl), sized_all (fun e he => (hq e he).len), getD_lt hi]
    rw [he] at hci ⊢
    simp only [bindE_eq, atK_zero, atK_succ, intK_int, strK_str, boolK_bool, slK_sl, hci, Option.bind_some, svLeafK_leaf, Bool.not_true, branch_false]
    exact ih
theorem d_laws_eqArgS_of {es : List (List (Leaf false))} (hl : es.length ≤ maxLen) (hq : ∀ e ∈ es, IsArg e) (hd : ∀ e ∈ es, Dn F.laws_eqArg [.agg e, .agg e] [] = some (vbool true, [])) : Dn F.laws_eqArgS [vsl es, vsl es] [] = some (vbool true, []) := by
  apply den_of
  rw [run_laws_eqArgS]
  have := laws_eqArgS_from hl hq hd 0 (Nat.zero_le _)
  simpa using this
theorem d_laws_eqArg {ls : List (Leaf false)} (h : IsArg ls) : Dn F.laws_eqArg [.agg ls, .agg ls] [] = some (vbool true, []) := by
  cases h with
  | mk s0 i1 s2 e3 e4 h0 h2 h3 q3 h4 q4 =>
    apply den_of
    rw [run_laws_eqArg]
    have c1 := d_laws_eqValue (.mk i1 s2 e3 e4 h2 h3 q3 h4 q4)
    simp [c1]
theorem d_laws_eqArgS {es : List (List (Leaf false))} (hl : es.length ≤ maxLen) (hq : ∀ e ∈ es, IsArg e) : Dn F.laws_eqArgS [vsl es, vsl es] [] = some (vbool true, []) := d_laws_eqArgS_of hl hq fun e he => d_laws_eqArg (hq e he)
theorem laws_eqDirS_from {es : List (List (Leaf false))} (hl : es.length ≤ maxLen) (hq : ∀ e ∈ es, IsDir e) (hd : ∀ e ∈ es, Dn F.laws_eqDir [.agg e, .agg e] [] = some (vbool true, [])) : ∀ i : Nat, i ≤ es.length →
    laws_eqDirS_A Dn (laws_eqDirS_0 es es i) = some (vbool true, []) := by
  refine upto_ind ?_ ?_
  · rw [laws_eqDirS_0_eq]; simp
  · intro i hi ih
    have hci := hd _ (List.getElem_mem hi)
    obtain ⟨s0, e1, he, h0, h1, q1⟩ := (hq _ (List.getElem_mem hi)).ex
    rw [laws_eqDirS_0_eq]
    simp only [Int.ofNat_lt, hi, decide_true, branch_true, Int.natCast_nonneg, Bool.and_true, Int.toNat_natCast, guarded_true, wrap_upL (Nat.lt_of_lt_of_le hi hl), sized_all (fun e he => (hq e he).len), getD_lt hi]
    rw [he] at hci ⊢
    simp only [bindE_eq, atK_zero, atK_succ, intK_int, strK_str, boolK_bool, slK_sl, hci, Option.bind_some, svLeafK_leaf, Bool.not_true, branch_false]
    exact ih
theorem d_laws_eqDirS_of {es : List (List (Leaf false))} (hl : es.length ≤ maxLen) (hq : ∀ e ∈ es, IsDir e) (hd : ∀ e ∈ es, Dn F.laws_eqDir [.agg e, .agg e] [] = some (vbool true, [])) : Dn F.laws_eqDirS [vsl es, vsl es] [] = some (vbool true, []) := by
  apply den_of
  rw [run_laws_eqDirS]
  have := laws_eqDirS_from hl hq hd 0 (Nat.zero_le _)
  simpa using this
theorem d_laws_eqDir {ls : List (Leaf false)} (h : IsDir ls) : Dn F.laws_eqDir [.agg ls, .agg ls] [] = some (vbool true, []) := by
  cases h with
  | mk s0 e1 h0 h1 q1 =>
    apply den_of
    rw [run_laws_eqDir]
    have c1 := d_laws_eqArgS h1 q1
    simp [c1]
theorem d_laws_eqDirS {es : List (List (Leaf false))} (hl : es.length ≤ maxLen) (hq : ∀ e ∈ es, IsDir e) : Dn F.laws_eqDirS [vsl es, vsl es] [] = some (vbool true, []) := d_laws_eqDirS_of hl hq fun e he => d_laws_eqDir (hq e he)
theorem laws_eqInDefS_from {es : List (List (Leaf false))} (hl : es.length ≤ maxLen) (hq : ∀ e ∈ es, IsInDef e) (hd : ∀ e ∈ es, Dn F.laws_eqInDef [.agg e, .agg e] [] = some (vbool true, [])) : ∀ i : Nat, i ≤ es.length →
    laws_eqInDefS_A Dn (laws_eqInDefS_0 es es i) = some (vbool true, []) := by
  refine upto_ind ?_ ?_
  · rw [laws_eqInDefS_0_eq]; simp
  · intro i hi ih
    have hci := hd _ (List.getElem_mem hi)
    obtain ⟨s0, s1, s2, s3, b4, i5, s6, e7, e8, e9, he, h0, h1, h2, h3, h6, h7, q7, h8, q8, h9, q9⟩ := (hq _ (List.getElem_mem hi)).ex
    rw [laws_eqInDefS_0_eq]
    simp only [Int.ofNat_lt, hi, decide_true, branch_true, Int.natCast_nonneg, Bool.and_true, Int.toNat_natCast, guarded_true, wrap_upL (Nat.lt_of_lt_of_le hi hl), sized_all (fun e he => (hq e he).len), getD_lt hi]
    rw [he] at hci ⊢
    simp only [bindE_eq, atK_zero, atK_succ, intK_int, strK_str, boolK_bool, slK_sl, hci, Option.bind_some, svLeafK_leaf, Bool.not_true, branch_false]
    exact ih
theorem d_laws_eqInDefS_of {es : List (List (Leaf false))} (hl : es.length ≤ maxLen) (hq : ∀ e ∈ es, IsInDef e) (hd : ∀ e ∈ es, Dn F.laws_eqInDef [.agg e, .agg e] [] = some (vbool true, [])) : Dn F.laws_eqInDefS [vsl es, vsl es] [] = some (vbool true, []) := by
  apply den_of
  rw [run_laws_eqInDefS]
  have := laws_eqInDefS_from hl hq hd 0 (Nat.zero_le _)
  simpa using this
theorem d_laws_eqInDef {ls : List (Leaf false)} (h : IsInDef ls) : Dn F.laws_eqInDef [.agg ls, .agg ls] [] = some (vbool true, []) := by
  cases h with
  | mk s0 s1 s2 s3 b4 i5 s6 e7 e8 e9 h0 h1 h2 h3 h6 h7 q7 h8 q8 h9 q9 =>
    apply den_of
    rw [run_laws_eqInDef]
    have c2 := d_laws_eqType (.mk s2 s3 h2 h3)
    have c5 := d_laws_eqValue (.mk i5 s6 e7 e8 h6 h7 q7 h8 q8)
    have c9 := d_laws_eqDirS h9 q9
    simp [c2, c5, c9]
theorem d_laws_eqInDefS {es : List (List (Leaf false))} (hl : es.length ≤ maxLen) (hq : ∀ e ∈ es, IsInDef e) : Dn F.laws_eqInDefS [vsl es, vsl es] [] = some (vbool true, []) := d_laws_eqInDefS_of hl hq fun e he => d_laws_eqInDef (hq e he)
theorem laws_eqFieldDefS_from {es : List (List (Leaf false))} (hl : es.length ≤ maxLen) (hq : ∀ e ∈ es, IsFieldDef e) (hd : ∀ e ∈ es, Dn F.laws_eqFieldDef [.agg e, .agg e] [] = some (vbool true, [])) : ∀ i : Nat, i ≤ es.length →
    laws_eqFieldDefS_A Dn (laws_eqFieldDefS_0 es es i) = some (vbool true, []) := by
  refine upto_ind ?_ ?_
  · rw [laws_eqFieldDefS_0_eq]; simp
  · intro i hi ih
    have hci := hd _ (List.getElem_mem hi)
    obtain ⟨s0, s1, e2, s3, s4, e5, he, h0, h1, h2, q2, h3, h4, h5, q5⟩ := (hq _ (List.getElem_mem hi)).ex
    rw [laws_eqFieldDefS_0_eq]
    simp only [Int.ofNat_lt, hi, decide_true, branch_true, Int.natCast_nonneg, Bool.and_true, Int.toNat_natCast, guarded_true, wrap_upL (Nat.lt_of_lt_of_le hi hl), sized_all (fun e he => (hq e he).len), getD_lt hi]
    rw [he] at hci ⊢
    simp only [bindE_eq, atK_zero, atK_succ, intK_int, strK_str, boolK_bool, slK_sl, hci, Option.bind_some, svLeafK_leaf, Bool.not_true, branch_false]
    exact ih
theorem d_laws_eqFieldDefS_of {es : List (List (Leaf false))} (hl : es.length ≤ maxLen) (hq : ∀ e ∈ es, IsFieldDef e) (hd : ∀ e ∈ es, Dn F.laws_eqFieldDef [.agg e, .agg e] [] = some (vbool true, [])) : Dn F.laws_eqFieldDefS [vsl es, vsl es] [] = some (vbool true, []) := by
  apply den_of
  rw [run_laws_eqFieldDefS]
  have := laws_eqFieldDefS_from hl hq hd 0 (Nat.zero_le _)
  simpa using this
theorem d_laws_eqFieldDef {ls : List (Leaf false)} (h : IsFieldDef ls) : Dn F.laws_eqFieldDef [.agg ls, .agg ls] [] = some (vbool true, []) := by
  cases h with
  | mk s0 s1 e2 s3 s4 e5 h0 h1 h2 q2 h3 h4 h5 q5 =>
    apply den_of
    rw [run_laws_eqFieldDef]
    have c2 := d_laws_eqInDefS h2 q2
    have c3 := d_laws_eqType (.mk s3 s4 h3 h4)
    have c5 := d_laws_eqDirS h5 q5
    simp [c2, c3, c5]
theorem d_laws_eqFieldDefS {es : List (List (Leaf false))} (hl : es.length ≤ maxLen) (hq : ∀ e ∈ es, IsFieldDef e) : Dn F.laws_eqFieldDefS [vsl es, vsl es] [] = some (vbool true, []) := d_laws_eqFieldDefS_of hl hq fun e he => d_laws_eqFieldDef (hq e he)
theorem laws_eqEnumDefS_from {es : List (List (Leaf false))} (hl : es.length ≤ maxLen) (hq : ∀ e ∈ es, IsEnumDef e) (hd : ∀ e ∈ es, Dn F.laws_eqEnumDef [.agg e, .agg e] [] = some (vbool true, [])) : ∀ i : Nat, i ≤ es.length →
    laws_eqEnumDefS_A Dn (laws_eqEnumDefS_0 es es i) = some (vbool true, []) := by
  refine upto_ind ?_ ?_
  · rw [laws_eqEnumDefS_0_eq]; simp
  · intro i hi ih
    have hci := hd _ (List.getElem_mem hi)
    obtain ⟨s0, s1, e2, he, h0, h1, h2, q2⟩ := (hq _ (List.getElem_mem hi)).ex
    rw [laws_eqEnumDefS_0_eq]
    simp only [Int.ofNat_lt, hi, decide_true, branch_true, Int.natCast_nonneg, Bool.and_true, Int.toNat_natCast, guarded_true, wrap_upL (Nat.lt_of_lt_of_le hi hl), sized_all (fun e he => (hq e he).len), getD_lt hi]
    rw [he] at hci ⊢
    simp only [bindE_eq, atK_zero, atK_succ, intK_int, strK_str, boolK_bool, slK_sl, hci, Option.bind_some, svLeafK_leaf, Bool.not_true, branch_false]
    exact ih
theorem d_laws_eqEnumDefS_of {es : List (List (Leaf false))} (hl : es.length ≤ maxLen) (hq : ∀ e ∈ es, IsEnumDef e) (hd : ∀ e ∈ es, Dn F.laws_eqEnumDef [.agg e, .agg e] [] = some (vbool true, [])) : Dn F.laws_eqEnumDefS [vsl es, vsl es] [] = some (vbool true, []) := by
  apply den_of
  rw [run_laws_eqEnumDefS]
  have := laws_eqEnumDefS_from hl hq hd 0 (Nat.zero_le _)
  simpa using this
theorem d_laws_eqEnumDef {ls : List (Leaf false)} (h : IsEnumDef ls) : Dn F.laws_eqEnumDef [.agg ls, .agg ls] [] = some (vbool true, []) := by
  cases h with
  | mk s0 s1 e2 h0 h1 h2 q2 =>
    apply den_of
    rw [run_laws_eqEnumDef]
    have c2 := d_laws_eqDirS h2 q2
    simp [c2]
theorem d_laws_eqEnumDefS {es : List (List (Leaf false))} (hl : es.length ≤ maxLen) (hq : ∀ e ∈ es, IsEnumDef e) : Dn F.laws_eqEnumDefS [vsl es, vsl es] [] = some (vbool true, []) := d_laws_eqEnumDefS_of hl hq fun e he => d_laws_eqEnumDef (hq e he)
theorem laws_eqRootS_from {es : List (List (Leaf false))} (hl : es.length ≤ maxLen) (hq : ∀ e ∈ es, IsRoot e) (hd : ∀ e ∈ es, Dn F.laws_eqRoot [.agg e, .agg e] [] = some (vbool true, [])) : ∀ i : Nat, i ≤ es.length →
    laws_eqRootS_A Dn (laws_eqRootS_0 es es i) = some (vbool true, []) := by
  refine upto_ind ?_ ?_
  · rw [laws_eqRootS_0_eq]; simp
  · intro i hi ih
    have hci := hd _ (List.getElem_mem hi)
    obtain ⟨i0, s1, he, h1⟩ := (hq _ (List.getElem_mem hi)).ex
    rw [laws_eqRootS_0_eq]
    simp only [Int.ofNat_lt, hi, decide_true, branch_true, Int.natCast_nonneg, Bool.and_true, Int.toNat_natCast, guarded_true, wrap_upL (Nat.lt_of_lt_of_le hi hl), sized_all (fun e he => (hq e he).len), getD_lt hi]
    rw [he] at hci ⊢
    simp only [bindE_eq, atK_zero, atK_succ, intK_int, strK_str, boolK_bool, slK_sl, hci, Option.bind_some, svLeafK_leaf, Bool.not_true, branch_false]
    exact ih
theorem d_laws_eqRootS_of {es : List (List (Leaf false))} (hl : es.length ≤ maxLen) (hq : ∀ e ∈ es, IsRoot e) (hd : ∀ e ∈ es, Dn F.laws_eqRoot [.agg e, .agg e] [] = some (vbool true, [])) : Dn F.laws_eqRootS [vsl es, vsl es] [] = some (vbool true, []) := by
  apply den_of
  rw [run_laws_eqRootS]
  have := laws_eqRootS_from hl hq hd 0 (Nat.zero_le _)
  simpa using this
theorem d_laws_eqRoot {ls : List (Leaf false)} (h : IsRoot ls) : Dn F.laws_eqRoot [.agg ls, .agg ls] [] = some (vbool true, []) := by
  cases h with
  | mk i0 s1 h1 =>
    apply den_of
    rw [run_laws_eqRoot]
    simp []
theorem d_laws_eqRootS {es : List (List (Leaf false))} (hl : es.length ≤ maxLen) (hq : ∀ e ∈ es, IsRoot e) : Dn F.laws_eqRootS [vsl es, vsl es] [] = some (vbool true, []) := d_laws_eqRootS_of hl hq fun e he => d_laws_eqRoot (hq e he)
theorem d_laws_eqDef {ls : List (Leaf false)} (h : IsDef ls) : Dn F.laws_eqDef [.agg ls, .agg ls] [] = some (vbool true, []) := by
  cases h with
  | mk i0 b1 s2 s3 e4 e5 e6 e7 e8 b9 e10 h2 h3 h4 q4 h5 q5 h6 q6 h7 q7 h8 q8 h10 q10 =>
    apply den_of
    rw [run_laws_eqDef]
    have c4 := d_laws_eqStringS h4 q4
    have c5 := d_laws_eqFieldDefS h5 q5
    have c6 := d_laws_eqInDefS h6 q6
    have c7 := d_laws_eqEnumDefS h7 q7
    have c8 := d_laws_eqRootS h8 q8
    have c10 := d_laws_eqDirS h10 q10
    simp [c4, c5, c6, c7, c8, c10]
theorem laws_eqChangeS_from {es : List (List (Leaf false))} (hl : es.length ≤ maxLen) (hq : ∀ e ∈ es, IsChange e) (hd : ∀ e ∈ es, Dn F.laws_eqChange [.agg e, .agg e] [] = some (vbool true, [])) : ∀ i : Nat, i ≤ es.length →
    laws_eqChangeS_A Dn (laws_eqChangeS_0 es es i) = some (vbool true, []) := by
  refine upto_ind ?_ ?_
  · rw [laws_eqChangeS_0_eq]; simp
  · intro i hi ih
    have hci := hd _ (List.getElem_mem hi)
    obtain ⟨i0, s1, s2, he⟩ := (hq _ (List.getElem_mem hi)).ex
    rw [laws_eqChangeS_0_eq]
    simp only [Int.ofNat_lt, hi, decide_true, branch_true, Int.natCast_nonneg, Bool.and_true, Int.toNat_natCast, guarded_true, wrap_upL (Nat.lt_of_lt_of_le hi hl), sized_all (fun e he => (hq e he).len), getD_lt hi]
    rw [he] at hci ⊢
    simp only [bindE_eq, atK_zero, atK_succ, intK_int, strK_str, boolK_bool, slK_sl, hci, Option.bind_some, svLeafK_leaf, Bool.not_true, branch_false]
    exact ih
theorem d_laws_eqChangeS_of {es : List (List (Leaf false))} (hl : es.length ≤ maxLen) (hq : ∀ e ∈ es, IsChange e) (hd : ∀ e ∈ es, Dn F.laws_eqChange [.agg e, .agg e] [] = some (vbool true, [])) : Dn F.laws_eqChangeS [vsl es, vsl es] [] = some (vbool true, []) := by
  apply den_of
  rw [run_laws_eqChangeS]
  have := laws_eqChangeS_from hl hq hd 0 (Nat.zero_le _)
  simpa using this
theorem d_laws_eqChange {ls : List (Leaf false)} (h : IsChange ls) : Dn F.laws_eqChange [.agg ls, .agg ls] [] = some (vbool true, []) := by
  cases h with
  | mk i0 s1 s2 =>
    apply den_of
    rw [run_laws_eqChange]
    simp []
theorem d_laws_eqChangeS {es : List (List (Leaf false))} (hl : es.length ≤ maxLen) (hq : ∀ e ∈ es, IsChange e) : Dn F.laws_eqChangeS [vsl es, vsl es] [] = some (vbool true, []) := d_laws_eqChangeS_of hl hq fun e he => d_laws_eqChange (hq e he)

end Go.Vs
end
section
open Go Go.Vs Go.Proofs
set_option linter.unusedVariables false
set_option linter.unusedSimpArgs false
namespace Go.Vs
mutual
theorem reF_er (c : Fl true) : ∀ l : Leaf false, reF er (reF (fl c) l) = l
  | .sl _ es => by rw [reF, reF, reE_er c es]; cases ‹Fl false›; rfl
  | .bool _ | .int _ _ | .str _ | .unk | .nl _ => by simp [reF]
theorem reL_er (c : Fl true) : ∀ l : List (Leaf false), reL er (reL (fl c) l) = l
  | [] => by rw [reL, reL]
  | l :: r => by rw [reL, reL, reF_er c l, reL_er c r]
theorem reE_er (c : Fl true) : ∀ l : List (List (Leaf false)), reE er (reE (fl c) l) = l
  | [] => by rw [reE, reE]
  | l :: r => by rw [reE, reE, reL_er c l, reE_er c r]
end
theorem reE_append {m m' : Bool} {φ : Fl m → Fl m'} (a b : List (List (Leaf m))) : reE φ (a ++ b) = reE φ a ++ reE φ b := by rw [reE_map, reE_map, reE_map, List.map_append]
theorem reS_sl (c : Fl true) (es : List (List (Leaf false))) : reS er (.leaf (.sl c (reE (fl c) es))) = vsl es := by
  simp only [reS, reF, reE_er]
theorem reS_agg (c : Fl true) (ls : List (Leaf false)) : reS er (.agg (reL (fl c) ls)) = .agg ls := by
  simp only [reS, reL_er]
section
variable {o : ByteArray} {a b : List (List (Leaf false))} {c c' : Fl true}
theorem t_impl_InAt {s : ByteArray} (hl : a.length ≤ maxLen) (hq : ∀ e ∈ a, IsInDef e) : Dd F.impl_InAt [.leaf (.sl c (reE (fl c) a)), .leaf (.str s)] [] = some (.leaf (.int .i64 (idxOf s 0 a)), []) :=
  dd_told rfl (d_impl_InAt hl hq) (by rw [List.map_cons, reS_sl]; rfl) rfl rfl
theorem t_impl_Compatible {n1 w1 n2 w2 : ByteArray} (h1 : w1.size ≤ maxLen) (h2 : w2.size ≤ maxLen) : Dd F.impl_Compatible [.agg [.str n1, .str w1], .agg [.str n2, .str w2]] [] = some (.leaf (.bool (compat n1 w1 n2 w2)), []) :=
  dd_told rfl (d_impl_Compatible h1 h2) rfl rfl rfl
theorem t_impl_Needed {n s : ByteArray} (hs : s.size ≤ maxLen) : Dd F.impl_Needed [.agg [.str n, .str s]] [] = some (.leaf (.bool (ends s 33)), []) :=
  dd_told rfl (d_impl_Needed hs) rfl rfl rfl
theorem t_impl_SameValue {x y : List (Leaf false)} (hx : IsValue x) (hy : IsValue y) : Dd F.impl_SameValue [.agg (reL (fl c) x), .agg (reL (fl c') y)] [] = some (.leaf (.bool (eqL x y)), []) :=
  dd_told rfl (d_SameValue hx hy).1 (by rw [List.map_cons, List.map_cons, reS_agg, reS_agg]; rfl) rfl rfl
theorem t_add {q : Bool} {code : Int} {s p : ByteArray} {out : List (List (Leaf false))} (hr : out.length ≤ 4194304) : Dd F.impl_changes_add [.ptr 0 0, .leaf (.bool q), .leaf (.int .i64 code), .leaf (.str s), .leaf (.str p)] [[.own (some T.impl_Change) (reE (fl fNew) out)]] =
    some (.tup [], [[.own (some T.impl_Change) (reE (fl fNew) (out ++ if q = true then [chg code s p] else []))]]) := by
  apply dd_of rfl
  rw [run_d_impl_changes_add, reE_length]
  simp only [room hr, guarded_true, branch_ite]
  cases q
  · simp
  · simp only [if_true, reE_append, chg, reE, reL, reF]
theorem impl_tail {out : List (List (Leaf false))} {e1 e2 e19 : List (List (Leaf true))} {c1 c2 c19 cx cy : Fl true} {n i : Int} {x0 x1 x2 x3 : ByteArray} {x4 : Bool} {x5 : Int} {x6 : ByteArray} {x7 x8 x9 : List (List (Leaf false))} {y0 y1 y2 y3 : ByteArray} {y4 : Bool} {y5 : Int} {y6 : ByteArray} {y7 y8 y9 : List (List (Leaf false))}
    (hx : IsValue [.int .i64 x5, .str x6, .sl fP x7, .sl fP x8]) (hy : IsValue [.int .i64 y5, .str y6, .sl fP y7, .sl fP y8]) (hw : y3.size ≤ maxLen) (hr : out.length ≤ 4194000) :
    d_impl_InChanges_A Dd (d_impl_InChanges_4 o c1 e1 c2 e2 c19 e19 n i x0 x1 x2 x3 x4 x5 x6 cx (reE (fl cx) x7) cx (reE (fl cx) x8) cx (reE (fl cx) x9) y0 y1 y2 y3 y4 y5 y6 cy (reE (fl cy) y7) cy (reE (fl cy) y8) cy (reE (fl cy) y9) (reE (fl fNew) out)) =
      d_impl_InChanges_A Dd (d_impl_InChanges_1 o c1 e1 c2 e2 c19 e19 n i (reE (fl fNew) (out ++ d2 o x0 x4 y4 y3 [.int .i64 x5, .str x6, .sl fP x7, .sl fP x8] [.int .i64 y5, .str y6, .sl fP y7, .sl fP y8]))) := by
  have sv := t_impl_SameValue (c := cx) (c' := cy) hx hy
  simp only [reL, reF] at sv
  have r1 : ∀ l : List (List (Leaf false)), l.length ≤ 1 → (out ++ l).length ≤ 4194304 := fun l hl => by rw [List.length_append]; omega
  have r0 : out.length ≤ 4194304 := by omega
  have ad0 := fun (q : Bool) (code : Int) (s p : ByteArray) => t_add (q := q) (code := code) (s := s) (p := p) r0
  have ad1 := fun (q q' : Bool) (code code' : Int) (s p s' p' : ByteArray) => t_add (q := q) (code := code) (s := s) (p := p) (out := out ++ if q' = true then [chg code' s' p'] else []) (r1 _ (by split <;> simp))
  rw [d_impl_InChanges_4_eq]
  simp -implicitDefEqProofs only [t_impl_Needed hw, Option.bind_some, svLeafK_leaf, boolK_bool, d_impl_InChanges_7_eq, ad0, headB_cons, headK_cons, svOwnK_own, lastK_nil, lastB_nil, svTupK_tup, ad1, sv]
  unfold d2
  generalize eqL [.int .i64 x5, .str x6, .sl fP x7, .sl fP x8] [.int .i64 y5, .str y6, .sl fP y7, .sl fP y8] = q
  cases x4 <;> cases y4 <;> cases ends y3 33 <;> cases q <;> simp -implicitDefEqProofs only [branch_true, branch_false, beq_self_eq_true, Bool.not_true, Bool.not_false, Bool.and_true, Bool.and_false, Bool.false_and, Bool.true_and, Bool.or_true, Bool.or_false, Bool.true_or, Bool.false_or, if_true, Bool.false_eq_true, if_false, List.append_nil, show ((false : Bool) == true) = false from rfl, show ((true : Bool) == false) = false from rfl]
theorem impl_A_from (ha : a.length ≤ 1048576) (hb : b.length ≤ 1048576) (qa : ∀ e ∈ a, IsInDef e) (qb : ∀ e ∈ b, IsInDef e) : ∀ i : Nat, i ≤ a.length → ∀ out : List (List (Leaf false)), out.length ≤ 2 * i →
    d_impl_InChanges_A Dd (d_impl_InChanges_0 o c (reE (fl c) a) c' (reE (fl c') b) c (reE (fl c) a) a.length i (reE (fl fNew) out)) =
      d_impl_InChanges_A Dd (d_impl_InChanges_3 o c (reE (fl c) a) c' (reE (fl c') b) b.length 0 (reE (fl fNew) (out ++ (a.drop i).flatMap (perA o b)))) := by
  have hml : (1048576 : Nat) ≤ maxLen := by decide
  have hla : a.length ≤ maxLen := Nat.le_trans ha hml
  have hlb : b.length ≤ maxLen := Nat.le_trans hb hml
  have hA : (reE (fl c) a).length = a.length := reE_length a
  have hB : (reE (fl c') b).length = b.length := reE_length b
  refine upto_ind ?_ ?_
  · intro out ho; rw [d_impl_InChanges_0_eq]; simp [hB]
  · intro i hi ih out ho
    have hro : out.length ≤ 4194304 := by omega
    obtain ⟨x0, x1, x2, x3, x4, x5, x6, x7, x8, x9, he, h0, h1, h2, h3, h6, h7, q7, h8, q8, h9, q9⟩ := (qa _ (List.getElem_mem hi)).ex
    have next : ∀ out' : List (List (Leaf false)), out' = out ++ perA o b a[i] → d_impl_InChanges_A Dd (d_impl_InChanges_1 o c (reE (fl c) a) c' (reE (fl c') b) c (reE (fl c) a) a.length i (reE (fl fNew) out')) =
        d_impl_InChanges_A Dd (d_impl_InChanges_3 o c (reE (fl c) a) c' (reE (fl c') b) b.length 0 (reE (fl fNew) (out ++ (a.drop i).flatMap (perA o b)))) := fun out' ho' => by
      subst ho'
      rw [d_impl_InChanges_1_eq, wrap_upL (Nat.lt_of_lt_of_le hi hla), ih _ (by have := perA_len o b a[i]; rw [List.length_append]; omega), drop_at hi, List.flatMap_cons, List.append_assoc]
    have hin := t_impl_InAt (c := c') (s := x0) hlb qb
    have ad0 := fun (q : Bool) (code : Int) (s p : ByteArray) => t_add (q := q) (code := code) (s := s) (p := p) hro
    rw [d_impl_InChanges_0_eq]
    simp -implicitDefEqProofs only [hA, Int.ofNat_lt, hi, decide_true, branch_true, Int.natCast_nonneg, Bool.and_true, Int.toNat_natCast, guarded_true, sized_all (reE_all (φ := fl c) fun e he => (qa e he).len), reE_getD hi]
    rw [he]
    simp -implicitDefEqProofs only [reL, reF, bindE_eq, atK_zero, atK_succ, intK_int, strK_str, boolK_bool, slK_sl, hin, Option.bind_some, svLeafK_leaf, ad0, headB_cons, headK_cons, svOwnK_own, lastK_nil, lastB_nil, svTupK_tup, if_true]
    rcases idxOf_lt x0 b 0 (by omega) with hk | ⟨hk0, hk1⟩
    · rw [hk]
      simp -implicitDefEqProofs only [show ((-1 : Int) < 0) by omega, decide_true, branch_true]
      exact next _ (by rw [he]; simp only [perA, strAt, List.getElem?_cons_zero, hk, show ((-1 : Int) < 0) = True from eq_true (by omega), if_true, chg])
    · obtain ⟨j, hj⟩ : ∃ j : Nat, idxOf x0 0 b = (j : Int) := ⟨(idxOf x0 0 b).toNat, by omega⟩
      have hjb : j < b.length := by omega
      obtain ⟨y0, y1, y2, y3, y4, y5, y6, y7, y8, y9, hf, g0, g1, g2, g3, g6, g7, r7, g8, r8, g9, r9⟩ := (qb _ (List.getElem_mem hjb)).ex
      have hjn : ¬ ((j : Int) < 0) := by omega
      have r1 : ∀ l : List (List (Leaf false)), l.length ≤ 1 → (out ++ l).length ≤ 4194000 := fun l hl => by rw [List.length_append]; omega
      have ad1 := fun (q q' : Bool) (code code' : Int) (s p s' p' : ByteArray) => t_add (q := q) (code := code) (s := s) (p := p) (out := out ++ if q' = true then [chg code' s' p'] else []) (by have := r1 (if q' = true then [chg code' s' p'] else []) (by split <;> simp); omega)
      rw [hj]
      simp -implicitDefEqProofs only [hB, hjn, decide_false, branch_false, Int.ofNat_lt, hjb, decide_true, Int.natCast_nonneg, Bool.and_true, Int.toNat_natCast, guarded_true, sized_all (reE_all (φ := fl c') fun e he => (qb e he).len), reE_getD hjb]
      rw [hf]
      simp -implicitDefEqProofs only [reL, reF, bindE_eq, atK_zero, atK_succ, intK_int, strK_str, boolK_bool, slK_sl, t_impl_Compatible h3 g3, Option.bind_some, svLeafK_leaf, d_impl_InChanges_2_eq, ad0, ad1, headB_cons, headK_cons, svOwnK_own, lastK_nil, lastB_nil, svTupK_tup]
      have tail := fun (out' : List (List (Leaf false))) (hr : out'.length ≤ 4194000) => impl_tail (o := o) (out := out') (e1 := reE (fl c) a) (e2 := reE (fl c') b) (e19 := reE (fl c) a) (c1 := c) (c2 := c') (c19 := c) (cx := c) (cy := c') (n := (a.length : Int)) (i := (i : Int)) (x0 := x0) (x1 := x1) (x2 := x2) (x3 := x3) (x4 := x4) (x9 := x9) (y0 := y0) (y1 := y1) (y2 := y2) (y4 := y4) (y9 := y9) (.mk x5 x6 x7 x8 h6 h7 q7 h8 q8) (.mk y5 y6 y7 y8 g6 g7 r7 g8 r8) g3 hr
      have pa : perA o b a[i] = d1 o x0 x2 x3 y2 y3 ++ d2 o x0 x4 y4 y3 [.int .i64 x5, .str x6, .sl fP x7, .sl fP x8] [.int .i64 y5, .str y6, .sl fP y7, .sl fP y8] := by
        rw [he]
        simp only [perA, strAt, boolAt, List.getElem?_cons_zero, List.getElem?_cons_succ, hj, hjn, if_false, Int.toNat_natCast, getD_lt hjb, hf, List.drop_succ_cons, List.drop_zero, List.take_succ_cons, List.take_zero]
      rw [branch_ite]
      by_cases hne : (!(x2 == y2 && x3 == y3)) = true
      · simp -implicitDefEqProofs only [Bool.and_true, hne, beq_self_eq_true, if_true, branch_true]
        rw [tail _ (by cases compat x2 x3 y2 y3 <;> simp <;> omega)]
        refine next _ ?_
        rw [pa]
        unfold d1
        rw [if_pos hne]
        cases compat x2 x3 y2 y3 <;> simp
      · have hne' : (!(x2 == y2 && x3 == y3)) = false := by simpa using hne
        simp -implicitDefEqProofs only [Bool.and_true, hne', show ((false : Bool) == true) = false from rfl, Bool.false_eq_true, if_false, branch_false, List.append_nil]
        rw [tail _ (by omega)]
        refine next _ ?_
        rw [pa]
        unfold d1
        rw [if_neg hne]
        simp
theorem impl_B_from (ha : a.length ≤ 1048576) (hb : b.length ≤ 1048576) (qa : ∀ e ∈ a, IsInDef e) (qb : ∀ e ∈ b, IsInDef e) : ∀ i : Nat, i ≤ b.length → ∀ out : List (List (Leaf false)), out.length ≤ 2097152 + i →
    d_impl_InChanges_A Dd (d_impl_InChanges_3 o c (reE (fl c) a) c' (reE (fl c') b) b.length i (reE (fl fNew) out)) = some (.leaf (.sl fNew (reE (fl fNew) (out ++ (b.drop i).flatMap (perB o a)))), []) := by
  have hml : (1048576 : Nat) ≤ maxLen := by decide
  have hla : a.length ≤ maxLen := Nat.le_trans ha hml
  have hlb : b.length ≤ maxLen := Nat.le_trans hb hml
  have hA : (reE (fl c) a).length = a.length := reE_length a
  have hB : (reE (fl c') b).length = b.length := reE_length b
  refine upto_ind ?_ ?_
  · intro out ho; rw [d_impl_InChanges_3_eq]; simp
  · intro i hi ih out ho
    have hro : out.length ≤ 4194304 := by omega
    obtain ⟨y0, y1, y2, y3, y4, y5, y6, y7, y8, y9, he, h0, h1, h2, h3, h6, h7, q7, h8, q8, h9, q9⟩ := (qb _ (List.getElem_mem hi)).ex
    have next : ∀ out' : List (List (Leaf false)), out' = out ++ perB o a b[i] → d_impl_InChanges_A Dd (d_impl_InChanges_5 o c (reE (fl c) a) c' (reE (fl c') b) b.length i (reE (fl fNew) out')) = some (.leaf (.sl fNew (reE (fl fNew) (out ++ (b.drop i).flatMap (perB o a)))), []) := fun out' ho' => by
      subst ho'
      rw [d_impl_InChanges_5_eq, wrap_upL (Nat.lt_of_lt_of_le hi hlb), ih _ (by have := perB_len o a b[i]; rw [List.length_append]; omega), drop_at hi, List.flatMap_cons, List.append_assoc]
    have hin := t_impl_InAt (c := c) (s := y0) hla qa
    have r1 : ∀ l : List (List (Leaf false)), l.length ≤ 1 → (out ++ l).length ≤ 4194000 := fun l hl => by rw [List.length_append]; omega
    have ad0 := fun (q : Bool) (code : Int) (s p : ByteArray) => t_add (q := q) (code := code) (s := s) (p := p) hro
    have ad1 := fun (q q' : Bool) (code code' : Int) (s p s' p' : ByteArray) => t_add (q := q) (code := code) (s := s) (p := p) (out := out ++ if q' = true then [chg code' s' p'] else []) (by have := r1 (if q' = true then [chg code' s' p'] else []) (by split <;> simp); omega)
    rw [d_impl_InChanges_3_eq]
    simp -implicitDefEqProofs only [hB, Int.ofNat_lt, hi, decide_true, branch_true, Int.natCast_nonneg, Bool.and_true, Int.toNat_natCast, guarded_true, sized_all (reE_all (φ := fl c') fun e he => (qb e he).len), reE_getD hi]
    rw [he]
    simp -implicitDefEqProofs only [reL, reF, bindE_eq, atK_zero, atK_succ, intK_int, strK_str, boolK_bool, slK_sl, hin, t_impl_Needed h3, Option.bind_some, svLeafK_leaf, d_impl_InChanges_6_eq, ad0, ad1, headB_cons, headK_cons, svOwnK_own, lastK_nil, lastB_nil, svTupK_tup]
    have pb : perB o a b[i] = if idxOf y0 0 a ≥ 0 then [] else [chg (if (ends y3 33 && !y4) = true then 8 else 20) o y0] := by
      rw [he]; rfl
    by_cases hk : idxOf y0 0 a ≥ 0
    · simp -implicitDefEqProofs only [hk, decide_true, branch_true]
      exact next _ (by rw [pb, if_pos hk]; simp)
    · simp -implicitDefEqProofs only [hk, decide_false, branch_false]
      rw [if_neg hk] at pb
      cases hn : ends y3 33 <;> cases hy : y4 <;> simp -implicitDefEqProofs only [hn, hy, beq_self_eq_true, branch_true, branch_false, Bool.not_true, Bool.not_false, if_true, Bool.false_eq_true, if_false, List.append_nil, show ((false : Bool) == true) = false from rfl] <;> exact next _ (by rw [pb, hn, hy]; rfl)
theorem t_impl_InChanges (ha : a.length ≤ 1048576) (hb : b.length ≤ 1048576) (qa : ∀ e ∈ a, IsInDef e) (qb : ∀ e ∈ b, IsInDef e) : Dd F.impl_InChanges [.leaf (.str o), .leaf (.sl c (reE (fl c) a)), .leaf (.sl c' (reE (fl c') b))] [] = some (.leaf (.sl fNew (reE (fl fNew) (inCh o a b))), []) := by
  apply dd_of rfl
  rw [run_d_impl_InChanges, reE_length]
  have h1 := impl_A_from (o := o) (c := c) (c' := c') ha hb qa qb 0 (Nat.zero_le _) [] (by simp)
  have hl := flatMap_len (fun x => perA_len o b x) a
  have h2 := impl_B_from (o := o) (c := c) (c' := c') ha hb qa qb 0 (Nat.zero_le _) (a.flatMap (perA o b)) (by omega)
  simp only [List.drop_zero, List.nil_append, reE] at h1 h2
  exact h1.trans h2
end
end Go.Vs
end
section
open Go Go.Vs Go.Proofs
set_option linter.unusedVariables false
set_option linter.unusedSimpArgs false
namespace Go.Vs
/-! ### The program's function, read deeply -/
theorem reE_chg {φ ψ : Fl false → Fl true} {l : List El} (h : ∀ e ∈ l, IsChange e) : reE φ l = reE ψ l := by
  rw [reE_map, reE_map]
  refine List.map_congr_left fun e he => ?_
  obtain ⟨i0, s1, s2, rfl⟩ := (h e he).ex
  simp only [reL, reF]
theorem t_addL {q : Bool} {code : Int} {s p : ByteArray} {out : List El} (hr : out.length + 1 ≤ 3400000000000) : Dd F.impl_changes_add [.ptr 0 0, .leaf (.bool q), .leaf (.int .i64 code), .leaf (.str s), .leaf (.str p)] [[.own (some T.impl_Change) (reE (fl fNew) out)]] =
    some (.tup [], [[.own (some T.impl_Change) (reE (fl fNew) (out ++ ifCh q code s p))]]) := by
  apply dd_of rfl
  rw [run_d_impl_changes_add, reE_length]
  simp only [roomL hr, Bool.and_true, guarded_true, branch_ite]
  unfold ifCh
  cases q
  · simp
  · simp only [if_true, reE_append, chg, reE, reL, reF]
theorem t_all {c : Fl true} {l out : List El} (hl : ∀ e ∈ l, IsChange e) (hr : out.length + l.length ≤ 3400000000000) : Dd F.impl_changes_all [.ptr 0 0, .leaf (.sl c (reE (fl c) l))] [[.own (some T.impl_Change) (reE (fl fNew) out)]] =
    some (.tup [], [[.own (some T.impl_Change) (reE (fl fNew) (out ++ l))]]) := by
  apply dd_of rfl
  rw [run_d_impl_changes_all, reE_length, reE_length]
  simp only [roomL hr, sized_all (reE_all (φ := fl c) fun e he => (hl e he).len), Bool.and_self, guarded_true]
  rw [reE_chg (φ := fl c) (ψ := fl fNew) hl, reE_append]
section
variable {o : ByteArray} {c c' : Fl true}
theorem t_impl_NameChanges {a b : List El} {gone fresh : Int} (ha : a.length ≤ 1048576) (hb : b.length ≤ 1048576) (qa : ∀ e ∈ a, IsStr e) (qb : ∀ e ∈ b, IsStr e) : Dd F.impl_NameChanges [.leaf (.str o), .leaf (.sl c (reE (fl c) a)), .leaf (.sl c' (reE (fl c') b)), .leaf (.int .i64 gone), .leaf (.int .i64 fresh)] [] = some (.leaf (.sl fOld (reE (fl fOld) (nameCh o a b gone fresh))), []) :=
  dd_told rfl (d_impl_NameChanges (o := o) (gone := gone) (fresh := fresh) ha hb qa qb) (by rw [List.map_cons, List.map_cons, List.map_cons, reS_sl, reS_sl]; rfl) rfl rfl
theorem t_impl_valueNames {a : List El} (ha : a.length ≤ 1048576) (qa : ∀ e ∈ a, IsEnumDef e) : Dd F.impl_valueNames [.leaf (.sl c (reE (fl c) a))] [] = some (.own (some T.string) (reE (fl fOld) (vals a)), []) :=
  dd_told rfl (d_impl_valueNames ha qa) (by rw [List.map_cons, reS_sl]; rfl) rfl rfl
theorem vals_re {φ ψ : Fl false → Fl true} {l : List El} : reE φ (vals l) = reE ψ (vals l) := by
  rw [reE_map, reE_map]
  refine List.map_congr_left fun e he => ?_
  obtain ⟨x, _, rfl⟩ := List.mem_map.1 he
  simp only [reL, reF]
variable {k j0 : Int} {b1 b9 c1 c9 : Bool} {s2 nm t2 t3 : ByteArray} {e4 a e6 e7 e8 e10 f4 b f6 f7 f8 f10 : List El}
theorem t_impl_fieldOf {s : ByteArray} (hl : a.length ≤ maxLen) (hq : ∀ e ∈ a, IsFieldDef e) :
    Dd F.impl_fieldOf [.agg [.int .i64 k, .bool b1, .str s2, .str nm, .sl c (reE (fl c) e4), .sl c (reE (fl c) a), .sl c (reE (fl c) e6), .sl c (reE (fl c) e7), .sl c (reE (fl c) e8), .bool b9, .sl c (reE (fl c) e10)], .leaf (.str s)] [] =
      some (.tup [.agg (reL (fl fOld) (fieldAt a s)), .leaf (.bool (!(decide (idxOf s 0 a < 0))))], []) :=
  dd_told rfl (d_impl_fieldOf (k := k) (b1 := b1) (s2 := s2) (nm := nm) (s := s) (e4 := e4) (e6 := e6) (e7 := e7) (e8 := e8) (b9 := b9) (e10 := e10) hl hq) (by
    rw [List.map_cons]
    have := reS_agg c [.int .i64 k, .bool b1, .str s2, .str nm, .sl fP e4, .sl fP a, .sl fP e6, .sl fP e7, .sl fP e8, .bool b9, .sl fP e10]
    simp only [reL, reF] at this
    rw [this]; rfl) rfl rfl
theorem noField_ex : ∃ y0 y1 y3 y4 : ByteArray, noField = [.str y0, .str y1, .sl fP [], .str y3, .str y4, .sl fP []] := ⟨nul, nul, nul, nul, rfl⟩
theorem fields_A (hn : nm.size ≤ 1048576) (ha : a.length ≤ 1048576) (hb : b.length ≤ 1048576) (qa : ∀ e ∈ a, FOk e) (qb : ∀ e ∈ b, FOk e) : ∀ i : Nat, i ≤ a.length → ∀ out : List El, out.length ≤ i * 3145729 →
    d_impl_fieldChanges_A Dd (d_impl_fieldChanges_0 c (reE (fl c) a) a.length i k b1 s2 nm c (reE (fl c) e4) c (reE (fl c) a) c (reE (fl c) e6) c (reE (fl c) e7) c (reE (fl c) e8) b9 c (reE (fl c) e10) j0 c1 t2 t3 c' (reE (fl c') f4) c' (reE (fl c') b) c' (reE (fl c') f6) c' (reE (fl c') f7) c' (reE (fl c') f8) c9 c' (reE (fl c') f10) (reE (fl fNew) out)) =
      d_impl_fieldChanges_A Dd (d_impl_fieldChanges_2 c' (reE (fl c') b) b.length 0 k b1 s2 nm c (reE (fl c) e4) c (reE (fl c) a) c (reE (fl c) e6) c (reE (fl c) e7) c (reE (fl c) e8) b9 c (reE (fl c) e10) (reE (fl fNew) (out ++ (a.drop i).flatMap (fldA nm b)))) := by
  have hml : (1048576 : Nat) ≤ maxLen := by decide
  have hla : a.length ≤ maxLen := Nat.le_trans ha hml
  have hlb : b.length ≤ maxLen := Nat.le_trans hb hml
  have hA : (reE (fl c) a).length = a.length := reE_length a
  have hB : (reE (fl c') b).length = b.length := reE_length b
  refine upto_ind ?_ ?_
  · intro out ho; rw [d_impl_fieldChanges_0_eq]; simp [hB]
  · intro i hi ih out ho
    have hro : out.length + 3145729 ≤ 3400000000000 := by omega
    have hxi := qa _ (List.getElem_mem hi)
    have hlen := fldA_len (nm := nm) hxi qb
    obtain ⟨x0, x1, x2, x3, x4, x5, he, h0, h1, h2, q2, h3, h4, h5, q5⟩ := hxi.is.ex
    have next : ∀ out' : List El, out' = out ++ fldA nm b a[i] → d_impl_fieldChanges_A Dd (d_impl_fieldChanges_1 c (reE (fl c) a) a.length i k b1 s2 nm c (reE (fl c) e4) c (reE (fl c) a) c (reE (fl c) e6) c (reE (fl c) e7) c (reE (fl c) e8) b9 c (reE (fl c) e10) j0 c1 t2 t3 c' (reE (fl c') f4) c' (reE (fl c') b) c' (reE (fl c') f6) c' (reE (fl c') f7) c' (reE (fl c') f8) c9 c' (reE (fl c') f10) (reE (fl fNew) out')) =
        d_impl_fieldChanges_A Dd (d_impl_fieldChanges_2 c' (reE (fl c') b) b.length 0 k b1 s2 nm c (reE (fl c) e4) c (reE (fl c) a) c (reE (fl c) e6) c (reE (fl c) e7) c (reE (fl c) e8) b9 c (reE (fl c) e10) (reE (fl fNew) (out ++ (a.drop i).flatMap (fldA nm b)))) := fun out' ho' => by
      subst ho'
      rw [d_impl_fieldChanges_1_eq, wrap_upL (Nat.lt_of_lt_of_le hi hla), ih _ (by rw [List.length_append]; omega), drop_at hi, List.flatMap_cons, List.append_assoc]
    have hin := t_impl_fieldOf (c := c') (k := j0) (b1 := c1) (s2 := t2) (nm := t3) (e4 := f4) (e6 := f6) (e7 := f7) (e8 := f8) (b9 := c9) (e10 := f10) (s := x0) hlb (fun e he => (qb e he).is)
    have hx0 : x0.size ≤ 1048576 := by have := hxi.nm; rw [he] at this; exact this
    have hx2 : x2.length ≤ 1048576 := by have := hxi.args; rw [he] at this; exact this
    rw [d_impl_fieldChanges_0_eq]
    simp -implicitDefEqProofs only [hA, Int.ofNat_lt, hi, decide_true, branch_true, Int.natCast_nonneg, Bool.and_true, Int.toNat_natCast, guarded_true, sized_all (reE_all (φ := fl c) fun e he => (qa e he).is.len), reE_getD hi]
    rw [he]
    simp -implicitDefEqProofs only [reL, reF, bindE_eq, atK_zero, atK_succ, strK_str, slK_sl, hin, Option.bind_some, svTupK_tup, headK_cons, svAggK_agg]
    by_cases hk : idxOf x0 0 b < 0
    · have ad := t_addL (q := true) (code := 4) (s := nm) (p := x0) (out := out) (by omega)
      have fa : fieldAt b x0 = noField := by unfold fieldAt; rw [if_pos hk]
      obtain ⟨y0, y1, y3, y4, hnf⟩ := noField_ex
      rw [fa, hnf]
      simp -implicitDefEqProofs only [reL, reF, List.length_cons, List.length_nil, beq_self_eq_true, guarded_true, atK_zero, atK_succ, strK_str, slK_sl, headK_cons, svLeafK_leaf, boolK_bool, lastK_nil, hk, decide_true, Bool.not_true, Bool.not_false, branch_true, ad, Option.bind_some, headB_cons, svOwnK_own, lastB_nil, svTupK_tup]
      exact next _ (by rw [he]; simp -implicitDefEqProofs only [fldA, strAt, List.getElem?_cons_zero, hk, if_true, ifCh])
    · obtain ⟨j, hj, hjb⟩ := idx_get hk
      have hyj := qb _ (List.getElem_mem hjb)
      obtain ⟨y0, y1, y2, y3, y4, y5, hf, g0, g1, g2, r2, g3, g4, g5, r5⟩ := hyj.is.ex
      have hy2 : y2.length ≤ 1048576 := by have := hyj.args; rw [hf] at this; exact this
      have hjn : ¬ ((j : Int) < 0) := by omega
      have fa : fieldAt b x0 = [.str y0, .str y1, .sl fP y2, .str y3, .str y4, .sl fP y5] := by unfold fieldAt; rw [if_neg hk, hj, Int.toNat_natCast, getD_lt hjb, hf]
      have pa : fldA nm b a[i] = tyCh nm [.str x0, .str x1, .sl fP x2, .str x3, .str x4, .sl fP x5] [.str y0, .str y1, .sl fP y2, .str y3, .str y4, .sl fP y5] ++ inCh (nm ++ dot ++ x0) x2 y2 := by
        rw [he]
        simp -implicitDefEqProofs only [fldA, strAt, slAt, List.getElem?_cons_zero, List.getElem?_cons_succ, hj, hjn, if_false, Int.toNat_natCast, getD_lt hjb, hf]
      have e1 : tyCh nm [.str x0, .str x1, .sl fP x2, .str x3, .str x4, .sl fP x5] [.str y0, .str y1, .sl fP y2, .str y3, .str y4, .sl fP y5] = ifCh (!(x3 == y3 && x4 == y4)) 5 nm x0 := rfl
      have hl1 := ifCh_len (!(x3 == y3 && x4 == y4)) 5 nm x0
      have ad := t_addL (q := !(x3 == y3 && x4 == y4)) (code := 5) (s := nm) (p := x0) (out := out) (by omega)
      have hch := t_impl_InChanges (c := c) (c' := fOld) (o := nm ++ dot ++ x0) hx2 hy2 q2 r2
      have hcl := inCh_len (nm ++ dot ++ x0) x2 y2
      have al := t_all (c := fNew) (l := inCh (nm ++ dot ++ x0) x2 y2) (out := out ++ ifCh (!(x3 == y3 && x4 == y4)) 5 nm x0) chg_all (by rw [List.length_append]; omega)
      have z1 : decide (nm.size + (ByteArray.mk #[46]).size ≤ 140737488355328) = true := decide_eq_true (by show nm.size + 1 ≤ _; omega)
      have z2 : decide ((nm ++ ByteArray.mk #[46]).size + x0.size ≤ 140737488355328) = true := decide_eq_true (by rw [ByteArray.size_append]; show nm.size + 1 + _ ≤ _; omega)
      have hkd : decide (idxOf x0 0 b < 0) = false := decide_eq_false hk
      rw [fa, hkd]
      simp -implicitDefEqProofs only [reL, reF, List.length_cons, List.length_nil, beq_self_eq_true, guarded_true, atK_zero, atK_succ, strK_str, slK_sl, headK_cons, svLeafK_leaf, boolK_bool, lastK_nil, Bool.not_true, Bool.not_false, branch_false, Bool.and_true, ad, Option.bind_some, headB_cons, svOwnK_own, lastB_nil, svTupK_tup, z1, z2, hch, svSlK_leaf, al]
      exact next _ (by rw [pa, e1, List.append_assoc])
theorem fields_B (ha : a.length ≤ 1048576) (hb : b.length ≤ 1048576) (qa : ∀ e ∈ a, FOk e) (qb : ∀ e ∈ b, FOk e) : ∀ i : Nat, i ≤ b.length → ∀ out : List El, out.length ≤ 3298535931904 + i →
    d_impl_fieldChanges_A Dd (d_impl_fieldChanges_2 c' (reE (fl c') b) b.length i k b1 s2 nm c (reE (fl c) e4) c (reE (fl c) a) c (reE (fl c) e6) c (reE (fl c) e7) c (reE (fl c) e8) b9 c (reE (fl c) e10) (reE (fl fNew) out)) = some (.leaf (.sl fNew (reE (fl fNew) (out ++ (b.drop i).flatMap (fldB nm a)))), []) := by
  have hml : (1048576 : Nat) ≤ maxLen := by decide
  have hla : a.length ≤ maxLen := Nat.le_trans ha hml
  have hlb : b.length ≤ maxLen := Nat.le_trans hb hml
  have hB : (reE (fl c') b).length = b.length := reE_length b
  refine upto_ind ?_ ?_
  · intro out ho; rw [d_impl_fieldChanges_2_eq]; simp
  · intro i hi ih out ho
    obtain ⟨y0, y1, y2, y3, y4, y5, hf, g0, g1, g2, r2, g3, g4, g5, r5⟩ := (qb _ (List.getElem_mem hi)).is.ex
    have hin := t_impl_fieldOf (c := c) (k := k) (b1 := b1) (s2 := s2) (nm := nm) (e4 := e4) (e6 := e6) (e7 := e7) (e8 := e8) (b9 := b9) (e10 := e10) (s := y0) hla (fun e he => (qa e he).is)
    have hl1 := ifCh_len (decide (idxOf y0 0 a < 0)) 18 nm y0
    have ad := t_addL (q := decide (idxOf y0 0 a < 0)) (code := 18) (s := nm) (p := y0) (out := out) (by omega)
    have fx : ∃ z0 z1 z2 z3 z4 z5, fieldAt a y0 = [.str z0, .str z1, .sl fP z2, .str z3, .str z4, .sl fP z5] := by
      unfold fieldAt
      split
      · obtain ⟨y0, y1, y3, y4, hnf⟩ := noField_ex
        exact ⟨_, _, _, _, _, _, hnf⟩
      · rename_i hk
        obtain ⟨j, hj, hjb⟩ := idx_get hk
        obtain ⟨y0, y1, y2, y3, y4, y5, hf, _⟩ := (qa _ (List.getElem_mem hjb)).is.ex
        exact ⟨_, _, _, _, _, _, by rw [hj, Int.toNat_natCast, getD_lt hjb, hf]⟩
    obtain ⟨z0, z1, z2, z3, z4, z5, hz⟩ := fx
    rw [d_impl_fieldChanges_2_eq]
    simp -implicitDefEqProofs only [hB, Int.ofNat_lt, hi, decide_true, branch_true, Int.natCast_nonneg, Bool.and_true, Int.toNat_natCast, guarded_true, sized_all (reE_all (φ := fl c') fun e he => (qb e he).is.len), reE_getD hi]
    rw [hf]
    rw [hz] at hin
    simp -implicitDefEqProofs only [reL, reF] at hin
    simp -implicitDefEqProofs only [reL, reF, bindE_eq, atK_zero, atK_succ, strK_str, slK_sl, hin, Option.bind_some, svTupK_tup, headK_cons, svAggK_agg, List.length_cons, List.length_nil, beq_self_eq_true, guarded_true, svLeafK_leaf, boolK_bool, lastK_nil, Bool.not_not, ad, headB_cons, svOwnK_own, lastB_nil, wrap_upL (Nat.lt_of_lt_of_le hi hlb)]
    rw [ih _ (by rw [List.length_append]; omega), drop_at hi, List.flatMap_cons, hf, List.append_assoc]
    have : ifCh (decide (idxOf y0 0 a < 0)) 18 nm y0 = fldB nm a [.str y0, .str y1, .sl fP y2, .str y3, .str y4, .sl fP y5] := by
      unfold ifCh fldB
      by_cases hk : idxOf y0 0 a < 0 <;> simp [strAt, hk]
    rw [this]
theorem t_impl_fieldChanges (hn : nm.size ≤ 1048576) (ha : a.length ≤ 1048576) (hb : b.length ≤ 1048576) (qa : ∀ e ∈ a, FOk e) (qb : ∀ e ∈ b, FOk e) :
    Dd F.impl_fieldChanges [.agg [.int .i64 k, .bool b1, .str s2, .str nm, .sl c (reE (fl c) e4), .sl c (reE (fl c) a), .sl c (reE (fl c) e6), .sl c (reE (fl c) e7), .sl c (reE (fl c) e8), .bool b9, .sl c (reE (fl c) e10)], .agg [.int .i64 j0, .bool c1, .str t2, .str t3, .sl c' (reE (fl c') f4), .sl c' (reE (fl c') b), .sl c' (reE (fl c') f6), .sl c' (reE (fl c') f7), .sl c' (reE (fl c') f8), .bool c9, .sl c' (reE (fl c') f10)]] [] = some (.leaf (.sl fNew (reE (fl fNew) (fldCh nm a b))), []) := by
  apply dd_of rfl
  rw [run_d_impl_fieldChanges, reE_length]
  have h1 := fields_A (c := c) (c' := c') (k := k) (b1 := b1) (s2 := s2) (e4 := e4) (e6 := e6) (e7 := e7) (e8 := e8) (b9 := b9) (e10 := e10) (j0 := j0) (c1 := c1) (t2 := t2) (t3 := t3) (f4 := f4) (f6 := f6) (f7 := f7) (f8 := f8) (c9 := c9) (f10 := f10) hn ha hb qa qb 0 (Nat.zero_le _) [] (by simp)
  have hl := flatMap_lenM (f := fldA nm b) (l := a) fun x hx => fldA_len (nm := nm) (qa x hx) qb
  have h2 := fields_B (c := c) (c' := c') (k := k) (b1 := b1) (s2 := s2) (nm := nm) (e4 := e4) (e6 := e6) (e7 := e7) (e8 := e8) (b9 := b9) (e10 := e10) ha hb qa qb 0 (Nat.zero_le _) (a.flatMap (fldA nm b)) (by omega)
  simp only [List.drop_zero, List.nil_append, reE] at h1 h2
  exact h1.trans h2
end
end Go.Vs
end
section
open Go Go.Vs Go.Proofs
set_option linter.unusedVariables false
set_option linter.unusedSimpArgs false
namespace Go.Vs
section
variable {k j0 : Int} {b1 b9 c1 c9 : Bool} {o s2 nm t2 t3 : ByteArray} {e4 e5 e6 e7 e8 e10 f4 f5 f6 f7 f8 f10 : List El} {c c' : Fl true}
theorem rep_if {q : Bool} {code : Int} : rep code o q = ifCh q code o nul := rfl
theorem impl_tail4 (hx : DOk nm e4 e5 e6 e7) (hy : DOk t3 f4 f5 f6 f7) {out : List El} (ho : out.length ≤ 4000000) :
    d_impl_DefChanges_A Dd (d_impl_DefChanges_4 o k b1 s2 nm c (reE (fl c) e4) c (reE (fl c) e5) c (reE (fl c) e6) c (reE (fl c) e7) c (reE (fl c) e8) b9 c (reE (fl c) e10) j0 c1 t2 t3 c' (reE (fl c') f4) c' (reE (fl c') f5) c' (reE (fl c') f6) c' (reE (fl c') f7) c' (reE (fl c') f8) c9 c' (reE (fl c') f10) (reE (fl fNew) out)) = some (.leaf (.sl fNew (reE (fl fNew) (out ++ inCh o e6 f6))), []) := by
  have hcl := inCh_len o e6 f6
  have l6 := hx.l6
  have m6 := hy.l6
  rw [d_impl_DefChanges_4_eq]
  simp -implicitDefEqProofs only [t_impl_InChanges hx.l6 hy.l6 hx.q6 hy.q6, Option.bind_some, svSlK_leaf, t_all (c := fNew) (l := inCh o e6 f6) (out := out) chg_all (by omega), headB_cons, headK_cons, svOwnK_own, lastK_nil, lastB_nil, svTupK_tup, d_impl_DefChanges_2_eq]
theorem impl_tail3 (hx : DOk nm e4 e5 e6 e7) (hy : DOk t3 f4 f5 f6 f7) {out : List El} (ho : out.length ≤ 3500000) :
    d_impl_DefChanges_A Dd (d_impl_DefChanges_3 o k b1 s2 nm c (reE (fl c) e4) c (reE (fl c) e5) c (reE (fl c) e6) c (reE (fl c) e7) c (reE (fl c) e8) b9 c (reE (fl c) e10) j0 c1 t2 t3 c' (reE (fl c') f4) c' (reE (fl c') f5) c' (reE (fl c') f6) c' (reE (fl c') f7) c' (reE (fl c') f8) c9 c' (reE (fl c') f10) (reE (fl fNew) out)) = some (.leaf (.sl fNew (reE (fl fNew) (out ++ (rep 27 o (!b9 && c9) ++ inCh o e6 f6)))), []) := by
  have ad := fun q => t_addL (q := q) (code := 27) (s := o) (p := nul) (out := out) (by omega)
  have al := fun q => ifCh_len q 27 o nul
  rw [d_impl_DefChanges_3_eq]
  simp -implicitDefEqProofs only [ad, Option.bind_some, headB_cons, headK_cons, svOwnK_own, lastK_nil, lastB_nil, svTupK_tup]
  rw [impl_tail4 hx hy (by have := al c9; rw [List.length_append]; omega), impl_tail4 hx hy (by have := al false; rw [List.length_append]; omega), rep_if, List.append_assoc, List.append_assoc]
  cases b9 <;> rfl
theorem impl_tail1 (hx : DOk nm e4 e5 e6 e7) (hy : DOk t3 f4 f5 f6 f7) {out : List El} (ho : out.length ≤ 1) {q : Bool} (hq : q = (k == 2 || k == 3)) :
    d_impl_DefChanges_A Dd (d_impl_DefChanges_1 o k q k b1 s2 nm c (reE (fl c) e4) c (reE (fl c) e5) c (reE (fl c) e6) c (reE (fl c) e7) c (reE (fl c) e8) b9 c (reE (fl c) e10) j0 c1 t2 t3 c' (reE (fl c') f4) c' (reE (fl c') f5) c' (reE (fl c') f6) c' (reE (fl c') f7) c' (reE (fl c') f8) c9 c' (reE (fl c') f10) (reE (fl fNew) out)) = some (.leaf (.sl fNew (reE (fl fNew) (out ++ tailCh o nm k b9 c9 e4 e5 e6 e7 f4 f5 f6 f7))), []) := by
  have x4 := hx.l4; have x5 := hx.l5; have x6 := hx.l6; have x7 := hx.l7
  have y4 := hy.l4; have y5 := hy.l5; have y6 := hy.l6; have y7 := hy.l7
  have nl := fun g f => nameCh_len o e4 f4 g f
  have vl := nameCh_len o (vals e7) (vals f7) 10 22
  rw [vals_len, vals_len] at vl
  have fcl := fldCh_len (nm := nm) hx.l5 hy.l5 hx.q5 hy.q5
  have il := inCh_len o e6 f6
  have na := fun g f => t_all (c := fOld) (l := nameCh o e4 f4 g f) (out := out) nameCh_all (by have := nl g f; omega)
  have tn := fun g f => t_impl_NameChanges (o := o) (c := c) (c' := c') (gone := g) (fresh := f) hx.l4 hy.l4 hx.q4 hy.q4
  subst hq
  rw [d_impl_DefChanges_1_eq, branch_ite]
  unfold tailCh
  by_cases h23 : (k == 2 || k == 3) = true
  · rw [if_pos h23, if_pos h23]
    have fa := t_all (c := fNew) (l := fldCh nm e5 f5) (out := out ++ nameCh o e4 f4 12 24) fldCh_all (by have := nl 12 24; rw [List.length_append]; omega)
    simp -implicitDefEqProofs only [tn, na, fa, Option.bind_some, svSlK_leaf, headB_cons, headK_cons, svOwnK_own, lastK_nil, lastB_nil, svTupK_tup, t_impl_fieldChanges hx.nm hx.l5 hy.l5 hx.q5 hy.q5, d_impl_DefChanges_2_eq, List.append_assoc]
  · rw [if_neg h23, if_neg h23, branch_ite]
    by_cases h4 : (k == 4) = true
    · rw [if_pos h4, if_pos h4]
      simp -implicitDefEqProofs only [tn, na, Option.bind_some, svSlK_leaf, headB_cons, headK_cons, svOwnK_own, lastK_nil, lastB_nil, svTupK_tup, d_impl_DefChanges_2_eq]
    · rw [if_neg h4, if_neg h4, branch_ite]
      by_cases h5 : (k == 5) = true
      · rw [if_pos h5, if_pos h5]
        have vn := t_impl_NameChanges (o := o) (c := fNew) (c' := fNew) (gone := 10) (fresh := 22) (a := vals e7) (b := vals f7) (by rw [vals_len]; exact x7) (by rw [vals_len]; exact y7) (vals_all hx.q7) (vals_all hy.q7)
        have va := t_all (c := fOld) (l := nameCh o (vals e7) (vals f7) 10 22) (out := out) nameCh_all (by omega)
        have v1 := t_impl_valueNames (c := c) hx.l7 hx.q7
        have v2 := t_impl_valueNames (c := c') hy.l7 hy.q7
        rw [vals_re (ψ := fl fNew)] at v1 v2
        simp -implicitDefEqProofs only [v1, v2, vn, va, Option.bind_some, svSlK_leaf, headB_cons, headK_cons, svOwnK_own, lastK_nil, lastB_nil, svTupK_tup, d_impl_DefChanges_2_eq]
      · rw [if_neg h5, if_neg h5, branch_ite]
        by_cases h6 : (k == 6) = true
        · rw [if_pos h6, if_pos h6]
          simp -implicitDefEqProofs only [t_impl_InChanges hx.l6 hy.l6 hx.q6 hy.q6, t_all (c := fNew) (l := inCh o e6 f6) (out := out) chg_all (by omega), Option.bind_some, svSlK_leaf, headB_cons, headK_cons, svOwnK_own, lastK_nil, lastB_nil, svTupK_tup, d_impl_DefChanges_2_eq]
        · rw [if_neg h6, if_neg h6, branch_ite]
          by_cases h7 : (k == 7) = true
          · rw [if_pos h7, if_pos h7]
            have ol : (out ++ nameCh o e4 f4 14 26).length ≤ 3000000 := by have := nl 14 26; rw [List.length_append]; omega
            have ad := fun q => t_addL (q := q) (code := 15) (s := o) (p := nul) (out := out ++ nameCh o e4 f4 14 26) (by omega)
            have t3' := fun q => impl_tail3 (o := o) (c := c) (c' := c') (k := k) (b1 := b1) (b9 := b9) (s2 := s2) (e8 := e8) (e10 := e10) (j0 := j0) (c1 := c1) (t2 := t2) (f8 := f8) (c9 := c9) (f10 := f10) hx hy (out := out ++ nameCh o e4 f4 14 26 ++ ifCh q 15 o nul) (by have := ifCh_len q 15 o nul; rw [List.length_append]; omega)
            simp -implicitDefEqProofs only [tn, na, Option.bind_some, svSlK_leaf, headB_cons, headK_cons, svOwnK_own, lastK_nil, lastB_nil, svTupK_tup, ad, t3']
            rw [rep_if (code := 15)]
            cases b9 <;> simp -implicitDefEqProofs only [beq_self_eq_true, show ((false : Bool) == true) = false from rfl, branch_true, branch_false, Bool.true_and, Bool.false_and, List.append_assoc]
          · rw [if_neg h7, if_neg h7, d_impl_DefChanges_2_eq, List.append_nil]
theorem t_impl_DefChanges (hx : DOk nm e4 e5 e6 e7) (hy : DOk t3 f4 f5 f6 f7) :
    Dd F.impl_DefChanges [.agg [.int .i64 k, .bool b1, .str s2, .str nm, .sl c (reE (fl c) e4), .sl c (reE (fl c) e5), .sl c (reE (fl c) e6), .sl c (reE (fl c) e7), .sl c (reE (fl c) e8), .bool b9, .sl c (reE (fl c) e10)], .agg [.int .i64 j0, .bool c1, .str t2, .str t3, .sl c' (reE (fl c') f4), .sl c' (reE (fl c') f5), .sl c' (reE (fl c') f6), .sl c' (reE (fl c') f7), .sl c' (reE (fl c') f8), .bool c9, .sl c' (reE (fl c') f10)]] [] =
      some (.leaf (.sl fNew (reE (fl fNew) (defCh [.int .i64 k, .bool b1, .str s2, .str nm, .sl fP e4, .sl fP e5, .sl fP e6, .sl fP e7, .sl fP e8, .bool b9, .sl fP e10] [.int .i64 j0, .bool c1, .str t2, .str t3, .sl fP f4, .sl fP f5, .sl fP f6, .sl fP f7, .sl fP f8, .bool c9, .sl fP f10]))), []) := by
  have z : decide ((ByteArray.mk #[64]).size + nm.size ≤ 140737488355328) = true := decide_eq_true (by have := hx.nm; show 1 + _ ≤ _; omega)
  have s0 : ∀ o : ByteArray, d_impl_DefChanges_A Dd (d_impl_DefChanges_0 o k b1 s2 nm c (reE (fl c) e4) c (reE (fl c) e5) c (reE (fl c) e6) c (reE (fl c) e7) c (reE (fl c) e8) b9 c (reE (fl c) e10) j0 c1 t2 t3 c' (reE (fl c') f4) c' (reE (fl c') f5) c' (reE (fl c') f6) c' (reE (fl c') f7) c' (reE (fl c') f8) c9 c' (reE (fl c') f10)) = some (.leaf (.sl fNew (reE (fl fNew) (rep 28 o (!(s2.toList == t2.toList)) ++ tailCh o nm k b9 c9 e4 e5 e6 e7 f4 f5 f6 f7))), []) := fun o => by
    have ad := t_addL (q := !(s2.toList == t2.toList)) (code := 28) (s := o) (p := nul) (out := []) (by simp)
    have hl := ifCh_len (!(s2.toList == t2.toList)) 28 o nul
    simp only [reE, List.nil_append] at ad
    rw [d_impl_DefChanges_0_eq]
    simp -implicitDefEqProofs only [ad, Option.bind_some, headB_cons, headK_cons, svOwnK_own, lastK_nil, lastB_nil, svTupK_tup]
    rw [branch_ite, rep_if]
    by_cases h2 : (k == 2) = true
    · rw [if_pos h2]
      exact impl_tail1 hx hy hl (by rw [h2]; rfl)
    · rw [if_neg h2]
      exact impl_tail1 hx hy hl (by rw [Bool.not_eq_true] at h2; rw [h2]; rfl)
  have ad3 := t_addL (q := true) (code := 3) (s := nm) (p := nul) (out := []) (by simp)
  simp only [reE, List.nil_append] at ad3
  apply dd_of rfl
  rw [run_d_impl_DefChanges, s0, s0, z, guarded_true, branch_ite, branch_ite, defCh_mk]
  unfold dirNm
  by_cases h : (k != j0) = true
  · rw [if_pos h, if_pos h]
    simp -implicitDefEqProofs only [ad3, Option.bind_some, headB_cons, headK_cons, svOwnK_own, lastK_nil, lastB_nil, svTupK_tup]
    rfl
  · rw [if_neg h, if_neg h]
    by_cases h7 : (k == 7) = true
    · rw [if_pos h7, if_pos h7]
    · rw [if_neg h7, if_neg h7]
end
end Go.Vs
end
section
open Go Go.Vs Go.Proofs
set_option linter.unusedVariables false
set_option linter.unusedSimpArgs false
namespace Go.Vs
theorem laws_szStringS_from {es : List (List (Leaf false))} (hl : es.length ≤ maxLen) (hq : ∀ e ∈ es, IsStr e) : ∀ i : Nat, i ≤ es.length → ∀ n : Int, 0 ≤ n →
    laws_szStringS_A Dn (laws_szStringS_0 es n i) = some (vint (szE (es.drop i) n), []) := by
  refine upto_ind ?_ ?_
  · intro n hn; rw [laws_szStringS_0_eq]; simp [szE]
  · intro i hi ih n hn
    obtain ⟨s, he, hs⟩ := hq _ (List.getElem_mem hi)
    rw [laws_szStringS_0_eq, drop_at hi]
    simp only [Int.ofNat_lt, hi, decide_true, branch_true, Int.natCast_nonneg, Bool.and_true, Int.toNat_natCast, guarded_true, wrap_upL (Nat.lt_of_lt_of_le hi hl), sized_all (fun e he => (hq e he).len), getD_lt hi]
    rw [he]
    simp only [atK_zero, strK_str]
    exact sz_nextS fun hk => ih _ hk
theorem d_laws_szStringS {es : List (List (Leaf false))} (hl : es.length ≤ maxLen) (hq : ∀ e ∈ es, IsStr e) {n : Int} (hn : 0 ≤ n) :
    Dn F.laws_szStringS [vsl es, vint n] [] = some (vint (szF (.sl fP es) n), []) := by
  apply den_of
  rw [run_laws_szStringS]
  refine sz_len fun hk => ?_
  have := laws_szStringS_from hl hq 0 (Nat.zero_le _) _ hk
  simpa using this
theorem d_laws_szType {ls : List (Leaf false)} (h : IsType ls) : ∀ {n : Int}, 0 ≤ n → Dn F.laws_szType [.agg ls, vint n] [] = some (vint (szL ls n), []) := by
  cases h with
  | mk s0 s1 h0 h1 =>
    intro n hn
    apply den_of
    rw [run_laws_szType]
    refine sz_str fun hn => ?_
    refine sz_str fun hn => ?_
    rfl
theorem laws_szValueS_from {es : List (List (Leaf false))} (hl : es.length ≤ maxLen) (hq : ∀ e ∈ es, IsValue e) (hd : ∀ e ∈ es, ∀ n : Int, 0 ≤ n → Dn F.laws_szValue [.agg e, vint n] [] = some (vint (szL e n), [])) : ∀ i : Nat, i ≤ es.length → ∀ n : Int, 0 ≤ n →
    laws_szValueS_A Dn (laws_szValueS_0 es n i) = some (vint (szE (es.drop i) n), []) := by
  refine upto_ind ?_ ?_
  · intro n hn; rw [laws_szValueS_0_eq]; simp [szE]
  · intro i hi ih n hn
    have hci := hd _ (List.getElem_mem hi) n hn
    obtain ⟨i0, s1, e2, e3, he, h1, h2, q2, h3, q3⟩ := (hq _ (List.getElem_mem hi)).ex
    rw [laws_szValueS_0_eq, drop_at hi]
    simp only [Int.ofNat_lt, hi, decide_true, branch_true, Int.natCast_nonneg, Bool.and_true, Int.toNat_natCast, guarded_true, wrap_upL (Nat.lt_of_lt_of_le hi hl), sized_all (fun e he => (hq e he).len), getD_lt hi]
    rw [he] at hci ⊢
    simp only [bindE_eq, atK_zero, atK_succ, intK_int, strK_str, boolK_bool, slK_sl]
    exact sz_next hci fun k hk => ih k hk
theorem d_laws_szValueS_of {es : List (List (Leaf false))} (hl : es.length ≤ maxLen) (hq : ∀ e ∈ es, IsValue e) (hd : ∀ e ∈ es, ∀ n : Int, 0 ≤ n → Dn F.laws_szValue [.agg e, vint n] [] = some (vint (szL e n), [])) {n : Int} (hn : 0 ≤ n) :
    Dn F.laws_szValueS [vsl es, vint n] [] = some (vint (szF (.sl fP es) n), []) := by
  apply den_of
  rw [run_laws_szValueS]
  refine sz_len fun hk => ?_
  have := laws_szValueS_from hl hq hd 0 (Nat.zero_le _) _ hk
  simpa using this
theorem d_laws_szValue {ls : List (Leaf false)} (h : IsValue ls) : ∀ {n : Int}, 0 ≤ n → Dn F.laws_szValue [.agg ls, vint n] [] = some (vint (szL ls n), []) := by
  induction h with
  | mk i0 s1 e2 e3 h1 h2 q2 h3 q3 ih2 =>
    intro n hn
    apply den_of
    rw [run_laws_szValue]
    refine sz_int hn ?_
    refine sz_str fun hn => ?_
    refine sz_callS (d_laws_szValueS_of h2 q2 (fun e he n hn => ih2 e he hn) hn) fun k hn => ?_
    refine sz_callS (d_laws_szStringS h3 q3 hn) fun k hn => ?_
    rfl
theorem d_laws_szValueS {es : List (List (Leaf false))} (hl : es.length ≤ maxLen) (hq : ∀ e ∈ es, IsValue e) {n : Int} (hn : 0 ≤ n) : Dn F.laws_szValueS [vsl es, vint n] [] = some (vint (szF (.sl fP es) n), []) := d_laws_szValueS_of hl hq (fun e he n hn => d_laws_szValue (hq e he) hn) hn
theorem laws_szArgS_from {es : List (List (Leaf false))} (hl : es.length ≤ maxLen) (hq : ∀ e ∈ es, IsArg e) (hd : ∀ e ∈ es, ∀ n : Int, 0 ≤ n → Dn F.laws_szArg [.agg e, vint n] [] = some (vint (szL e n), [])) : ∀ i : Nat, i ≤ es.length → ∀ n : Int, 0 ≤ n →
    laws_szArgS_A Dn (laws_szArgS_0 es n i) = some (vint (szE (es.drop i) n), []) := by
  refine upto_ind ?_ ?_
  · intro n hn; rw [laws_szArgS_0_eq]; simp [szE]
  · intro i hi ih n hn
    have hci := hd _ (List.getElem_mem hi) n hn
    obtain ⟨s0, i1, s2, e3, e4, he, h0, h2, h3, q3, h4, q4⟩ := (hq _ (List.getElem_mem hi)).ex
    rw [laws_szArgS_0_eq, drop_at hi]
    simp only [Int.ofNat_lt, hi, decide_true, branch_true, Int.natCast_nonneg, Bool.and_true, Int.toNat_natCast, guarded_true, wrap_upL (Nat.lt_of_lt_of_le hi hl), sized_all (fun e he => (hq e he).len), getD_lt hi]
    rw [he] at hci ⊢
    simp only [bindE_eq, atK_zero, atK_succ, intK_int, strK_str, boolK_bool, slK_sl]
    exact sz_next hci fun k hk => ih k hk
theorem d_laws_szArgS_of {es : List (List (Leaf false))} (hl : es.length ≤ maxLen) (hq : ∀ e ∈ es, IsArg e) (hd : ∀ e ∈ es, ∀ n : Int, 0 ≤ n → Dn F.laws_szArg [.agg e, vint n] [] = some (vint (szL e n), [])) {n : Int} (hn : 0 ≤ n) :
    Dn F.laws_szArgS [vsl es, vint n] [] = some (vint (szF (.sl fP es) n), []) := by
  apply den_of
  rw [run_laws_szArgS]
  refine sz_len fun hk => ?_
  have := laws_szArgS_from hl hq hd 0 (Nat.zero_le _) _ hk
  simpa using this
theorem d_laws_szArg {ls : List (Leaf false)} (h : IsArg ls) : ∀ {n : Int}, 0 ≤ n → Dn F.laws_szArg [.agg ls, vint n] [] = some (vint (szL ls n), []) := by
  cases h with
  | mk s0 i1 s2 e3 e4 h0 h2 h3 q3 h4 q4 =>
    intro n hn
    apply den_of
    rw [run_laws_szArg]
    refine sz_str fun hn => ?_
    refine sz_call (a := [.int .i64 i1, .str s2, .sl fP e3, .sl fP e4]) (d_laws_szValue (.mk i1 s2 e3 e4 h2 h3 q3 h4 q4) hn) hn fun k hn => ?_
    rfl
theorem d_laws_szArgS {es : List (List (Leaf false))} (hl : es.length ≤ maxLen) (hq : ∀ e ∈ es, IsArg e) {n : Int} (hn : 0 ≤ n) : Dn F.laws_szArgS [vsl es, vint n] [] = some (vint (szF (.sl fP es) n), []) := d_laws_szArgS_of hl hq (fun e he n hn => d_laws_szArg (hq e he) hn) hn
theorem laws_szDirS_from {es : List (List (Leaf false))} (hl : es.length ≤ maxLen) (hq : ∀ e ∈ es, IsDir e) (hd : ∀ e ∈ es, ∀ n : Int, 0 ≤ n → Dn F.laws_szDir [.agg e, vint n] [] = some (vint (szL e n), [])) : ∀ i : Nat, i ≤ es.length → ∀ n : Int, 0 ≤ n →
    laws_szDirS_A Dn (laws_szDirS_0 es n i) = some (vint (szE (es.drop i) n), []) := by
  refine upto_ind ?_ ?_
  · intro n hn; rw [laws_szDirS_0_eq]; simp [szE]
  · intro i hi ih n hn
    have hci := hd _ (List.getElem_mem hi) n hn
    obtain ⟨s0, e1, he, h0, h1, q1⟩ := (hq _ (List.getElem_mem hi)).ex
    rw [laws_szDirS_0_eq, drop_at hi]
    simp only [Int.ofNat_lt, hi, decide_true, branch_true, Int.natCast_nonneg, Bool.and_true, Int.toNat_natCast, guarded_true, wrap_upL (Nat.lt_of_lt_of_le hi hl), sized_all (fun e he => (hq e he).len), getD_lt hi]
    rw [he] at hci ⊢
    simp only [bindE_eq, atK_zero, atK_succ, intK_int, strK_str, boolK_bool, slK_sl]
    exact sz_next hci fun k hk => ih k hk
theorem d_laws_szDirS_of {es : List (List (Leaf false))} (hl : es.length ≤ maxLen) (hq : ∀ e ∈ es, IsDir e) (hd : ∀ e ∈ es, ∀ n : Int, 0 ≤ n → Dn F.laws_szDir [.agg e, vint n] [] = some (vint (szL e n), [])) {n : Int} (hn : 0 ≤ n) :
    Dn F.laws_szDirS [vsl es, vint n] [] = some (vint (szF (.sl fP es) n), []) := by
  apply den_of
  rw [run_laws_szDirS]
  refine sz_len fun hk => ?_
  have := laws_szDirS_from hl hq hd 0 (Nat.zero_le _) _ hk
  simpa using this
theorem d_laws_szDir {ls : List (Leaf false)} (h : IsDir ls) : ∀ {n : Int}, 0 ≤ n → Dn F.laws_szDir [.agg ls, vint n] [] = some (vint (szL ls n), []) := by
  cases h with
  | mk s0 e1 h0 h1 q1 =>
    intro n hn
    apply den_of
    rw [run_laws_szDir]
    refine sz_str fun hn => ?_
    refine sz_callS (d_laws_szArgS h1 q1 hn) fun k hn => ?_
    rfl
theorem d_laws_szDirS {es : List (List (Leaf false))} (hl : es.length ≤ maxLen) (hq : ∀ e ∈ es, IsDir e) {n : Int} (hn : 0 ≤ n) : Dn F.laws_szDirS [vsl es, vint n] [] = some (vint (szF (.sl fP es) n), []) := d_laws_szDirS_of hl hq (fun e he n hn => d_laws_szDir (hq e he) hn) hn
theorem laws_szInDefS_from {es : List (List (Leaf false))} (hl : es.length ≤ maxLen) (hq : ∀ e ∈ es, IsInDef e) (hd : ∀ e ∈ es, ∀ n : Int, 0 ≤ n → Dn F.laws_szInDef [.agg e, vint n] [] = some (vint (szL e n), [])) : ∀ i : Nat, i ≤ es.length → ∀ n : Int, 0 ≤ n →
    laws_szInDefS_A Dn (laws_szInDefS_0 es n i) = some (vint (szE (es.drop i) n), []) := by
  refine upto_ind ?_ ?_
  · intro n hn; rw [laws_szInDefS_0_eq]; simp [szE]
  · intro i hi ih n hn
    have hci := hd _ (List.getElem_mem hi) n hn
    obtain ⟨s0, s1, s2, s3, b4, i5, s6, e7, e8, e9, he, h0, h1, h2, h3, h6, h7, q7, h8, q8, h9, q9⟩ := (hq _ (List.getElem_mem hi)).ex
    rw [laws_szInDefS_0_eq, drop_at hi]
    simp only [Int.ofNat_lt, hi, decide_true, branch_true, Int.natCast_nonneg, Bool.and_true, Int.toNat_natCast, guarded_true, wrap_upL (Nat.lt_of_lt_of_le hi hl), sized_all (fun e he => (hq e he).len), getD_lt hi]
    rw [he] at hci ⊢
    simp only [bindE_eq, atK_zero, atK_succ, intK_int, strK_str, boolK_bool, slK_sl]
    exact sz_next hci fun k hk => ih k hk
theorem d_laws_szInDefS_of {es : List (List (Leaf false))} (hl : es.length ≤ maxLen) (hq : ∀ e ∈ es, IsInDef e) (hd : ∀ e ∈ es, ∀ n : Int, 0 ≤ n → Dn F.laws_szInDef [.agg e, vint n] [] = some (vint (szL e n), [])) {n : Int} (hn : 0 ≤ n) :
    Dn F.laws_szInDefS [vsl es, vint n] [] = some (vint (szF (.sl fP es) n), []) := by
  apply den_of
  rw [run_laws_szInDefS]
  refine sz_len fun hk => ?_
  have := laws_szInDefS_from hl hq hd 0 (Nat.zero_le _) _ hk
  simpa using this
theorem d_laws_szInDef {ls : List (Leaf false)} (h : IsInDef ls) : ∀ {n : Int}, 0 ≤ n → Dn F.laws_szInDef [.agg ls, vint n] [] = some (vint (szL ls n), []) := by
  cases h with
  | mk s0 s1 s2 s3 b4 i5 s6 e7 e8 e9 h0 h1 h2 h3 h6 h7 q7 h8 q8 h9 q9 =>
    intro n hn
    apply den_of
    rw [run_laws_szInDef]
    refine sz_str fun hn => ?_
    refine sz_str fun hn => ?_
    refine sz_call (a := [.str s2, .str s3]) (d_laws_szType (.mk s2 s3 h2 h3) hn) hn fun k hn => ?_
    refine sz_bool hn ?_
    refine sz_call (a := [.int .i64 i5, .str s6, .sl fP e7, .sl fP e8]) (d_laws_szValue (.mk i5 s6 e7 e8 h6 h7 q7 h8 q8) hn) hn fun k hn => ?_
    refine sz_callS (d_laws_szDirS h9 q9 hn) fun k hn => ?_
    rfl
theorem d_laws_szInDefS {es : List (List (Leaf false))} (hl : es.length ≤ maxLen) (hq : ∀ e ∈ es, IsInDef e) {n : Int} (hn : 0 ≤ n) : Dn F.laws_szInDefS [vsl es, vint n] [] = some (vint (szF (.sl fP es) n), []) := d_laws_szInDefS_of hl hq (fun e he n hn => d_laws_szInDef (hq e he) hn) hn
theorem laws_szFieldDefS_from {es : List (List (Leaf false))} (hl : es.length ≤ maxLen) (hq : ∀ e ∈ es, IsFieldDef e) (hd : ∀ e ∈ es, ∀ n : Int, 0 ≤ n → Dn F.laws_szFieldDef [.agg e, vint n] [] = some (vint (szL e n), [])) : ∀ i : Nat, i ≤ es.length → ∀ n : Int, 0 ≤ n →
    laws_szFieldDefS_A Dn (laws_szFieldDefS_0 es n i) = some (vint (szE (es.drop i) n), []) := by
  refine upto_ind ?_ ?_
  · intro n hn; rw [laws_szFieldDefS_0_eq]; simp [szE]
  · intro i hi ih n hn
    have hci := hd _ (List.getElem_mem hi) n hn
    obtain ⟨s0, s1, e2, s3, s4, e5, he, h0, h1, h2, q2, h3, h4, h5, q5⟩ := (hq _ (List.getElem_mem hi)).ex
    rw [laws_szFieldDefS_0_eq, drop_at hi]
    simp only [Int.ofNat_lt, hi, decide_true, branch_true, Int.natCast_nonneg, Bool.and_true, Int.toNat_natCast, guarded_true, wrap_upL (Nat.lt_of_lt_of_le hi hl), sized_all (fun e he => (hq e he).len), getD_lt hi]
    rw [he] at hci ⊢
    simp only [bindE_eq, atK_zero, atK_succ, intK_int, strK_str, boolK_bool, slK_sl]
    exact sz_next hci fun k hk => ih k hk
theorem d_laws_szFieldDefS_of {es : List (List (Leaf false))} (hl : es.length ≤ maxLen) (hq : ∀ e ∈ es, IsFieldDef e) (hd : ∀ e ∈ es, ∀ n : Int, 0 ≤ n → Dn F.laws_szFieldDef [.agg e, vint n] [] = some (vint (szL e n), [])) {n : Int} (hn : 0 ≤ n) :
    Dn F.laws_szFieldDefS [vsl es, vint n] [] = some (vint (szF (.sl fP es) n), []) := by
  apply den_of
  rw [run_laws_szFieldDefS]
  refine sz_len fun hk => ?_
  have := laws_szFieldDefS_from hl hq hd 0 (Nat.zero_le _) _ hk
  simpa using this
theorem d_laws_szFieldDef {ls : List (Leaf false)} (h : IsFieldDef ls) : ∀ {n : Int}, 0 ≤ n → Dn F.laws_szFieldDef [.agg ls, vint n] [] = some (vint (szL ls n), []) := by
  cases h with
  | mk s0 s1 e2 s3 s4 e5 h0 h1 h2 q2 h3 h4 h5 q5 =>
    intro n hn
    apply den_of
    rw [run_laws_szFieldDef]
    refine sz_str fun hn => ?_
    refine sz_str fun hn => ?_
    refine sz_callS (d_laws_szInDefS h2 q2 hn) fun k hn => ?_
    refine sz_call (a := [.str s3, .str s4]) (d_laws_szType (.mk s3 s4 h3 h4) hn) hn fun k hn => ?_
    refine sz_callS (d_laws_szDirS h5 q5 hn) fun k hn => ?_
    rfl
theorem d_laws_szFieldDefS {es : List (List (Leaf false))} (hl : es.length ≤ maxLen) (hq : ∀ e ∈ es, IsFieldDef e) {n : Int} (hn : 0 ≤ n) : Dn F.laws_szFieldDefS [vsl es, vint n] [] = some (vint (szF (.sl fP es) n), []) := d_laws_szFieldDefS_of hl hq (fun e he n hn => d_laws_szFieldDef (hq e he) hn) hn
theorem laws_szEnumDefS_from {es : List (List (Leaf false))} (hl : es.length ≤ maxLen) (hq : ∀ e ∈ es, IsEnumDef e) (hd : ∀ e ∈ es, ∀ n : Int, 0 ≤ n → Dn F.laws_szEnumDef [.agg e, vint n] [] = some (vint (szL e n), [])) : ∀ i : Nat, i ≤ es.length → ∀ n : Int, 0 ≤ n →
    laws_szEnumDefS_A Dn (laws_szEnumDefS_0 es n i) = some (vint (szE (es.drop i) n), []) := by
  refine upto_ind ?_ ?_
  · intro n hn; rw [laws_szEnumDefS_0_eq]; simp [szE]
  · intro i hi ih n hn
    have hci := hd _ (List.getElem_mem hi) n hn
    obtain ⟨s0, s1, e2, he, h0, h1, h2, q2⟩ := (hq _ (List.getElem_mem hi)).ex
    rw [laws_szEnumDefS_0_eq, drop_at hi]
    simp only [Int.ofNat_lt, hi, decide_true, branch_true, Int.natCast_nonneg, Bool.and_true, Int.toNat_natCast, guarded_true, wrap_upL (Nat.lt_of_lt_of_le hi hl), sized_all (fun e he => (hq e he).len), getD_lt hi]
    rw [he] at hci ⊢
    simp only [bindE_eq, atK_zero, atK_succ, intK_int, strK_str, boolK_bool, slK_sl]
    exact sz_next hci fun k hk => ih k hk
theorem d_laws_szEnumDefS_of {es : List (List (Leaf false))} (hl : es.length ≤ maxLen) (hq : ∀ e ∈ es, IsEnumDef e) (hd : ∀ e ∈ es, ∀ n : Int, 0 ≤ n → Dn F.laws_szEnumDef [.agg e, vint n] [] = some (vint (szL e n), [])) {n : Int} (hn : 0 ≤ n) :
    Dn F.laws_szEnumDefS [vsl es, vint n] [] = some (vint (szF (.sl fP es) n), []) := by
  apply den_of
  rw [run_laws_szEnumDefS]
  refine sz_len fun hk => ?_
  have := laws_szEnumDefS_from hl hq hd 0 (Nat.zero_le _) _ hk
  simpa using this
theorem d_laws_szEnumDef {ls : List (Leaf false)} (h : IsEnumDef ls) : ∀ {n : Int}, 0 ≤ n → Dn F.laws_szEnumDef [.agg ls, vint n] [] = some (vint (szL ls n), []) := by
  cases h with
  | mk s0 s1 e2 h0 h1 h2 q2 =>
    intro n hn
    apply den_of
    rw [run_laws_szEnumDef]
    refine sz_str fun hn => ?_
    refine sz_str fun hn => ?_
    refine sz_callS (d_laws_szDirS h2 q2 hn) fun k hn => ?_
    rfl
theorem d_laws_szEnumDefS {es : List (List (Leaf false))} (hl : es.length ≤ maxLen) (hq : ∀ e ∈ es, IsEnumDef e) {n : Int} (hn : 0 ≤ n) : Dn F.laws_szEnumDefS [vsl es, vint n] [] = some (vint (szF (.sl fP es) n), []) := d_laws_szEnumDefS_of hl hq (fun e he n hn => d_laws_szEnumDef (hq e he) hn) hn
theorem laws_szRootS_from {es : List (List (Leaf false))} (hl : es.length ≤ maxLen) (hq : ∀ e ∈ es, IsRoot e) (hd : ∀ e ∈ es, ∀ n : Int, 0 ≤ n → Dn F.laws_szRoot [.agg e, vint n] [] = some (vint (szL e n), [])) : ∀ i : Nat, i ≤ es.length → ∀ n : Int, 0 ≤ n →
    laws_szRootS_A Dn (laws_szRootS_0 es n i) = some (vint (szE (es.drop i) n), []) := by
  refine upto_ind ?_ ?_
  · intro n hn; rw [laws_szRootS_0_eq]; simp [szE]
  · intro i hi ih n hn
    have hci := hd _ (List.getElem_mem hi) n hn
    obtain ⟨i0, s1, he, h1⟩ := (hq _ (List.getElem_mem hi)).ex
    rw [laws_szRootS_0_eq, drop_at hi]
    simp only [Int.ofNat_lt, hi, decide_true, branch_true, Int.natCast_nonneg, Bool.and_true, Int.toNat_natCast, guarded_true, wrap_upL (Nat.lt_of_lt_of_le hi hl), sized_all (fun e he => (hq e he).len), getD_lt hi]
    rw [he] at hci ⊢
    simp only [bindE_eq, atK_zero, atK_succ, intK_int, strK_str, boolK_bool, slK_sl]
    exact sz_next hci fun k hk => ih k hk
theorem d_laws_szRootS_of {es : List (List (Leaf false))} (hl : es.length ≤ maxLen) (hq : ∀ e ∈ es, IsRoot e) (hd : ∀ e ∈ es, ∀ n : Int, 0 ≤ n → Dn F.laws_szRoot [.agg e, vint n] [] = some (vint (szL e n), [])) {n : Int} (hn : 0 ≤ n) :
    Dn F.laws_szRootS [vsl es, vint n] [] = some (vint (szF (.sl fP es) n), []) := by
  apply den_of
  rw [run_laws_szRootS]
  refine sz_len fun hk => ?_
  have := laws_szRootS_from hl hq hd 0 (Nat.zero_le _) _ hk
  simpa using this
theorem d_laws_szRoot {ls : List (Leaf false)} (h : IsRoot ls) : ∀ {n : Int}, 0 ≤ n → Dn F.laws_szRoot [.agg ls, vint n] [] = some (vint (szL ls n), []) := by
  cases h with
  | mk i0 s1 h1 =>
    intro n hn
    apply den_of
    rw [run_laws_szRoot]
    refine sz_int hn ?_
    refine sz_str fun hn => ?_
    rfl
theorem d_laws_szRootS {es : List (List (Leaf false))} (hl : es.length ≤ maxLen) (hq : ∀ e ∈ es, IsRoot e) {n : Int} (hn : 0 ≤ n) : Dn F.laws_szRootS [vsl es, vint n] [] = some (vint (szF (.sl fP es) n), []) := d_laws_szRootS_of hl hq (fun e he n hn => d_laws_szRoot (hq e he) hn) hn
theorem d_laws_szDef {ls : List (Leaf false)} (h : IsDef ls) : ∀ {n : Int}, 0 ≤ n → Dn F.laws_szDef [.agg ls, vint n] [] = some (vint (szL ls n), []) := by
  cases h with
  | mk i0 b1 s2 s3 e4 e5 e6 e7 e8 b9 e10 h2 h3 h4 q4 h5 q5 h6 q6 h7 q7 h8 q8 h10 q10 =>
    intro n hn
    apply den_of
    rw [run_laws_szDef]
    refine sz_int hn ?_
    refine sz_bool hn ?_
    refine sz_str fun hn => ?_
    refine sz_str fun hn => ?_
    refine sz_callS (d_laws_szStringS h4 q4 hn) fun k hn => ?_
    refine sz_callS (d_laws_szFieldDefS h5 q5 hn) fun k hn => ?_
    refine sz_callS (d_laws_szInDefS h6 q6 hn) fun k hn => ?_
    refine sz_callS (d_laws_szEnumDefS h7 q7 hn) fun k hn => ?_
    refine sz_callS (d_laws_szRootS h8 q8 hn) fun k hn => ?_
    refine sz_bool hn ?_
    refine sz_callS (d_laws_szDirS h10 q10 hn) fun k hn => ?_
    rfl

end Go.Vs
end
section
open Go Go.Vs Go.Proofs
set_option linter.unusedVariables false
set_option linter.unusedSimpArgs false
namespace Go.Vs
noncomputable def mkChange (k : Int) : List (Leaf false) := [.int .i64 (k), .str (mtx (IntKind.i64.wrap (k + 1))), .str (mtx (IntKind.i64.wrap (IntKind.i64.wrap (k + 1) + 1)))]
def nextChange (k : Int) : Int := IntKind.i64.wrap (IntKind.i64.wrap (IntKind.i64.wrap (k + 1) + 1) + 1)
noncomputable def rowChange : Nat → Int → List (List (Leaf false))
  | 0, _ => []
  | n + 1, k => mkChange k :: rowChange n (nextChange k)
def endChange : Nat → Int → Int
  | 0, k => k
  | n + 1, k => endChange n (nextChange k)
theorem endChange_succ : ∀ (n : Nat) (k : Int), endChange (n + 1) k = nextChange (endChange n k)
  | 0, _ => rfl
  | n + 1, k => endChange_succ n (nextChange k)
theorem rowChange_length : ∀ (n : Nat) (k : Int), (rowChange n k).length = n
  | 0, _ => rfl
  | n + 1, k => by rw [rowChange, List.length_cons, rowChange_length n]
theorem rowChange_all : ∀ (n : Nat) (k : Int), ∀ e ∈ rowChange n k, e.length = 3
  | 0, _, e, h => by simp [rowChange] at h
  | n + 1, k, e, h => by
    rcases List.mem_cons.1 h with rfl | h
    · rfl
    · exact rowChange_all n _ e h
theorem rowChange_get : ∀ (n : Nat) (k : Int) (i : Nat) (h : i < (rowChange n k).length), (rowChange n k)[i] = mkChange (endChange i k)
  | 0, _, i, h => by simp [rowChange] at h
  | n + 1, k, 0, h => rfl
  | n + 1, k, i + 1, h => rowChange_get n (nextChange k) i (by simpa [rowChange] using h)
theorem laws_markChangeS_from {n : Nat} {k : Int} (hl : n ≤ maxLen) : ∀ i : Nat, i ≤ n → ∀ z : List (SV false), z.all SV.flat = true → (n - i) * 3 ≤ z.length →
    laws_markChangeS_r0_A Dn (laws_markChangeS_r0_0 n (endChange i k) i (rowAt (rowChange n k) i z)) = some (vint (endChange n k), [rowAt (rowChange n k) n (z.drop ((n - i) * 3))]) := by
  have hN := rowChange_length n k
  have hall := rowChange_all n k
  refine upto_ind ?_ ?_
  · intro z hz hzl
    rw [laws_markChangeS_r0_0_eq]
    have hf := rowAt_flat (l := rowChange n k) (i := n) hz
    simp [hf]
  · intro i hi ih z hz hzl
    have hlen := rowAt_len (z := z) hall (i := i) (by omega)
    have hp := putAt_row (z := z) hall (i := i) (by omega)
    rw [rowChange_get] at hp
    simp only [mkChange, List.map_cons, List.map_nil] at hp
    have hd : (n - i) * 3 = (n - (i + 1)) * 3 + 3 := by rw [← Nat.succ_mul]; congr 1; omega
    rw [laws_markChangeS_r0_0_eq]
    simp only [Int.ofNat_lt, hi, decide_true, branch_true, Int.natCast_nonneg, Bool.and_true, guarded_true, wrap_upL (Nat.lt_of_lt_of_le hi hl), List.getElem_toArray, List.getElem_cons_zero, List.getElem_cons_succ, Nat.zero_add, Nat.add_zero, Int.toNat_natCast, d_markText, Option.bind_some, svLeafK_leaf, strK_str]
    have b0 : i * 3 + 1 ≤ (rowAt (rowChange n k) i z).length := by rw [hlen]; omega
    simp only [b0, decide_true, guarded_true]
    have b1 : ∀ l : List (SV false), l.length = 1 → i * 3 + 1 + 1 ≤ (putAt (rowAt (rowChange n k) i z) (i * 3) l).length := fun l hl0 => by rw [putAt_length (by rw [hl0, hlen]; omega), hlen]; omega
    have j1 : ∀ (l : List (SV false)) (x : SV false), l.length = 1 → putAt (putAt (rowAt (rowChange n k) i z) (i * 3) l) (i * 3 + 1) [x] = putAt (rowAt (rowChange n k) i z) (i * 3) (l ++ [x]) := fun l x hl0 => putAt_two (by rw [hl0]) (by rw [hl0, hlen]; simp; omega)
    have b2 : ∀ l : List (SV false), l.length = 2 → i * 3 + 2 + 1 ≤ (putAt (rowAt (rowChange n k) i z) (i * 3) l).length := fun l hl0 => by rw [putAt_length (by rw [hl0, hlen]; omega), hlen]; omega
    have j2 : ∀ (l : List (SV false)) (x : SV false), l.length = 2 → putAt (putAt (rowAt (rowChange n k) i z) (i * 3) l) (i * 3 + 2) [x] = putAt (rowAt (rowChange n k) i z) (i * 3) (l ++ [x]) := fun l x hl0 => putAt_two (by rw [hl0]) (by rw [hl0, hlen]; simp; omega)
    rw [decide_eq_true (b1 _ rfl), guarded_true, j1 _ _ rfl]
    simp only [List.cons_append, List.nil_append]
    rw [decide_eq_true (b2 _ rfl), guarded_true, j2 _ _ rfl]
    simp only [List.cons_append, List.nil_append]
    rw [hp]
    have hz2 : (z.drop 3).all SV.flat = true := List.all_eq_true.2 fun x hx => List.all_eq_true.1 hz x (List.mem_of_mem_drop hx)
    have := ih (z.drop 3) hz2 (by rw [List.length_drop]; omega)
    rw [endChange_succ] at this
    simp only [nextChange] at this
    rw [this, List.drop_drop, hd, Nat.add_comm 3]
theorem d_laws_markChangeS_r {n : Nat} {k : Int} (hl : n ≤ maxLen) {z : List (SV false)} (hz : z.all SV.flat = true) (hzl : n * 3 ≤ z.length) :
    Dn F.laws_markChangeS [.bsl 0 3 0 n, vint k] [z] = some (vint (endChange n k), [rowAt (rowChange n k) n (z.drop (n * 3))]) := by
  apply den_of
  rw [run_laws_markChangeS_r0]
  have := laws_markChangeS_from (n := n) (k := k) hl 0 (Nat.zero_le _) z hz (by simpa using hzl)
  simpa [rowAt, endChange] using this
theorem laws_heldChangeS_from {n : Nat} {k : Int} (hl : n ≤ maxLen) {z : List (SV false)} (hz : z.all SV.flat = true) : ∀ i : Nat, i ≤ n →
    laws_heldChangeS_r0_A Dn (laws_heldChangeS_r0_0 n (endChange i k) i (rowAt (rowChange n k) n z)) = some (vint (endChange n k), [rowAt (rowChange n k) n z]) := by
  have hN := rowChange_length n k
  have hall := rowChange_all n k
  have hf := rowAt_flat (l := rowChange n k) (i := n) hz
  refine upto_ind ?_ ?_
  · rw [laws_heldChangeS_r0_0_eq]
    simp [hf]
  · intro i hi ih
    have hi' : i < (rowChange n k).length := by omega
    rw [endChange_succ] at ih
    simp only [nextChange] at ih
    rw [laws_heldChangeS_r0_0_eq]
    simp only [Int.ofNat_lt, hi, decide_true, branch_true, Int.natCast_nonneg, Bool.and_true, guarded_true, wrap_upL (Nat.lt_of_lt_of_le hi hl), List.getElem_toArray, List.getElem_cons_zero, List.getElem_cons_succ, Nat.zero_add, Nat.add_zero, Int.toNat_natCast, d_markText, Option.bind_some, svLeafK_leaf, strK_str]
    have get : ∀ (o p : Nat) (ho : o < 3) (hp : p = i * 3 + o) (kk : SV false → Res), atSV (rowAt (rowChange n k) n z) p kk = kk (.leaf ((mkChange (endChange i k))[o]'ho)) := fun o p ho hp kk => by
      have := atSV_row (r := z) hall hi' ho hp kk
      rw [hN] at this
      rw [this]
      simp only [rowChange_get]
      try rfl
    rw [get 0 _ (by omega) (by omega)]
    simp only [mkChange, List.getElem_cons_zero, List.getElem_cons_succ, SV.drop, svLeafK_leaf, intK_int, strK_str, bne_self_eq_false, beq_self_eq_true, Bool.not_true, branch_false]
    rw [get 1 _ (by omega) (by omega)]
    simp only [mkChange, List.getElem_cons_zero, List.getElem_cons_succ, SV.drop, svLeafK_leaf, intK_int, strK_str, bne_self_eq_false, beq_self_eq_true, Bool.not_true, branch_false]
    rw [get 2 _ (by omega) (by omega)]
    simp only [mkChange, List.getElem_cons_zero, List.getElem_cons_succ, SV.drop, svLeafK_leaf, intK_int, strK_str, bne_self_eq_false, beq_self_eq_true, Bool.not_true, branch_false]
    exact ih
theorem d_laws_heldChangeS_r {n : Nat} {k : Int} (hl : n ≤ maxLen) {z : List (SV false)} (hz : z.all SV.flat = true) :
    Dn F.laws_heldChangeS [.bsl 0 3 0 n, vint k] [rowAt (rowChange n k) n z] = some (vint (endChange n k), [rowAt (rowChange n k) n z]) := by
  apply den_of
  rw [run_laws_heldChangeS_r0]
  have := laws_heldChangeS_from (n := n) (k := k) hl hz 0 (Nat.zero_le _)
  simpa [endChange] using this
theorem d_laws_markChangeS_nil (k : Int) : Dn F.laws_markChangeS [vsl [], vint k] [] = some (vint k, []) := by
  apply den_of
  rw [run_laws_markChangeS, laws_markChangeS_0_eq]
  simp
theorem d_laws_heldChangeS_nil (k : Int) : Dn F.laws_heldChangeS [vsl [], vint k] [] = some (vint k, []) := by
  apply den_of
  rw [run_laws_heldChangeS, laws_heldChangeS_0_eq]
  simp

end Go.Vs
end
section
open Go Go.Vs Go.Proofs
set_option linter.unusedVariables false
set_option linter.unusedSimpArgs false
set_option maxRecDepth 100000
namespace Go.Vs
theorem hP : Tryz.prog.follows .mixedOrders = true := by kernel_rfl
theorem hG : Tryz.prog.funcs.all (fun fn => !(fn.name == "runtime.NumGoroutine")) = true := by kernel_rfl
theorem dn_sound : DSound Tryz.prog Dn := den_sound hP hG tsound_none Hs
theorem dd_sound : DSound Tryz.prog Dd := den_sound hP hG (liftT_sound dn_sound keep) Hs
section
variable {c : Fl true}
theorem reS_er_li {x : SV false} (h : x.flat = true) : reS er (reS li x) = x := by
  have e : ∀ es : List (List (Leaf false)), reE er (reE li es) = es := fun es => reE_er fOld es
  cases x <;> simp [SV.flat] at h <;> simp only [reS]
  · rw [show reF er (reF li _) = _ from reF_er fOld _]
  · rw [e]
  · rw [show reL er (reL li _) = _ from reL_er fOld _]
theorem map_er_li : ∀ {l : List (SV false)}, l.all SV.flat = true → (l.map (reS li)).map (reS er) = l
  | [], _ => rfl
  | x :: l, h => by
    rw [List.all_cons, Bool.and_eq_true] at h
    rw [List.map_cons, List.map_cons, reS_er_li h.1, map_er_li h.2]
theorem map_flat {l : List (SV false)} (h : l.all SV.flat = true) : (l.map (reS li)).all SV.flat = true := by
  rw [List.all_map]
  exact List.all_eq_true.2 fun x hx => reS_flat x (List.all_eq_true.1 h x hx)
/-- A row that has been marked. -/
noncomputable def marked (n k : Nat) : List (SV false) := rowAt (rowChange n 1) n ((List.replicate k SV.any).drop (n * 3))
theorem any_flat (k : Nat) : (List.replicate k (SV.any (m := false))).all SV.flat = true := by
  rw [List.all_eq_true]; intro x hx; rw [List.eq_of_mem_replicate hx]; rfl
theorem drop_flat {l : List (SV false)} (h : l.all SV.flat = true) (n : Nat) : (l.drop n).all SV.flat = true :=
  List.all_eq_true.2 fun x hx => List.all_eq_true.1 h x (List.mem_of_mem_drop hx)
theorem marked_flat (n k : Nat) : (marked n k).all SV.flat = true := rowAt_flat (drop_flat (any_flat k) _)
theorem t_markChangeS_r {n k : Nat} (hl : n ≤ maxLen) (hk : n * 3 ≤ k) : Dd F.laws_markChangeS [.bsl 0 3 0 n, .leaf (.int .i64 1)] [List.replicate k .any] = some (.leaf (.int .i64 (endChange n 1)), [(marked n k).map (reS li)]) :=
  dd_told rfl (d_laws_markChangeS_r (k := 1) hl (any_flat k) (by rw [List.length_replicate]; exact hk)) rfl (by rw [List.map_cons, List.map_replicate]; rfl) rfl
theorem t_heldChangeS_r {n k : Nat} (hl : n ≤ maxLen) : Dd F.laws_heldChangeS [.bsl 0 3 0 n, .leaf (.int .i64 1)] [(marked n k).map (reS li)] = some (.leaf (.int .i64 (endChange n 1)), [(marked n k).map (reS li)]) :=
  dd_told rfl (d_laws_heldChangeS_r (k := 1) hl (drop_flat (any_flat k) _)) rfl (by rw [List.map_cons, map_er_li (marked_flat n k)]; rfl) rfl
theorem endChange_le : ∀ (n : Nat) (k : Int), 0 ≤ k → k + 3 * n ≤ cap → 0 ≤ endChange n k
  | 0, k, h, _ => h
  | n + 1, k, h, hc => by
    rw [endChange]
    have e : nextChange k = k + 3 := by
      unfold nextChange
      simp only [cap] at hc
      rw [wrap64 (z := k + 1) (by omega) (by omega), wrap64 (z := k + 1 + 1) (by omega) (by omega), wrap64 (z := k + 1 + 1 + 1) (by omega) (by omega)]; omega
    rw [e]
    exact endChange_le n _ (by omega) (by omega)
end
end Go.Vs
end
