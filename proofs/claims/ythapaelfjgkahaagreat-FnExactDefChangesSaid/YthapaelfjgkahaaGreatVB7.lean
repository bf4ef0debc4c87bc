/- What the program's functions compute, read off their text by the shadow runner (DTu); no condition. -/
import Derived.Test.YthapaelfjgkahaaGreatVB6
section
open Go Go.Vs Go.Proofs
set_option linter.unusedVariables false
set_option linter.unusedSimpArgs false
namespace Go.Vs
/-! ### The program's functions that are read plainly -/
theorem has_idx {s : ByteArray} : ∀ (l : List El) (i : Int), 0 ≤ i → hasName l s = decide (idxOf s i l ≥ 0)
  | [], i, h => by simp [hasName, idxOf]
  | e :: l, i, h => by
    have ih := has_idx (s := s) l (i + 1) (by omega)
    unfold hasName at ih ⊢
    rw [List.any_cons, ih]
    rw [show idxOf s i (e :: l) = if ((strAt e 0).toList == s.toList) = true then i else idxOf s (i + 1) l from rfl]
    cases hc : (strAt e 0).toList == s.toList
    · simp only [Bool.false_or, Bool.false_eq_true, if_false]
    · simp [h]
theorem beq_sym (a b : List UInt8) : (a == b) = (b == a) := by rw [Bool.eq_iff_iff, beq_iff_eq, beq_iff_eq]; exact eq_comm
theorem slices_Index_from {es : List El} {s : ByteArray} (hl : es.length ≤ maxLen) (hq : ∀ e ∈ es, IsStr e) : ∀ i : Nat, i ≤ es.length →
    slices_Index_S_string_string_A Dn (slices_Index_S_string_string_0 es s es.length i) = some (vint (idxOf s i (es.drop i)), []) := by
  refine upto_ind ?_ ?_
  · rw [slices_Index_S_string_string_0_eq]; simp [idxOf]
  · intro i hi ih
    obtain ⟨u, hu, _⟩ := hq _ (List.getElem_mem hi)
    rw [slices_Index_S_string_string_0_eq, drop_at hi]
    simp only [Int.ofNat_lt, hi, decide_true, branch_true, Int.natCast_nonneg, Bool.and_true, Int.toNat_natCast, guarded_true, wrap_upL (Nat.lt_of_lt_of_le hi hl), sized_all (fun e he => (hq e he).len), getD_lt hi]
    rw [hu]
    simp only [atK_zero, strK_str, branch_ite, idxOf, strAt, List.getElem?_cons_zero, ih]
    rw [beq_sym s.toList u.toList]
    by_cases hx : (u.toList == s.toList) = true <;> simp [hx]
theorem d_slices_Contains {es : List El} {s : ByteArray} (hl : es.length ≤ maxLen) (hq : ∀ e ∈ es, IsStr e) : Dn F.slices_Contains_S_string_string [vsl es, .leaf (.str s)] [] = some (vbool (hasName es s), []) := by
  have key : Dn F.slices_Index_S_string_string [vsl es, .leaf (.str s)] [] = some (vint (idxOf s 0 es), []) := by
    apply den_of
    rw [run_slices_Index_S_string_string]
    exact slices_Index_from hl hq 0 (Nat.zero_le _)
  apply den_of
  rw [run_slices_Contains_S_string_string, key, has_idx es 0 (by omega)]
  simp only [Option.bind_some, svLeafK_leaf, intK_int]
def ifCh (q : Bool) (code : Int) (s p : ByteArray) : List El := if q = true then [chg code s p] else []
theorem ifCh_len (q : Bool) (code : Int) (s p : ByteArray) : (ifCh q code s p).length ≤ 1 := by unfold ifCh; split <;> simp
theorem d_impl_add {q : Bool} {code : Int} {s p : ByteArray} {out : List El} (hr : out.length ≤ 4194304) : Dn F.impl_changes_add [.ptr 0 0, vbool q, vint code, .leaf (.str s), .leaf (.str p)] [[.own (some T.impl_Change) out]] =
    some (.tup [], [[.own (some T.impl_Change) (out ++ ifCh q code s p)]]) := by
  apply den_of
  rw [run_impl_changes_add]
  simp only [room hr, guarded_true, branch_ite]
  unfold ifCh
  cases q
  · simp
  · simp only [if_true, chg]
section
variable {o : ByteArray} {a b : List El} {gone fresh : Int}
theorem impl_names_A (ha : a.length ≤ 1048576) (hb : b.length ≤ 1048576) (qa : ∀ e ∈ a, IsStr e) (qb : ∀ e ∈ b, IsStr e) : ∀ i : Nat, i ≤ a.length → ∀ out : List El, out.length ≤ i →
    impl_NameChanges_A Dn (impl_NameChanges_0 o a b gone fresh a a.length i out) = impl_NameChanges_A Dn (impl_NameChanges_1 o a fresh b b.length 0 (out ++ (a.drop i).flatMap fun x => if hasName b (strAt x 0) = true then [] else [chg gone o (strAt x 0)])) := by
  have hml : (1048576 : Nat) ≤ maxLen := by decide
  refine upto_ind ?_ ?_
  · intro out ho; rw [impl_NameChanges_0_eq]; simp
  · intro i hi ih out ho
    obtain ⟨u, hu, _⟩ := qa _ (List.getElem_mem hi)
    have hl1 := ifCh_len (!(hasName b u)) gone o u
    have hin := d_slices_Contains (s := u) (Nat.le_trans hb hml) qb
    have had := d_impl_add (q := !(hasName b u)) (code := gone) (s := o) (p := u) (out := out) (by omega)
    rw [impl_NameChanges_0_eq]
    simp -implicitDefEqProofs only [Int.ofNat_lt, hi, decide_true, branch_true, Int.natCast_nonneg, Bool.and_true, Bool.and_self, Int.toNat_natCast, guarded_true, sized_all (fun e he => (qa e he).len), getD_lt hi, hu, atK_zero, strK_str, hin, Option.bind_some, svLeafK_leaf, boolK_bool, had, headB_cons, headK_cons, svOwnK_own, lastK_nil, lastB_nil, svTupK_tup, wrap_upL (Nat.lt_of_lt_of_le hi (Nat.le_trans ha hml))]
    rw [ih _ (by rw [List.length_append]; omega), drop_at hi, List.flatMap_cons, hu, show strAt [Leaf.str u] 0 = u from rfl, List.append_assoc]
    unfold ifCh
    cases hasName b u <;> rfl
theorem impl_names_B (ha : a.length ≤ 1048576) (hb : b.length ≤ 1048576) (qa : ∀ e ∈ a, IsStr e) (qb : ∀ e ∈ b, IsStr e) : ∀ i : Nat, i ≤ b.length → ∀ out : List El, out.length ≤ 1048576 + i →
    impl_NameChanges_A Dn (impl_NameChanges_1 o a fresh b b.length i out) = some (vsl (out ++ (b.drop i).flatMap fun y => if hasName a (strAt y 0) = true then [] else [chg fresh o (strAt y 0)]), []) := by
  have hml : (1048576 : Nat) ≤ maxLen := by decide
  refine upto_ind ?_ ?_
  · intro out ho; rw [impl_NameChanges_1_eq]; simp
  · intro i hi ih out ho
    obtain ⟨u, hu, _⟩ := qb _ (List.getElem_mem hi)
    have hl1 := ifCh_len (!(hasName a u)) fresh o u
    have hin := d_slices_Contains (s := u) (Nat.le_trans ha hml) qa
    have had := d_impl_add (q := !(hasName a u)) (code := fresh) (s := o) (p := u) (out := out) (by omega)
    rw [impl_NameChanges_1_eq]
    simp -implicitDefEqProofs only [Int.ofNat_lt, hi, decide_true, branch_true, Int.natCast_nonneg, Bool.and_true, Bool.and_self, Int.toNat_natCast, guarded_true, sized_all (fun e he => (qb e he).len), getD_lt hi, hu, atK_zero, strK_str, hin, Option.bind_some, svLeafK_leaf, boolK_bool, had, headB_cons, headK_cons, svOwnK_own, lastK_nil, lastB_nil, svTupK_tup, wrap_upL (Nat.lt_of_lt_of_le hi (Nat.le_trans hb hml))]
    rw [ih _ (by rw [List.length_append]; omega), drop_at hi, List.flatMap_cons, hu, show strAt [Leaf.str u] 0 = u from rfl, List.append_assoc]
    unfold ifCh
    cases hasName a u <;> rfl
theorem d_impl_NameChanges (ha : a.length ≤ 1048576) (hb : b.length ≤ 1048576) (qa : ∀ e ∈ a, IsStr e) (qb : ∀ e ∈ b, IsStr e) : Dn F.impl_NameChanges [.leaf (.str o), vsl a, vsl b, vint gone, vint fresh] [] = some (vsl (nameCh o a b gone fresh), []) := by
  have h1 := impl_names_A (o := o) (gone := gone) (fresh := fresh) ha hb qa qb 0 (Nat.zero_le _) [] (by simp)
  have hl : (a.flatMap fun x => if hasName b (strAt x 0) = true then [] else [chg gone o (strAt x 0)]).length ≤ 1 * a.length := flatMap_len (fun x => by split <;> simp) a
  have h2 := impl_names_B (o := o) (fresh := fresh) ha hb qa qb 0 (Nat.zero_le _) (a.flatMap fun x => if hasName b (strAt x 0) = true then [] else [chg gone o (strAt x 0)]) (by omega)
  simp only [List.drop_zero, List.nil_append] at h1 h2
  apply den_of
  rw [run_impl_NameChanges]
  exact h1.trans h2
end
theorem impl_values {a : List El} (ha : a.length ≤ 1048576) (qa : ∀ e ∈ a, IsEnumDef e) : ∀ i : Nat, i ≤ a.length → ∀ out : List El, out.length ≤ i →
    impl_valueNames_A Dn (impl_valueNames_0 out a a.length i) = some (.own (some T.string) (out ++ vals (a.drop i)), []) := by
  have hml : (1048576 : Nat) ≤ maxLen := by decide
  refine upto_ind ?_ ?_
  · intro out ho; rw [impl_valueNames_0_eq]; simp [vals]
  · intro i hi ih out ho
    obtain ⟨x0, x1, x2, he, _⟩ := (qa _ (List.getElem_mem hi)).ex
    rw [impl_valueNames_0_eq]
    simp -implicitDefEqProofs only [Int.ofNat_lt, hi, decide_true, branch_true, Int.natCast_nonneg, Bool.and_true, Int.toNat_natCast, guarded_true, sized_all (fun e he => (qa e he).len), getD_lt hi]
    rw [he]
    simp -implicitDefEqProofs only [bindE_eq, atK_zero, atK_succ, strK_str, slK_sl, (room16 (show out.length ≤ 4194304 by omega)).1, (room16 (show out.length ≤ 4194304 by omega)).2, guarded_true, wrap_upL (Nat.lt_of_lt_of_le hi (Nat.le_trans ha hml))]
    rw [ih _ (by rw [List.length_append]; simp; omega), drop_at hi, he, List.append_assoc]
    rfl
theorem d_impl_valueNames {a : List El} (ha : a.length ≤ 1048576) (qa : ∀ e ∈ a, IsEnumDef e) : Dn F.impl_valueNames [vsl a] [] = some (.own (some T.string) (vals a), []) := by
  apply den_of
  rw [run_impl_valueNames]
  exact impl_values ha qa 0 (Nat.zero_le _) [] (by simp)
theorem d_impl_fieldOf_1 {e : El} {s : ByteArray} (h : IsFieldDef e) : Dn F.impl_fieldOf_1 [.agg e, .ptr 0 0] [[.leaf (.str s)]] = some (vbool ((strAt e 0).toList == s.toList), [[.leaf (.str s)]]) := by
  cases h
  apply den_of
  rw [run_impl_fieldOf_1]
  rfl
theorem indexF_from {es : List El} {s : ByteArray} (hl : es.length ≤ maxLen) (hq : ∀ e ∈ es, IsFieldDef e) : ∀ i : Nat, i ≤ es.length →
    slices_IndexFunc_S_impl_FieldDef_impl_FieldDef_c1p1_A Dn (slices_IndexFunc_S_impl_FieldDef_impl_FieldDef_c1p1_0 es F.impl_fieldOf_1 es.length i s) = some (vint (idxOf s i (es.drop i)), [[.leaf (.str s)]]) := by
  refine upto_ind ?_ ?_
  · rw [slices_IndexFunc_S_impl_FieldDef_impl_FieldDef_c1p1_0_eq]; simp [idxOf]
  · intro i hi ih
    have hci := d_impl_fieldOf_1 (s := s) (hq _ (List.getElem_mem hi))
    obtain ⟨s0, s1, e2, s3, s4, e5, he, h0⟩ := (hq _ (List.getElem_mem hi)).ex
    rw [slices_IndexFunc_S_impl_FieldDef_impl_FieldDef_c1p1_0_eq, drop_at hi]
    simp only [Int.ofNat_lt, hi, decide_true, branch_true, Int.natCast_nonneg, Bool.and_true, Int.toNat_natCast, guarded_true, wrap_upL (Nat.lt_of_lt_of_le hi hl), sized_all (fun e he => (hq e he).len), getD_lt hi]
    rw [he] at hci ⊢
    simp only [bindE_eq, atK_zero, atK_succ, intK_int, strK_str, boolK_bool, slK_sl, hci, Option.bind_some, headB_cons, headK_cons, svLeafK_leaf, lastK_nil, lastB_nil, branch_ite, idxOf, strAt, List.getElem?_cons_zero, ih]
    by_cases hx : (s0.toList == s.toList) = true <;> simp [hx]
def noField : El := [.str nul, .str nul, .sl fP [], .str nul, .str nul, .sl fP []]
def fieldAt (l : List El) (s : ByteArray) : El := if idxOf s 0 l < 0 then noField else l.getD (idxOf s 0 l).toNat []
theorem d_impl_fieldOf {k : Int} {b1 b9 : Bool} {s2 nm s : ByteArray} {e4 a e6 e7 e8 e10 : List El} (hl : a.length ≤ maxLen) (hq : ∀ e ∈ a, IsFieldDef e) :
    Dn F.impl_fieldOf [.agg [.int .i64 k, .bool b1, .str s2, .str nm, .sl fP e4, .sl fP a, .sl fP e6, .sl fP e7, .sl fP e8, .bool b9, .sl fP e10], .leaf (.str s)] [] =
      some (.tup [.agg (fieldAt a s), vbool (!(decide (idxOf s 0 a < 0)))], []) := by
  have key : Dn F.slices_IndexFunc_S_impl_FieldDef_impl_FieldDef [vsl a, .fn F.impl_fieldOf_1 [.ptr 0 0]] [[.leaf (.str s)]] = some (vint (idxOf s 0 a), [[.leaf (.str s)]]) := by
    apply den_of
    rw [run_slices_IndexFunc_S_impl_FieldDef_impl_FieldDef_c1p1]
    exact indexF_from hl hq 0 (Nat.zero_le _)
  apply den_of
  rw [run_impl_fieldOf, key]
  simp -implicitDefEqProofs only [Option.bind_some, headB_cons, headK_cons, svLeafK_leaf, strK_str, lastK_nil, lastB_nil, intK_int]
  unfold fieldAt
  by_cases hk : idxOf s 0 a < 0
  · simp -implicitDefEqProofs only [hk, decide_true, branch_true, if_true, Bool.not_true]
    rfl
  · obtain ⟨j, hj, hjb⟩ := idx_get hk
    obtain ⟨y0, y1, y2, y3, y4, y5, hf, g0⟩ := (hq _ (List.getElem_mem hjb)).ex
    have hjn : ¬ ((j : Int) < 0) := by omega
    rw [hj]
    simp -implicitDefEqProofs only [hjn, decide_false, branch_false, if_false, Bool.not_false, Int.ofNat_lt, hjb, decide_true, Int.natCast_nonneg, Bool.and_true, Int.toNat_natCast, guarded_true, sized_all (fun e he => (hq e he).len), getD_lt hjb, hf, bindE_eq, atK_zero, atK_succ, strK_str, slK_sl]
end Go.Vs
end
