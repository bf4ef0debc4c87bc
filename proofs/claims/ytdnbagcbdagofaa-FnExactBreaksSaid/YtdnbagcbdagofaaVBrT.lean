/- BrT: what the program's functions compute, read off their text by the shadow runner; no condition. -/
import Derived.Test.YtdnbagcbdagofaaVAP
import Derived.Test.YtdnbagcbdagofaaVVsTy
open Go Go.Vs Go.Proofs
set_option linter.unusedVariables false
set_option linter.unusedSimpArgs false
namespace Go.Vs
noncomputable abbrev Dn : Oracle false := den Go.Proofs.Try.prog (fun _ => none) Hs
theorem den_of {f : FuncId} {a : List (SV false)} {b : List (List (SV false))} {r : SV false × List (List (SV false))} (h : run2V Go.Proofs.Try.prog Dn Hs limR f a b = some r) : Dn f a b = some r :=
  den_fast rfl h
abbrev vint (n : Int) : SV false := .leaf (.int .i64 n)
abbrev vbool (b : Bool) : SV false := .leaf (.bool b)
abbrev vsl (es : List (List (Leaf false))) : SV false := .leaf (.sl fP es)
/-- A change: a number and two texts. -/
structure Ch where
  code : Int
  path : ByteArray
  at' : ByteArray
def Ch.enc (c : Ch) : List (Leaf false) := [.int .i64 c.code, .str c.path, .str c.at']
@[simp] theorem Ch.enc_len (c : Ch) : c.enc.length = 3 := rfl
def inB (a b c : Int) : Bool := decide (b ≤ a) && decide (a ≤ c)
theorem d_spec_l01In (a b c : Int) : Dn F.spec_l01In [vint a, vint b, vint c] [] = some (vbool (inB a b c), []) := by
  apply den_of
  rw [run_spec_l01In]
  by_cases h : b ≤ a <;> simp [h, inB]
theorem d_impl_in (a b c : Int) : Dn F.impl_in [vint a, vint b, vint c] [] = some (vbool (inB a b c), []) := by
  apply den_of
  rw [run_impl_in]
  by_cases h : b ≤ a <;> simp [h, inB]
def classOf (n : Int) : Int := if inB n 1 28 then if n ≤ 15 then 1 else if inB n 20 24 then 2 else 3 else 0
theorem d_spec_ClassOf (n : Int) : Dn F.spec_ClassOf [vint n] [] = some (vint (classOf n), []) := by
  apply den_of
  rw [run_spec_ClassOf]
  simp only [d_spec_l01In, Option.bind_some, svLeafK_leaf, boolK_bool, branch_ite, classOf]
  by_cases h1 : inB n 1 28 = true <;> by_cases h2 : n ≤ 15 <;> by_cases h3 : inB n 20 24 = true <;> simp [h1, h2, h3]
theorem d_impl_ClassOf (n : Int) : Dn F.impl_ClassOf [vint n] [] = some (vint (classOf n), []) := by
  apply den_of
  rw [run_impl_ClassOf]
  simp only [d_impl_in, Option.bind_some, svLeafK_leaf, boolK_bool, branch_ite, classOf]
  unfold inB
  by_cases h1 : 1 ≤ n <;> by_cases h2 : n ≤ 15 <;> by_cases h3 : n ≤ 28 <;> by_cases h4 : 20 ≤ n <;> by_cases h5 : n ≤ 24 <;> by_cases h6 : 16 ≤ n <;>
    first | (exfalso; omega) | simp [h1, h2, h3, h4, h5, h6]
def breaks (cs : List Ch) : Bool := cs.any fun c => classOf c.code == 1
theorem drop_at {α : Type} {l : List α} {i : Nat} (h : i < l.length) : l.drop i = l[i] :: l.drop (i + 1) := List.drop_eq_getElem_cons h
theorem spec_Breaks_from {cs : List Ch} (hl : cs.length < 4611686018427387904) : ∀ i : Nat, i ≤ cs.length → spec_Breaks_A Dn (spec_Breaks_0 (cs.map Ch.enc) i) = some (vbool (breaks (cs.drop i)), []) := by
  refine upto_ind ?_ ?_
  · rw [spec_Breaks_0_eq]; simp [breaks]
  · intro i hi ih
    have hl' : i < (cs.map Ch.enc).length := by simpa using hi
    rw [spec_Breaks_0_eq]
    simp only [List.length_map, Int.ofNat_lt, hi, decide_true, branch_true, Int.natCast_nonneg, Bool.and_true, Int.toNat_natCast, sized_map Ch.enc_len, guarded_true, getD_map hi, wrap_up (show i < 4611686018427387904 by omega), ih]
    simp only [Ch.enc, atK_zero, intK_int, d_spec_ClassOf, Option.bind_some, svLeafK_leaf, breaks, drop_at hi, List.any_cons]
    cases (classOf cs[i].code == 1) <;> simp
theorem d_spec_Breaks {cs : List Ch} (hl : cs.length < 4611686018427387904) : Dn F.spec_Breaks [vsl (cs.map Ch.enc)] [] = some (vbool (breaks cs), []) := by
  apply den_of
  rw [run_spec_Breaks]
  exact spec_Breaks_from hl 0 (Nat.zero_le _)
theorem d_impl_Breaks_1 (c : Ch) : Dn F.impl_Breaks_1 [.agg c.enc] [] = some (vbool (classOf c.code == 1), []) := by
  apply den_of
  unfold Ch.enc
  rw [run_impl_Breaks_1]
  simp [d_impl_ClassOf]
def indexFrom (p : Ch → Bool) : Int → List Ch → Int
  | _, [] => -1
  | i, c :: cs => if p c then i else indexFrom p (i + 1) cs
theorem indexFunc_from {cs : List Ch} (hl : cs.length < 4611686018427387904) {f : Nat} {p : Ch → Bool} (hf : ∀ c ∈ cs, Dn f [.agg c.enc] [] = some (vbool (p c), [])) : ∀ i : Nat, i ≤ cs.length →
    slices_IndexFunc_S_impl_Change_impl_Change_c0_A Dn (slices_IndexFunc_S_impl_Change_impl_Change_c0_0 (cs.map Ch.enc) f cs.length i) = some (vint (indexFrom p i (cs.drop i)), []) := by
  refine upto_ind ?_ ?_
  · rw [slices_IndexFunc_S_impl_Change_impl_Change_c0_0_eq]; simp [indexFrom]
  · intro i hi ih
    rw [slices_IndexFunc_S_impl_Change_impl_Change_c0_0_eq]
    have hfi := hf _ (List.getElem_mem hi)
    simp only [Ch.enc] at hfi
    simp only [List.length_map, Int.ofNat_lt, hi, decide_true, branch_true, Int.natCast_nonneg, Bool.and_true, Int.toNat_natCast, sized_map Ch.enc_len, guarded_true, getD_map hi, wrap_up (show i < 4611686018427387904 by omega), ih]
    simp only [Ch.enc, bindE_eq, atK_zero, atK_succ, intK_int, strK_str, hfi, Option.bind_some, svLeafK_leaf, boolK_bool, lastB_nil, drop_at hi, indexFrom]
    by_cases h : p cs[i] = true <;> simp [h]
theorem indexFrom_any (p : Ch → Bool) : ∀ (cs : List Ch) (i : Int), 0 ≤ i → (decide (indexFrom p i cs ≥ 0)) = cs.any p
  | [], i, _ => by simp [indexFrom]
  | c :: cs, i, h => by
    have ih := indexFrom_any p cs (i + 1) (by omega)
    by_cases hc : p c = true
    · simp [indexFrom, hc, h]
    · simp only [indexFrom, hc, List.any_cons, Bool.false_or, if_false]
      simpa using ih
theorem d_impl_Breaks {cs : List Ch} (hl : cs.length < 4611686018427387904) : Dn F.impl_Breaks [vsl (cs.map Ch.enc)] [] = some (vbool (breaks cs), []) := by
  apply den_of
  rw [run_impl_Breaks]
  have h1 : Dn F.slices_IndexFunc_S_impl_Change_impl_Change [vsl (cs.map Ch.enc), .fn F.impl_Breaks_1 []] [] = some (vint (indexFrom (fun c => classOf c.code == 1) 0 cs), []) := by
    apply den_of
    rw [run_slices_IndexFunc_S_impl_Change_impl_Change_c0]
    have := indexFunc_from hl (fun c _ => d_impl_Breaks_1 c) 0 (Nat.zero_le _)
    simpa using this
  have h2 : Dn F.slices_ContainsFunc_S_impl_Change_impl_Change [vsl (cs.map Ch.enc), .fn F.impl_Breaks_1 []] [] = some (vbool (breaks cs), []) := by
    apply den_of
    rw [run_slices_ContainsFunc_S_impl_Change_impl_Change_c0, h1]
    simp only [Option.bind_some, lastB_nil, svLeafK_leaf, intK_int, indexFrom_any _ cs 0 (Int.le_refl 0)]
    rfl
  rw [h2]
  simp
end Go.Vs
namespace Go.Vs
def clamp : List Ch → Int → Int
  | _, _ => 0
/-- What is left of a number of bytes behind one change; -1: they do not last. -/
def szC (c : Ch) (n : Int) : Int := if n - c.path.size < 0 then -1 else if n - c.path.size - c.at'.size < 0 then -1 else n - c.path.size - c.at'.size
def szCs : List Ch → Int → Int
  | [], n => n
  | c :: cs, n => if szC c n < 0 then -1 else szCs cs (szC c n)
def szS (cs : List Ch) (n : Int) : Int := if n - cs.length < 0 then -1 else szCs cs (n - cs.length)
structure Ch.Ok (c : Ch) : Prop where
  p : c.path.size ≤ maxLen
  a : c.at'.size ≤ maxLen
theorem d_laws_szChange {c : Ch} (hc : c.Ok) {n : Int} (h0 : 0 ≤ n) (hn : n ≤ 4611686018427387904) : Dn F.laws_szChange [.agg c.enc, vint n] [] = some (vint (szC c n), []) := by
  apply den_of
  unfold Ch.enc
  obtain ⟨hp, ha⟩ := hc
  have hm : maxLen = 9223372036854775807 := rfl
  rw [run_laws_szChange, wrap64 (z := n - c.path.size) (by omega) (by omega)]
  unfold szC
  by_cases h1 : n - c.path.size < 0
  · simp [h1]
  · rw [wrap64 (by omega) (by omega)]
    by_cases h2 : n - c.path.size - c.at'.size < 0 <;> simp [h1, h2]
theorem szC_le {c : Ch} {n : Int} (h : ¬ szC c n < 0) : 0 ≤ szC c n ∧ szC c n ≤ n := by
  unfold szC at h ⊢
  split at h
  · omega
  · split at h
    · omega
    · rename_i h1 h2
      rw [if_neg h1, if_neg h2]; omega
theorem szS_from {cs : List Ch} (hc : ∀ c ∈ cs, c.Ok) (hl : cs.length < 4611686018427387904) : ∀ i : Nat, i ≤ cs.length → ∀ n : Int, 0 ≤ n → n ≤ 4611686018427387904 →
    laws_szChangeS_A Dn (laws_szChangeS_0 (cs.map Ch.enc) n i) = some (vint (szCs (cs.drop i) n), []) := by
  refine upto_ind ?_ ?_
  · intro n _ _; rw [laws_szChangeS_0_eq]; simp [szCs]
  · intro i hi ih n h0 hn
    rw [laws_szChangeS_0_eq]
    have hci := d_laws_szChange (hc _ (List.getElem_mem hi)) h0 hn
    simp only [Ch.enc] at hci
    simp only [List.length_map, Int.ofNat_lt, hi, decide_true, branch_true, Int.natCast_nonneg, Bool.and_true, Int.toNat_natCast, sized_map Ch.enc_len, guarded_true, getD_map hi, wrap_up (show i < 4611686018427387904 by omega)]
    simp only [Ch.enc, bindE_eq, atK_zero, atK_succ, intK_int, strK_str, hci, Option.bind_some, svLeafK_leaf, boolK_bool, lastB_nil, drop_at hi, szCs]
    by_cases h : szC cs[i] n < 0
    · simp [h]
    · have := szC_le h
      rw [ih _ this.1 (by omega)]
      simp [h]
theorem d_laws_szChangeS {cs : List Ch} (hc : ∀ c ∈ cs, c.Ok) (hl : cs.length ≤ maxLen) {n : Int} (h0 : 0 ≤ n) (hn : n < 4611686018427387904) :
    Dn F.laws_szChangeS [vsl (cs.map Ch.enc), vint n] [] = some (vint (szS cs n), []) := by
  apply den_of
  have hm : maxLen = 9223372036854775807 := rfl
  rw [run_laws_szChangeS, List.length_map, wrap64 (by omega) (by omega)]
  unfold szS
  by_cases h : n - (cs.length : Int) < 0
  · simp [h]
  · have := szS_from hc (show cs.length < 4611686018427387904 by omega) 0 (Nat.zero_le _) (n - cs.length) (by omega) (by omega)
    simp only [Int.ofNat_zero, List.drop_zero] at this
    simp [h, this]
theorem szCs_ge : ∀ {cs : List Ch} {n : Int}, ¬ szCs cs n < 0 → ∀ c ∈ cs, (c.path.size : Int) + c.at'.size ≤ n
  | [], _, _ => by simp
  | c :: cs, n, h => by
    unfold szCs at h
    split at h
    · omega
    · rename_i h1
      intro d hd
      rcases List.mem_cons.1 hd with rfl | hd
      · unfold szC at h1
        split at h1
        · omega
        · split at h1 <;> omega
      · have := szCs_ge h d hd
        have := szC_le h1
        omega
theorem d_laws_eqChange (c : Ch) : Dn F.laws_eqChange [.agg c.enc, .agg c.enc] [] = some (vbool true, []) := by
  apply den_of
  unfold Ch.enc
  rw [run_laws_eqChange]
  simp
theorem eqS_from {cs : List Ch} (hl : cs.length < 4611686018427387904) : ∀ i : Nat, i ≤ cs.length →
    laws_eqChangeS_A Dn (laws_eqChangeS_0 (cs.map Ch.enc) (cs.map Ch.enc) i) = some (vbool true, []) := by
  refine upto_ind ?_ ?_
  · rw [laws_eqChangeS_0_eq]; simp
  · intro i hi ih
    rw [laws_eqChangeS_0_eq]
    have hci := d_laws_eqChange cs[i]
    simp only [Ch.enc] at hci
    simp only [List.length_map, Int.ofNat_lt, hi, decide_true, branch_true, Int.natCast_nonneg, Bool.and_true, Int.toNat_natCast, sized_map Ch.enc_len, guarded_true, getD_map hi, wrap_up (show i < 4611686018427387904 by omega), ih]
    simp only [Ch.enc, bindE_eq, atK_zero, atK_succ, intK_int, strK_str, hci, Option.bind_some, svLeafK_leaf, boolK_bool, lastB_nil]
    simp
theorem d_laws_eqChangeS {cs : List Ch} (hl : cs.length < 4611686018427387904) : Dn F.laws_eqChangeS [vsl (cs.map Ch.enc), vsl (cs.map Ch.enc)] [] = some (vbool true, []) := by
  apply den_of
  rw [run_laws_eqChangeS]
  have := eqS_from hl 0 (Nat.zero_le _)
  simp only [Int.ofNat_zero] at this
  simp [this]
theorem d_laws_toChange (c : Ch) : Dn F.laws_toChange [.agg c.enc] [] = some (.agg c.enc, []) := by
  apply den_of
  unfold Ch.enc
  rw [run_laws_toChange]
theorem enc_all {cs : List Ch} : ∀ e ∈ cs.map Ch.enc, e.length = 3 := by
  intro e he
  obtain ⟨c, _, rfl⟩ := List.mem_map.1 he
  rfl
theorem toS_from {cs : List Ch} (hl : cs.length < 4611686018427387904) : ∀ i : Nat, i ≤ cs.length → ∀ z : List (SV false), z.length = (cs.length - i) * 3 →
    laws_toChangeS_A Dn (laws_toChangeS_0 (cs.map Ch.enc) cs.length i (rowAt (cs.map Ch.enc) i z)) = some (vsl (cs.map Ch.enc), []) := by
  refine upto_ind ?_ ?_
  · intro z hz
    have h1 := row_full (z := z) (enc_all (cs := cs))
    have h2 := chunks_flatten (enc_all (cs := cs))
    have h3 := rowAt_len (z := z) (enc_all (cs := cs)) (Nat.le_refl _)
    simp only [List.length_map] at h1 h2 h3
    rw [laws_toChangeS_0_eq]
    simp [h1, h2, h3, SV.flatT, SV.flat]
  · intro i hi ih z hz
    have h3 := rowAt_len (z := z) (enc_all (cs := cs)) (i := i) (by simp; omega)
    rw [laws_toChangeS_0_eq]
    have hci := d_laws_toChange cs[i]
    simp only [Ch.enc] at hci
    have hp := putAt_row (z := z) (enc_all (cs := cs)) (i := i) (by simpa using hi)
    simp only [List.getElem_map] at hp
    rw [Ch.enc] at hp
    simp only [List.map_cons, List.map_nil] at hp
    have hd : (i + 1) * 3 ≤ cs.length * 3 := Nat.mul_le_mul_right 3 hi
    have hg : (0 + i) * 3 + 3 ≤ (rowAt (cs.map Ch.enc) i z).length := by rw [h3, hz, Nat.sub_mul]; omega
    simp only [List.length_map, Int.ofNat_lt, hi, decide_true, branch_true, Int.natCast_nonneg, Bool.and_true, Int.toNat_natCast, sized_map Ch.enc_len, guarded_true, getD_map hi, wrap_up (show i < 4611686018427387904 by omega)]
    simp only [Ch.enc, bindE_eq, atK_zero, atK_succ, intK_int, strK_str, hci, Option.bind_some, svAggK_agg, List.length_cons, List.length_nil, beq_self_eq_true, guarded_true, hg, decide_true]
    rw [Nat.zero_add, hp]
    exact ih _ (by rw [List.length_drop, hz, Nat.sub_mul, Nat.sub_mul]; omega)
theorem d_laws_toChangeS {cs : List Ch} (hl : cs.length * 40 ≤ maxBytes) : Dn F.laws_toChangeS [vsl (cs.map Ch.enc)] [] = some (vsl (cs.map Ch.enc), []) := by
  apply den_of
  have hb : maxBytes = 140737488355328 := rfl
  rw [run_laws_toChangeS]
  have hs : decide (cs.length ≤ maxBytes) = true := decide_eq_true (by omega)
  simp only [List.length_map, Int.natCast_nonneg, Int.toNat_natCast, beq_self_eq_true, hl, hs, decide_true, Bool.and_true, Bool.true_and, guarded_true]
  exact toS_from (by omega) 0 (Nat.zero_le _) _ (by simp)
theorem d_laws_FnExactBreaks {cs : List Ch} (hc : ∀ c ∈ cs, c.Ok) (hl : cs.length ≤ maxLen) : Dn F.laws_FnExactBreaks [vsl (cs.map Ch.enc)] [] = some (vbool true, []) := by
  have hb : maxBytes = 140737488355328 := rfl
  have hm : maxLen = 9223372036854775807 := rfl
  apply den_of
  rw [run_laws_FnExactBreaks, d_laws_szChangeS hc hl (by omega) (by omega)]
  by_cases h : szS cs 1048576 < 0
  · simp [h]
  · have hk : cs.length ≤ 1048576 := by
      unfold szS at h
      split at h <;> omega
    have hl' : cs.length < 4611686018427387904 := by omega
    have hl : cs.length * 40 ≤ maxBytes := by omega
    simp [h, d_laws_toChangeS hl, d_spec_Breaks hl', d_impl_Breaks hl', d_laws_eqChangeS hl']
end Go.Vs
