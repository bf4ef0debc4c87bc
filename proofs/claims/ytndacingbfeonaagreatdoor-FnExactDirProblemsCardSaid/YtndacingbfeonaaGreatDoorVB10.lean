/- What the program's functions compute, read off their text by the shadow runner (ILd, ITf, VsShape, ITx, VsDoor); no condition. -/
import Derived.Test.YtndacingbfeonaaGreatDoorRows
import Derived.FnData
import Derived.MakeChecks
import Derived.Test.YtndacingbfeonaaGreatDoorVB9
section
open Go Go.Vs Go.Proofs
set_option linter.unusedVariables false
set_option linter.unusedSimpArgs false
namespace Go.Vs
/-! ### Directives -/
def namedP (es : List El) (n : ByteArray) : Int := if es.length > 60 then -1 else idxP (at3 n) 0 es
theorem d_impl_named {es : List El} {n : ByteArray} (hl : es.length ≤ maxLen) (hq : ∀ e ∈ es, IsDef e) : Dn F.impl_named [vsl es, .leaf (.str n)] [] = some (vint (namedP es n), []) := by
  have key : Dn F.slices_IndexFunc_S_impl_Def_impl_Def [vsl es, .fn F.impl_named_1 [.ptr 0 0]] [[.leaf (.str n)]] = some (vint (idxP (at3 n) 0 es), [[.leaf (.str n)]]) := by
    refine den_of ?_
    rw [run_slices_IndexFunc_S_impl_Def_impl_Def_c1p1]
    refine find_int (es := es) (A := fun i => slices_IndexFunc_S_impl_Def_impl_Def_c1p1_A Dn (slices_IndexFunc_S_impl_Def_impl_Def_c1p1_0 es F.impl_named_1 es.length i n)) (by rw [slices_IndexFunc_S_impl_Def_impl_Def_c1p1_0_eq]; simp) fun i hi => ?_
    obtain ⟨x, hx, _⟩ := (hq _ (List.getElem_mem hi)).st
    have hc : Dn F.impl_named_1 [.agg x.l, .ptr 0 0] [[.leaf (.str n)]] = some (vbool (x.a3.toList == n.toList), [[.leaf (.str n)]]) := den_of (run_impl_named_1 ..)
    rw [slices_IndexFunc_S_impl_Def_impl_Def_c1p1_0_eq]
    simp -implicitDefEqProofs only [Int.ofNat_lt, decide_true, branch_true, Int.natCast_nonneg, Bool.and_true, Int.toNat_natCast, guarded_true, hi, wrap_upL (Nat.lt_of_lt_of_le hi hl), sized_all (fun e he => (hq e he).len), getD_lt hi, hx, R_ibsseeeeebe.rd_l, hc, rBoolS_eq]
    rfl
  refine den_of ?_
  rw [run_impl_named, key, rIntS_eq, branch_ite]
  unfold namedP
  by_cases h60 : es.length > 60
  · rw [if_pos h60, if_pos (by simp; omega)]
  · rw [if_neg h60, if_neg (by simp; omega)]

/-- The directives that are there always. -/
def faceL : List El := [[.str (ByteArray.mk #[70, 73, 69, 76, 68])], [.str (ByteArray.mk #[70, 82, 65, 71, 77, 69, 78, 84, 95, 83, 80, 82, 69, 65, 68])], [.str (ByteArray.mk #[73, 78, 76, 73, 78, 69, 95, 70, 82, 65, 71, 77, 69, 78, 84])]]
def ifL : List El := [[.str (ByteArray.mk #[105, 102]), .str (ByteArray.mk #[]), .str (ByteArray.mk #[66, 111, 111, 108, 101, 97, 110]), .str (ByteArray.mk #[33]), .bool false, .int .i64 0, .str (ByteArray.mk #[]), .sl fP [], .sl fP [], .sl fP []]]
def flowR (n : ByteArray) : R_ibsseeeeebe := ⟨7, false, ByteArray.mk #[], n, faceL, [], ifL, [], [], false, []⟩
def depR : R_ibsseeeeebe := ⟨7, false, ByteArray.mk #[], ByteArray.mk #[100, 101, 112, 114, 101, 99, 97, 116, 101, 100], [[.str (ByteArray.mk #[70, 73, 69, 76, 68, 95, 68, 69, 70, 73, 78, 73, 84, 73, 79, 78])], [.str (ByteArray.mk #[65, 82, 71, 85, 77, 69, 78, 84, 95, 68, 69, 70, 73, 78, 73, 84, 73, 79, 78])], [.str (ByteArray.mk #[73, 78, 80, 85, 84, 95, 70, 73, 69, 76, 68, 95, 68, 69, 70, 73, 78, 73, 84, 73, 79, 78])], [.str (ByteArray.mk #[69, 78, 85, 77, 95, 86, 65, 76, 85, 69])]], [],
  [[.str (ByteArray.mk #[114, 101, 97, 115, 111, 110]), .str (ByteArray.mk #[]), .str (ByteArray.mk #[83, 116, 114, 105, 110, 103]), .str (ByteArray.mk #[]), .bool true, .int .i64 4, .str (ByteArray.mk #[78, 111, 32, 108, 111, 110, 103, 101, 114, 32, 115, 117, 112, 112, 111, 114, 116, 101, 100]), .sl fP [], .sl fP [], .sl fP []]], [], [], false, []⟩
def builtL : List El := [depR.l, (flowR (ByteArray.mk #[105, 110, 99, 108, 117, 100, 101])).l, (flowR (ByteArray.mk #[115, 107, 105, 112])).l]
theorem is_face {l : List ByteArray} (h : ∀ s ∈ l, s.size ≤ maxLen) : ∀ e ∈ l.map (fun s => [Leaf.str s]), IsStr e := fun e he => by
  obtain ⟨s, hs, rfl⟩ := List.mem_map.1 he
  exact ⟨s, rfl, h s hs⟩
theorem is_in {a b c d e : ByteArray} {q : Bool} {k : Int} (h0 : a.size ≤ 100) (h1 : b.size ≤ 100) (h2 : c.size ≤ 100) (h3 : d.size ≤ 100) (h4 : e.size ≤ 100) : ∀ x ∈ ([[.str a, .str b, .str c, .str d, .bool q, .int .i64 k, .str e, .sl fP [], .sl fP [], .sl fP []]] : List El), IsInDef x := fun x hx => by
  have hm : maxLen = 9223372036854775807 := rfl
  rw [List.mem_singleton.1 hx]
  exact .mk a b c d q k e [] [] [] (by omega) (by omega) (by omega) (by omega) (by omega) (by decide) (fun _ h => by cases h) (by decide) (fun _ h => by cases h) (by decide) (fun _ h => by cases h)
theorem is_built {x : R_ibsseeeeebe} (h2 : x.a2.size ≤ 100) (h3 : x.a3.size ≤ 100) (l4 : x.a4.length ≤ 100) (q4 : ∀ e ∈ x.a4, IsStr e) (h5 : x.a5 = []) (l6 : x.a6.length ≤ 100) (q6 : ∀ e ∈ x.a6, IsInDef e) (h7 : x.a7 = []) (h8 : x.a8 = []) (h10 : x.a10 = []) : IsDef x.l := by
  have hm : maxLen = 9223372036854775807 := rfl
  obtain ⟨a0, a1, a2, a3, a4, a5, a6, a7, a8, a9, a10⟩ := x
  simp only at h2 h3 l4 q4 h5 l6 q6 h7 h8 h10
  subst h5 h7 h8 h10
  exact .mk a0 a1 a2 a3 a4 [] a6 [] [] a9 [] (by omega) (by omega) (by omega) q4 (by decide) (fun _ h => by cases h) (by omega) q6 (by decide) (fun _ h => by cases h) (by decide) (fun _ h => by cases h) (by decide) (fun _ h => by cases h)
theorem isFlow {n : ByteArray} (h : n.size ≤ 100) : IsDef (flowR n).l :=
  is_built (show (ByteArray.mk #[]).size ≤ 100 by decide) h (show faceL.length ≤ 100 by decide) (is_face (l := [ByteArray.mk #[70, 73, 69, 76, 68], ByteArray.mk #[70, 82, 65, 71, 77, 69, 78, 84, 95, 83, 80, 82, 69, 65, 68], ByteArray.mk #[73, 78, 76, 73, 78, 69, 95, 70, 82, 65, 71, 77, 69, 78, 84]]) (by decide)) rfl (show ifL.length ≤ 100 by decide)
    (is_in (by decide) (by decide) (by decide) (by decide) (by decide)) rfl rfl rfl
theorem isDep : IsDef depR.l :=
  is_built (by decide) (by decide) (by decide) (is_face (l := [ByteArray.mk #[70, 73, 69, 76, 68, 95, 68, 69, 70, 73, 78, 73, 84, 73, 79, 78], ByteArray.mk #[65, 82, 71, 85, 77, 69, 78, 84, 95, 68, 69, 70, 73, 78, 73, 84, 73, 79, 78], ByteArray.mk #[73, 78, 80, 85, 84, 95, 70, 73, 69, 76, 68, 95, 68, 69, 70, 73, 78, 73, 84, 73, 79, 78], ByteArray.mk #[69, 78, 85, 77, 95, 86, 65, 76, 85, 69]]) (by decide)) rfl (by decide)
    (is_in (by decide) (by decide) (by decide) (by decide) (by decide)) rfl rfl rfl
theorem isBuilt : ∀ e ∈ builtL, IsDef e := fun e he => by
  simp -implicitDefEqProofs only [builtL, List.mem_cons, List.not_mem_nil, or_false] at he
  rcases he with rfl | rfl | rfl
  · exact isDep
  · exact isFlow (by decide)
  · exact isFlow (by decide)
theorem bdBuilt : ∀ e ∈ builtL, (slAt e 6).length ≤ 1 := fun e he => by
  simp -implicitDefEqProofs only [builtL, List.mem_cons, List.not_mem_nil, or_false] at he
  rcases he with rfl | rfl | rfl <;> decide
theorem d_spec_BuiltDirs : Dn F.spec_BuiltDirs [] [] = some (.own (some T.impl_Def) builtL, []) := by
  have fl : ∀ n : ByteArray, Dn F.spec_l17Flow [.leaf (.str n)] [] = some (.agg (flowR n).l, []) := fun n => den_of (run_spec_l17Flow ..)
  refine den_of ?_
  rw [run_spec_BuiltDirs, fl, fl]
  simp -implicitDefEqProofs only [vBool_eq, vInt_eq, vStr_eq, vSl_eq, rBool_eq, rInt_eq, rStr_eq, rSl_eq, rOwn_eq, rBool0_eq, rInt0_eq, rBoolS_eq, rIntS_eq, rCol_eq, aBool_z, aInt_z, aStr_z, aSl_z, cmb_a, Option.bind_some, svTupK_tup, headK_cons, headB_cons, lastK_nil, lastB_nil, svAggK_agg, svOwnK_own, branch_true, branch_false, guarded_true, beq_self_eq_true, Bool.not_true, Bool.not_false, Bool.and_true, Bool.true_and, bT, bF, R_ibsseeeeebe.va_l]
  rfl
theorem d_impl_BuiltDirs : Dn F.impl_BuiltDirs [] [] = some (.own (some T.impl_Def) builtL, []) := by
  refine den_of ?_
  have step : ∀ (e : List El) (i : Int) (n : ByteArray), e.length ≤ 10 → 0 ≤ i → i < 2 → ([[.str (ByteArray.mk #[105, 110, 99, 108, 117, 100, 101])], [.str (ByteArray.mk #[115, 107, 105, 112])]] : List El).getD i.toNat [] = [.str n] →
      impl_BuiltDirs_A Dn (impl_BuiltDirs_0 e i) = impl_BuiltDirs_A Dn (impl_BuiltDirs_0 (e ++ [(flowR n).l]) (IntKind.i64.wrap (i + 1))) := fun e i n he h0 h2 hg => by
    rw [impl_BuiltDirs_0_eq, decide_eq_true h2, branch_true, hg]
    have hr : decide ((e.length + 1) * 200 ≤ maxBytes) = true := decide_eq_true (by have hb : maxBytes = 140737488355328 := rfl; omega)
    rw [show (decide (0 ≤ i) && true && true) = true by simp [h0], guarded_true, aStr_z, hr, Bool.and_true, guarded_true]
    rfl
  have e1 : run2V Tryz.prog Dn Hs limR F.impl_BuiltDirs [] [] = impl_BuiltDirs_A Dn (impl_BuiltDirs_0 [depR.l] 0) := run_impl_BuiltDirs Dn
  rw [e1, step _ 0 _ (by decide) (by decide) (by decide) rfl, step _ (IntKind.i64.wrap (0 + 1)) _ (by simp) (by decide) (by decide) rfl, impl_BuiltDirs_0_eq]
  rw [show decide (IntKind.i64.wrap (IntKind.i64.wrap (0 + 1) + 1) < 2) = false by decide, branch_false]
  rfl
section
variable {s : R_eee} {n : ByteArray}
def dirHas (s : R_eee) (n : ByteArray) : Bool := if namedP s.a1 n < 0 then !decide (idxP (at3 n) 0 builtL < 0) else true
def dirOf (s : R_eee) (n : ByteArray) : R_ibsseeeeebe :=
  if namedP s.a1 n < 0 then (if idxP (at3 n) 0 builtL < 0 then noDef else .of (builtL.getD (idxP (at3 n) 0 builtL).toNat [])) else .of (s.a1.getD (namedP s.a1 n).toNat [])
theorem namedP_get {es : List El} (hq : ∀ e ∈ es, IsDef e) (h : ¬ namedP es n < 0) : ∃ (j : Nat) (hj : j < es.length) (y : R_ibsseeeeebe), namedP es n = (j : Int) ∧ es[j] = y.l ∧ IsDef y.l := by
  unfold namedP at h ⊢
  split at h
  · omega
  · rename_i h60
    obtain ⟨j, hj, hi, _⟩ := idxP_get h
    obtain ⟨y, hy, iy⟩ := (hq _ (List.getElem_mem hj)).st
    exact ⟨j, hj, y, by rw [if_neg h60, hi], hy, iy⟩
theorem isDirOf (hs : IsSchema s.l) (bs : bdL 1048576 s.l) : IsDef (dirOf s n).l ∧ (dirOf s n).a6.length ≤ 1048576 := by
  have hm : maxLen = 9223372036854775807 := rfl
  unfold dirOf
  split
  · split
    · exact ⟨isNoDef, by decide⟩
    · rename_i h
      obtain ⟨j, hj, hi, _⟩ := idxP_get h
      have hb := bdBuilt _ (List.getElem_mem hj)
      obtain ⟨y, hy, iy⟩ := (isBuilt _ (List.getElem_mem hj)).st
      rw [hi, Int.toNat_natCast, getD_lt hj, hy]
      rw [hy] at hb
      have hb : y.a6.length ≤ 1 := hb
      exact ⟨iy, by show y.a6.length ≤ _; omega⟩
  · rename_i h
    obtain ⟨_, ⟨_, bs1⟩, _⟩ := bs
    obtain ⟨j, hj, y, hi, hy, iy⟩ := namedP_get hs.p.2.2.2.1 h
    have by' : bdL 1048576 y.l := hy ▸ bdE_mem bs1 _ (List.getElem_mem hj)
    obtain ⟨_, _, _, _, _, _, ⟨b6, _⟩, _⟩ := by'
    rw [hi, Int.toNat_natCast, getD_lt hj, hy]
    exact ⟨iy, b6⟩
theorem d_impl_dirDef (hs : IsSchema s.l) : Dn F.impl_dirDef [.agg s.l, .leaf (.str n)] [] = some (.tup [.agg (dirOf s n).l, vbool (dirHas s n)], []) := by
  have l3 : builtL.length = 3 := rfl
  have nb : namedP builtL n = idxP (at3 n) 0 builtL := by unfold namedP; rw [if_neg (by rw [l3]; omega)]
  refine den_of ?_
  rw [run_impl_dirDef, d_impl_named hs.p.2.2.1 hs.p.2.2.2.1, rInt_eq, d_impl_BuiltDirs, rOwn_eq, d_impl_named (by rw [l3]; decide) isBuilt, rInt_eq, nb]
  unfold dirOf dirHas
  by_cases h : namedP s.a1 n < 0
  · have h' : ¬ namedP s.a1 n ≥ 0 := by omega
    rw [if_pos h, if_pos h]
    simp -implicitDefEqProofs only [h', decide_false, branch_false]
    by_cases k : idxP (at3 n) 0 builtL < 0
    · have k' : ¬ idxP (at3 n) 0 builtL ≥ 0 := by omega
      simp -implicitDefEqProofs only [k, k', decide_true, decide_false, branch_false, if_true, Bool.not_true]
      rfl
    · obtain ⟨j, hj, hi, _⟩ := idxP_get k
      obtain ⟨y, hy, iy⟩ := (isBuilt _ (List.getElem_mem hj)).st
      have hn : ¬ ((j : Int) < 0) := by omega
      have hg : (j : Int) ≥ 0 := by omega
      rw [hi]
      simp -implicitDefEqProofs only [hn, hg, decide_true, decide_false, branch_true, if_false, Bool.not_false, Int.ofNat_lt, decide_true, branch_true, Int.natCast_nonneg, Bool.and_true, Int.toNat_natCast, guarded_true, hj, sized_all (fun e he => (isBuilt e he).len), getD_lt hj, hy, R_ibsseeeeebe.rd_l, R_ibsseeeeebe.of_l]
  · obtain ⟨j, hj, y, hi, hy, iy⟩ := namedP_get hs.p.2.2.2.1 h
    have hn : ¬ ((j : Int) < 0) := by omega
    have hg : (j : Int) ≥ 0 := by omega
    rw [hi]
    simp -implicitDefEqProofs only [hn, hg, decide_true, branch_true, if_false, Int.ofNat_lt, decide_true, branch_true, Int.natCast_nonneg, Bool.and_true, Int.toNat_natCast, guarded_true, hj, sized_all (fun e he => (hs.p.2.2.2.1 e he).len), getD_lt hj, hy, R_ibsseeeeebe.rd_l, R_ibsseeeeebe.of_l]
theorem d_spec_l17Dir (hs : IsSchema s.l) : Dn F.spec_l17Dir [.agg s.l, .leaf (.str n)] [] = some (.tup [.agg (dirOf s n).l, vbool (dirHas s n)], []) := by
  obtain ⟨_, _, hl, hq, _⟩ := hs.p
  have l3 : builtL.length = 3 := rfl
  refine den_of ?_
  rw [run_spec_l17Dir]
  have tail : spec_l17Dir_A Dn (spec_l17Dir_2 n builtL 0) = if idxP (at3 n) 0 builtL < 0 then some (.tup [.agg noDef.l, vbool false], []) else some (.tup [.agg (R_ibsseeeeebe.of (builtL.getD (idxP (at3 n) 0 builtL).toNat [])).l, vbool true], []) := by
    refine find_loop0 (es := builtL) (p := at3 n) (A := fun i => spec_l17Dir_A Dn (spec_l17Dir_2 n builtL i)) (yes := fun i => some (.tup [.agg (R_ibsseeeeebe.of (builtL.getD i.toNat [])).l, vbool true], [])) (no := some (.tup [.agg noDef.l, vbool false], [])) (by rw [spec_l17Dir_2_eq]; simp -implicitDefEqProofs only [Int.lt_irrefl, decide_false, branch_false]; rfl) fun i hi => ?_
    obtain ⟨y, hy, _⟩ := (isBuilt _ (List.getElem_mem hi)).st
    have hw := wrap_up (i := i) (by rw [l3] at hi; omega)
    rw [spec_l17Dir_2_eq]
    simp -implicitDefEqProofs only [Int.ofNat_lt, decide_true, branch_true, Int.natCast_nonneg, Bool.and_true, Int.toNat_natCast, guarded_true, hi, sized_all (fun e he => (isBuilt e he).len), getD_lt hi, hy, R_ss.at_l, R_isee.at_l, R_sisee.at_l, R_se.at_l, R_ssssbiseee.at_l, R_ssesse.at_l, R_sse.at_l, R_is.at_l, R_ibsseeeeebe.at_l, R_eee.at_l, R_iss.at_l, R_issseee.at_l, R_sssbiseee.at_l, R_iseee.at_l, R_ssee.at_l, R_isi.at_l, R_ibsseeeeebe.rd_l, R_ibsseeeeebe.of_l, hw]
    rfl
  have bu : ∀ i : Int, spec_l17Dir_A Dn (spec_l17Dir_1 n i false s) = if idxP (at3 n) 0 builtL < 0 then some (.tup [.agg noDef.l, vbool false], []) else some (.tup [.agg (R_ibsseeeeebe.of (builtL.getD (idxP (at3 n) 0 builtL).toNat [])).l, vbool true], []) := fun i => by
    rw [spec_l17Dir_1_eq, branch_false, d_spec_BuiltDirs, rOwn_eq, tail]
  unfold dirOf dirHas namedP
  by_cases h60 : s.a1.length > 60
  · rw [if_pos h60]
    have e6 : ¬ ((s.a1.length : Int) ≤ 60) := by omega
    rw [spec_l17Dir_0_eq, decide_eq_false e6, branch_same, bu]
    by_cases k : idxP (at3 n) 0 builtL < 0
    · simp [k]
    · simp [k]
  · rw [if_neg h60]
    have e6 : ((s.a1.length : Int) ≤ 60) := by omega
    have := find_loop0 (es := s.a1) (p := at3 n) (A := fun i => spec_l17Dir_A Dn (spec_l17Dir_0 n i s)) (yes := fun i => some (.tup [.agg (R_ibsseeeeebe.of (s.a1.getD i.toNat [])).l, vbool true], []))
      (no := if idxP (at3 n) 0 builtL < 0 then some (.tup [.agg noDef.l, vbool false], []) else some (.tup [.agg (R_ibsseeeeebe.of (builtL.getD (idxP (at3 n) 0 builtL).toNat [])).l, vbool true], []))
      (by rw [spec_l17Dir_0_eq]; simp -implicitDefEqProofs only [Int.lt_irrefl, decide_false, show (false == true) = false from rfl, branch_false, bu]) fun i hi => by
        obtain ⟨y, hy, _⟩ := (hq _ (List.getElem_mem hi)).st
        have hw := wrap_upL (Nat.lt_of_lt_of_le hi hl)
        rw [spec_l17Dir_0_eq]
        simp -implicitDefEqProofs only [Int.ofNat_lt, decide_true, branch_true, Int.natCast_nonneg, Bool.and_true, Int.toNat_natCast, guarded_true, hi, beq_self_eq_true, e6, spec_l17Dir_1_eq, sized_all (fun e he => (hq e he).len), getD_lt hi, hy, R_ss.at_l, R_isee.at_l, R_sisee.at_l, R_se.at_l, R_ssssbiseee.at_l, R_ssesse.at_l, R_sse.at_l, R_is.at_l, R_ibsseeeeebe.at_l, R_eee.at_l, R_iss.at_l, R_issseee.at_l, R_sssbiseee.at_l, R_iseee.at_l, R_ssee.at_l, R_isi.at_l, R_ibsseeeeebe.rd_l, R_ibsseeeeebe.of_l, hw]
        rfl
    rw [this]
    by_cases h : idxP (at3 n) 0 s.a1 < 0
    · simp -implicitDefEqProofs only [h, if_true]
      by_cases k : idxP (at3 n) 0 builtL < 0
      · simp [k]
      · simp [k]
    · simp -implicitDefEqProofs only [h, if_false]
end
theorem bdE_of {B : Nat} : ∀ {es : List El}, (∀ e ∈ es, bdL B e) → bdE B es
  | [], _ => by rw [bdE]; trivial
  | e :: r, h => by rw [bdE]; exact ⟨h e (by simp), bdE_of fun x hx => h x (by simp [hx])⟩
abbrev atS : ByteArray := ByteArray.mk #[64]
theorem at_eq (a b : ByteArray) : ((atS ++ a).toList == (atS ++ b).toList) = (a.toList == b.toList) := by
  have h : ∀ x : ByteArray, (atS ++ x).toList = 64 :: x.toList := fun x => by
    rw [tl, tl, ByteArray.data_append, Array.toList_append]; rfl
  rw [h, h, Bool.eq_iff_iff, beq_iff_eq, beq_iff_eq]
  simp
def ats (es : List El) : List El := es.map fun e => [.str (atS ++ strAt e 0)]
theorem ats_any {es : List El} {s : ByteArray} : (ats es).any (at0 (atS ++ s)) = es.any (at0 s) := by
  unfold ats; rw [List.any_map]
  congr 1
  funext e
  exact at_eq _ _
theorem ats_len {es : List El} : (ats es).length = es.length := List.length_map ..
theorem ats_take {es : List El} {i : Nat} (hi : i < es.length) : ats (es.take i) ++ [[.str (atS ++ strAt es[i] 0)]] = ats (es.take (i + 1)) := by
  unfold ats; rw [List.take_succ_eq_append_getElem hi, List.map_append]; rfl
theorem ats_all {es : List El} (bq : bdE 1048576 es) (hq : ∀ e ∈ es, IsDir e) : ∀ e ∈ ats es, IsStr e := by
  intro e he
  obtain ⟨x, hx, rfl⟩ := List.mem_map.1 he
  have hb := bdE_mem bq x hx
  obtain ⟨y, rfl, iy⟩ := (hq x hx).st
  refine ⟨atS ++ y.a0, rfl, ?_⟩
  have h1 : y.a0.size ≤ 1048576 := hb.1
  have h2 : atS.size = 1 := rfl
  have hm : maxLen = 9223372036854775807 := rfl
  rw [ByteArray.size_append]; omega
section
variable {s : R_eee} {p : ByteArray} {dirs : List El}
noncomputable def dirOne (s : R_eee) (p : ByteArray) (dirs : List El) (i : Nat) (e : El) : List El :=
  if dirHas s (strAt e 0) = true then
    ifP (!(dirOf s (strAt e 0)).a4.any (at0 p)) (pb 31 (atS ++ strAt e 0) p) ++ (ifP (!(dirOf s (strAt e 0)).a9 && (dirs.take i).any (at0 (strAt e 0))) (pb 27 (atS ++ strAt e 0) p) ++ argsP s (atS ++ strAt e 0) (dirOf s (strAt e 0)).a6 (slAt e 1))
  else [pb 30 (atS ++ strAt e 0) p]
noncomputable def dirsP (s : R_eee) (p : ByteArray) (dirs : List El) : List El := if dirs.length > 100 then [pb 5 nul p] else flatI (dirOne s p dirs) 0 dirs
theorem dirOne_len {i : Nat} {e : El} : (dirOne s p dirs i e).length ≤ 402 := by
  unfold dirOne
  split
  · have h1 := ifP_len (!(dirOf s (strAt e 0)).a4.any (at0 p)) (pb 31 (atS ++ strAt e 0) p)
    have h2 := ifP_len (!(dirOf s (strAt e 0)).a9 && (dirs.take i).any (at0 (strAt e 0))) (pb 27 (atS ++ strAt e 0) p)
    have h3 := argsP_len (s := s) (o := atS ++ strAt e 0) (list := (dirOf s (strAt e 0)).a6) (args := slAt e 1)
    rw [List.length_append, List.length_append]; omega
  · simp
theorem dirsP_len : (dirsP s p dirs).length ≤ 40200 := by
  unfold dirsP
  split
  · simp
  · have := flatI_len (g := dirOne s p dirs) (c := 402) dirs 0 fun j hj => dirOne_len
    omega
theorem dirsP_all : ∀ e ∈ dirsP s p dirs, IsProblem e := by
  unfold dirsP
  split
  · intro e he; rw [List.mem_singleton.1 he]; exact isPb
  · refine flat_all fun j x => ?_
    unfold dirOne
    split
    · exact app_all ifPb (app_all ifPb argsP_all)
    · intro e he; rw [List.mem_singleton.1 he]; exact isPb
theorem ated {a : ByteArray} (ha : a.size ≤ 1048576) : decide ((ByteArray.mk #[64]).size + a.size ≤ 140737488355328) = true := by
  have h1 : (ByteArray.mk #[64]).size = 1 := rfl
  exact decide_eq_true (by omega)
theorem d_spec_DirProblems (hs : IsSchema s.l) (bs : bdL 1048576 s.l) (hl : dirs.length ≤ maxLen) (hq : ∀ e ∈ dirs, IsDir e) (bq : bdE 1048576 dirs) :
    Dn F.spec_DirProblems [.agg s.l, .leaf (.str p), vsl dirs] [] = some (.own (some T.impl_Problem) (dirsP s p dirs), []) := by
  have hm : maxLen = 9223372036854775807 := rfl
  refine den_of ?_
  rw [run_spec_DirProblems]
  unfold dirsP
  by_cases h : dirs.length > 100
  · have h1 : ((dirs.length : Nat) : Int) > 100 := by omega
    rw [if_pos h]
    simp -implicitDefEqProofs only [h1, decide_true, branch_true]
    rfl
  have h1 : ¬ ((dirs.length : Nat) : Int) > 100 := by omega
  rw [if_neg h]
  simp -implicitDefEqProofs only [h1, decide_false, branch_false]
  refine app_loop1 (es := dirs) (g := dirOne s p dirs) (c := 402) (N := 50000) (A := fun out i => spec_DirProblems_A Dn (spec_DirProblems_0 p dirs out (ats (dirs.take i.toNat)) i s))
    (fin := fun out => some (.own (some T.impl_Problem) out, [])) (fun j hj => dirOne_len) (fun o _ => by rw [spec_DirProblems_0_eq]; simp) (fun i hi o ho => ?_) (by omega)
  obtain ⟨x, hx, ix⟩ := (hq _ (List.getElem_mem hi)).st
  have bx : bdL 1048576 x.l := hx ▸ bdE_mem bq _ (List.getElem_mem hi)
  obtain ⟨bx0, ⟨bx1l, bx1⟩, _⟩ := bx
  obtain ⟨_, nx1, qx1⟩ := ix.p
  have hw := wrap_upL (Nat.lt_of_lt_of_le hi hl)
  obtain ⟨iy, ly⟩ := isDirOf (n := x.a0) hs bs
  obtain ⟨_, _, l4, q4, _, _, l6, q6, _⟩ := iy.p
  have nt := ats_take hi
  rw [hx] at nt
  have nt : ats (dirs.take i) ++ [[.str (atS ++ x.a0)]] = ats (dirs.take (i + 1)) := nt
  have ln : (ats (dirs.take i)).length ≤ 100 := by rw [ats_len, List.length_take]; omega
  have bt : bdE 1048576 (dirs.take i) := bdE_of fun e he => bdE_mem bq e (List.mem_of_mem_take he)
  have hh := d_spec_l18Has (s := atS ++ x.a0) (es := ats (dirs.take i)) (by omega) (ats_all bt fun e he => hq e (List.mem_of_mem_take he))
  rw [ats_any] at hh
  have hf := d_spec_l18Has (s := p) l4 q4
  have s1 : ∀ q : List El, spec_DirProblems_A Dn (spec_DirProblems_1 p dirs q (ats (dirs.take (i + 1))) i s) = spec_DirProblems_A Dn (spec_DirProblems_0 p dirs q (ats (dirs.take (i + 1))) ((i + 1 : Nat) : Int) s) := fun q => by
    rw [spec_DirProblems_1_eq, hw]
  have s4 : ∀ q : List El, q.length ≤ 60000 → spec_DirProblems_A Dn (spec_DirProblems_4 p dirs q (ats (dirs.take (i + 1))) i (atS ++ x.a0) s (dirOf s x.a0)) = spec_DirProblems_A Dn (spec_DirProblems_0 p dirs (q ++ argsP s (atS ++ x.a0) (dirOf s x.a0).a6 x.a1) (ats (dirs.take (i + 1))) ((i + 1 : Nat) : Int) s) := fun q hq' => by
    have al := argsP_len (s := s) (o := atS ++ x.a0) (list := (dirOf s x.a0).a6) (args := x.a1)
    rw [spec_DirProblems_4_eq]
    simp -implicitDefEqProofs only [Int.ofNat_lt, decide_true, branch_true, Int.natCast_nonneg, Bool.and_true, Int.toNat_natCast, guarded_true, hi, sized_all (fun e he => (hq e he).len), getD_lt hi, hx, R_ss.at_l, R_isee.at_l, R_sisee.at_l, R_se.at_l, R_ssssbiseee.at_l, R_ssesse.at_l, R_sse.at_l, R_is.at_l, R_ibsseeeeebe.at_l, R_eee.at_l, R_iss.at_l, R_issseee.at_l, R_sssbiseee.at_l, R_iseee.at_l, R_ssee.at_l, R_isi.at_l, d_spec_ArgProblems (o := atS ++ x.a0) hs bs ly q6 nx1 qx1 bx1, rOwn_eq, room (z := 40) (n := q.length) (k := (argsP s (atS ++ x.a0) (dirOf s x.a0).a6 x.a1).length) (by omega) (by decide), sized_all (fun e he => (argsP_all (s := s) (o := atS ++ x.a0) (list := (dirOf s x.a0).a6) (args := x.a1) e he).len), s1]
  have s3 : ∀ (q : List El) (b : Bool), q.length ≤ 50000 → spec_DirProblems_A Dn (spec_DirProblems_3 p dirs q (ats (dirs.take (i + 1))) i (atS ++ x.a0) b s (dirOf s x.a0)) = spec_DirProblems_A Dn (spec_DirProblems_0 p dirs (q ++ (ifP b (pb 27 (atS ++ x.a0) p) ++ argsP s (atS ++ x.a0) (dirOf s x.a0).a6 x.a1)) (ats (dirs.take (i + 1))) ((i + 1 : Nat) : Int) s) := fun q b hq' => by
    rw [spec_DirProblems_3_eq, ← List.append_assoc, ← s4 _ (by have := ifP_len b (pb 27 (atS ++ x.a0) p); rw [List.length_append]; omega)]
    cases b <;> simp -implicitDefEqProofs only [branch_true, branch_false, ifP_true, ifP_false, List.append_nil, room1 (z := 40) (show q.length + 1 ≤ 1000000000 by omega) (by decide), Bool.and_true, guarded_true] <;> rfl
  have s2 : ∀ (q : List El) (b : Bool), q.length ≤ 50000 → spec_DirProblems_A Dn (spec_DirProblems_2 p dirs q (ats (dirs.take (i + 1))) i (atS ++ x.a0) b s (dirOf s x.a0)) = spec_DirProblems_A Dn (spec_DirProblems_0 p dirs (q ++ (ifP (!(dirOf s x.a0).a9 && b) (pb 27 (atS ++ x.a0) p) ++ argsP s (atS ++ x.a0) (dirOf s x.a0).a6 x.a1)) (ats (dirs.take (i + 1))) ((i + 1 : Nat) : Int) s) := fun q b hq' => by
    rw [spec_DirProblems_2_eq]
    cases (dirOf s x.a0).a9 <;> simp -implicitDefEqProofs only [Bool.not_true, Bool.not_false, show (true == true) = true from rfl, show (false == true) = false from rfl, branch_true, branch_false, Bool.true_and, Bool.false_and, s3 _ _ hq']
  rw [spec_DirProblems_0_eq, hx]
  unfold dirOne
  rw [show strAt x.l 0 = x.a0 from rfl, show slAt x.l 1 = x.a1 from rfl, Int.toNat_natCast]
  simp -implicitDefEqProofs only [Int.ofNat_lt, decide_true, branch_true, Int.natCast_nonneg, Bool.and_true, Int.toNat_natCast, guarded_true, hi, sized_all (fun e he => (hq e he).len), getD_lt hi, hx, R_ss.at_l, R_isee.at_l, R_sisee.at_l, R_se.at_l, R_ssssbiseee.at_l, R_ssesse.at_l, R_sse.at_l, R_is.at_l, R_ibsseeeeebe.at_l, R_eee.at_l, R_iss.at_l, R_issseee.at_l, R_sssbiseee.at_l, R_iseee.at_l, R_ssee.at_l, R_isi.at_l, ated bx0, d_spec_l17Dir hs, vBool_eq, vInt_eq, vStr_eq, vSl_eq, rBool_eq, rInt_eq, rStr_eq, rSl_eq, rOwn_eq, rBool0_eq, rInt0_eq, rBoolS_eq, rIntS_eq, rCol_eq, aBool_z, aInt_z, aStr_z, aSl_z, cmb_a, Option.bind_some, svTupK_tup, headK_cons, headB_cons, lastK_nil, lastB_nil, svAggK_agg, svOwnK_own, branch_true, branch_false, guarded_true, beq_self_eq_true, Bool.not_true, Bool.not_false, Bool.and_true, Bool.true_and, bT, bF, R_ibsseeeeebe.va_l, hh, hf, room (z := 16) (n := (ats (dirs.take i)).length) (k := 1) (by omega) (by decide), nt]
  cases dirHas s x.a0 with
  | false => simp -implicitDefEqProofs only [Bool.not_false, branch_true, room1 (z := 40) (show o.length + 1 ≤ 1000000000 by omega) (by decide), Bool.and_true, guarded_true, s1, Bool.false_eq_true, if_false]; rfl
  | true =>
    simp -implicitDefEqProofs only [Bool.not_true, branch_false, if_true]
    rw [← List.append_assoc, ← List.append_assoc, List.append_assoc (o ++ _), ← s2 _ _ (by have := ifP_len (!(dirOf s x.a0).a4.any (at0 p)) (pb 31 (atS ++ x.a0) p); rw [List.length_append]; omega)]
    cases (dirOf s x.a0).a4.any (at0 p) <;> simp -implicitDefEqProofs only [Bool.not_true, Bool.not_false, branch_true, branch_false, ifP_true, ifP_false, List.append_nil, room1 (z := 40) (show o.length + 1 ≤ 1000000000 by omega) (by decide), Bool.and_true, guarded_true] <;> rfl
theorem d_dir_any {es : List El} {x : R_se} (hl : es.length ≤ maxLen) (hq : ∀ e ∈ es, IsDir e) :
    Dn F.slices_ContainsFunc_S_impl_Dir_impl_Dir [vsl es, .fn F.impl_DirProblems_1 [.ptr 0 0]] [[.leaf (.str x.a0), vsl x.a1]] = some (vbool (es.any (at0 x.a0)), [[.leaf (.str x.a0), vsl x.a1]]) := by
  have key : Dn F.slices_IndexFunc_S_impl_Dir_impl_Dir [vsl es, .fn F.impl_DirProblems_1 [.ptr 0 0]] [[.leaf (.str x.a0), vsl x.a1]] = some (vint (idxP (at0 x.a0) 0 es), [[.leaf (.str x.a0), vsl x.a1]]) := by
    refine den_of ?_
    rw [run_slices_IndexFunc_S_impl_Dir_impl_Dir_c1p1]
    refine find_int (es := es) (A := fun i => slices_IndexFunc_S_impl_Dir_impl_Dir_c1p1_A Dn (slices_IndexFunc_S_impl_Dir_impl_Dir_c1p1_0 es F.impl_DirProblems_1 es.length i x)) (by rw [slices_IndexFunc_S_impl_Dir_impl_Dir_c1p1_0_eq]; simp) fun i hi => ?_
    obtain ⟨y, hy, _⟩ := (hq _ (List.getElem_mem hi)).st
    have hc : Dn F.impl_DirProblems_1 [.agg y.l, .ptr 0 0] [[.leaf (.str x.a0), vsl x.a1]] = some (vbool (y.a0.toList == x.a0.toList), [[.leaf (.str x.a0), vsl x.a1]]) := den_of (run_impl_DirProblems_1 ..)
    rw [slices_IndexFunc_S_impl_Dir_impl_Dir_c1p1_0_eq]
    simp -implicitDefEqProofs only [Int.ofNat_lt, decide_true, branch_true, Int.natCast_nonneg, Bool.and_true, Int.toNat_natCast, guarded_true, hi, wrap_upL (Nat.lt_of_lt_of_le hi hl), sized_all (fun e he => (hq e he).len), getD_lt hi, hy, R_se.rd_l, hc, vBool_eq, vInt_eq, vStr_eq, vSl_eq, rBool_eq, rInt_eq, rStr_eq, rSl_eq, rOwn_eq, rBool0_eq, rInt0_eq, rBoolS_eq, rIntS_eq, rCol_eq, aBool_z, aInt_z, aStr_z, aSl_z, cmb_a, Option.bind_some, svTupK_tup, headK_cons, headB_cons, lastK_nil, lastB_nil, svAggK_agg, svOwnK_own, branch_true, branch_false, guarded_true, beq_self_eq_true, Bool.not_true, Bool.not_false, Bool.and_true, Bool.true_and, bT, bF]
    rfl
  refine den_of ?_
  rw [run_slices_ContainsFunc_S_impl_Dir_impl_Dir_c1p1, key]
  simp -implicitDefEqProofs only [vBool_eq, vInt_eq, vStr_eq, vSl_eq, rBool_eq, rInt_eq, rStr_eq, rSl_eq, rOwn_eq, rBool0_eq, rInt0_eq, rBoolS_eq, rIntS_eq, rCol_eq, aBool_z, aInt_z, aStr_z, aSl_z, cmb_a, Option.bind_some, svTupK_tup, headK_cons, headB_cons, lastK_nil, lastB_nil, svAggK_agg, svOwnK_own, branch_true, branch_false, guarded_true, beq_self_eq_true, Bool.not_true, Bool.not_false, Bool.and_true, Bool.true_and, bT, bF, ← idxP_any _ es 0 (by omega)]
theorem d_impl_DirProblems (hs : IsSchema s.l) (bs : bdL 1048576 s.l) (hl : dirs.length ≤ maxLen) (hq : ∀ e ∈ dirs, IsDir e) (bq : bdE 1048576 dirs) :
    Dn F.impl_DirProblems [.agg s.l, .leaf (.str p), vsl dirs] [] = some (.own (some T.impl_Problem) (dirsP s p dirs), []) := by
  have hm : maxLen = 9223372036854775807 := rfl
  refine den_of ?_
  rw [run_impl_DirProblems]
  unfold dirsP
  by_cases h : dirs.length > 100
  · have h1 : ((dirs.length : Nat) : Int) > 100 := by omega
    rw [if_pos h]
    simp -implicitDefEqProofs only [h1, decide_true, branch_true, d_add (q := true) (c := 5) (o := ByteArray.mk #[]) (p := p) (out := []) (by simp), rCol_eq]
    rfl
  have h1 : ¬ ((dirs.length : Nat) : Int) > 100 := by omega
  rw [if_neg h]
  simp -implicitDefEqProofs only [h1, decide_false, branch_false]
  refine app_loop1 (es := dirs) (g := dirOne s p dirs) (c := 402) (N := 50000) (A := fun out i => impl_DirProblems_A Dn (impl_DirProblems_0 p dirs dirs dirs.length i s out))
    (fin := fun out => some (.own (some T.impl_Problem) out, [])) (fun j hj => dirOne_len) (fun o _ => by rw [impl_DirProblems_0_eq]; simp) (fun i hi o ho => ?_) (by omega)
  obtain ⟨x, hx, ix⟩ := (hq _ (List.getElem_mem hi)).st
  have bx : bdL 1048576 x.l := hx ▸ bdE_mem bq _ (List.getElem_mem hi)
  obtain ⟨bx0, ⟨bx1l, bx1⟩, _⟩ := bx
  obtain ⟨_, nx1, qx1⟩ := ix.p
  have hw := wrap_upL (Nat.lt_of_lt_of_le hi hl)
  have hle : i ≤ dirs.length := by omega
  obtain ⟨iy, ly⟩ := isDirOf (n := x.a0) hs bs
  obtain ⟨_, _, l4, q4, _, _, l6, q6, _⟩ := iy.p
  have hf := d_slices_Contains (s := p) l4 q4
  have ha := d_dir_any (x := x) (es := dirs.take i) (by rw [List.length_take]; omega) (fun e he => hq e (List.mem_of_mem_take he))
  have add : ∀ (q : Bool) (c : Int) (z : List El), z.length ≤ 100000 → Dn F.impl_problems_add [.ptr 0 0, .leaf (.bool q), vint c, .leaf (.str (atS ++ x.a0)), .leaf (.str p)] [[.own (some T.impl_Problem) z]] = some (.tup [], [[.own (some T.impl_Problem) (z ++ ifP q (pb c (atS ++ x.a0) p))]]) := fun q c z hz => d_add (by omega)
  have s2 : ∀ q : List El, q.length ≤ 60000 → impl_DirProblems_A Dn (impl_DirProblems_2 p dirs (atS ++ x.a0) dirs dirs.length i s x (dirOf s x.a0) q) = impl_DirProblems_A Dn (impl_DirProblems_0 p dirs dirs dirs.length ((i + 1 : Nat) : Int) s (q ++ argsP s (atS ++ x.a0) (dirOf s x.a0).a6 x.a1)) := fun q hq' => by
    have al := argsP_len (s := s) (o := atS ++ x.a0) (list := (dirOf s x.a0).a6) (args := x.a1)
    rw [impl_DirProblems_2_eq, d_impl_ArgProblems (o := atS ++ x.a0) hs bs ly q6 nx1 qx1 bx1, rOwn_eq, d_all argsP_all (by omega), rCol_eq, impl_DirProblems_1_eq, hw]
  have l1 := ifP_len (!(dirOf s x.a0).a4.any (at0 p)) (pb 31 (atS ++ x.a0) p)
  have a1 := add true 30 o (by omega)
  have a2 := add (!(dirOf s x.a0).a4.any (at0 p)) 31 o (by omega)
  have a3 := fun q => add q 27 (o ++ ifP (!(dirOf s x.a0).a4.any (at0 p)) (pb 31 (atS ++ x.a0) p)) (by rw [List.length_append]; omega)
  rw [impl_DirProblems_0_eq, hx]
  unfold dirOne
  rw [show strAt x.l 0 = x.a0 from rfl, show slAt x.l 1 = x.a1 from rfl]
  simp -implicitDefEqProofs only [Int.ofNat_lt, decide_true, branch_true, Int.natCast_nonneg, Bool.and_true, Int.toNat_natCast, guarded_true, hi, hle, sized_all (fun e he => (hq e he).len), getD_lt hi, hx, R_se.rd_l, ated bx0, d_impl_dirDef hs, vBool_eq, vInt_eq, vStr_eq, vSl_eq, rBool_eq, rInt_eq, rStr_eq, rSl_eq, rOwn_eq, rBool0_eq, rInt0_eq, rBoolS_eq, rIntS_eq, rCol_eq, aBool_z, aInt_z, aStr_z, aSl_z, cmb_a, Option.bind_some, svTupK_tup, headK_cons, headB_cons, lastK_nil, lastB_nil, svAggK_agg, svOwnK_own, branch_true, branch_false, guarded_true, beq_self_eq_true, Bool.not_true, Bool.not_false, Bool.and_true, Bool.true_and, bT, bF, R_ibsseeeeebe.va_l, List.drop_zero, hf, ha, a1, a2, a3]
  cases dirHas s x.a0 with
  | false => simp -implicitDefEqProofs only [Bool.not_false, branch_true, ifP_true, impl_DirProblems_1_eq, hw, Bool.false_eq_true, if_false]
  | true =>
    simp -implicitDefEqProofs only [Bool.not_true, branch_false, if_true]
    rw [← List.append_assoc, ← List.append_assoc]
    have s2' := fun b => s2 (o ++ ifP (!(dirOf s x.a0).a4.any (at0 p)) (pb 31 (atS ++ x.a0) p) ++ ifP b (pb 27 (atS ++ x.a0) p)) (by have := ifP_len b (pb 27 (atS ++ x.a0) p); rw [List.length_append, List.length_append]; omega)
    cases (dirOf s x.a0).a9 <;> simp -implicitDefEqProofs only [Bool.not_true, Bool.not_false, branch_true, branch_false, Bool.true_and, Bool.false_and, s2']
end
end Go.Vs
end
section
open Go Go.Vs Go.Proofs
set_option linter.unusedVariables false
set_option linter.unusedSimpArgs false
namespace Go.Vs
section
variable {x0_0 : List (List (Leaf false))} {x0_1 : List (List (Leaf false))} {x0_2 : List (List (Leaf false))} {x1 : ByteArray} {x2 : List (List (Leaf false))}
theorem szd0 (h : IsSchema [.sl fP x0_0, .sl fP x0_1, .sl fP x0_2]) (c : Fl true) (n : Int) (hn : 0 ≤ n) : Dd F.laws_szSchema [.agg [.sl c (reE (fl c) x0_0), .sl c (reE (fl c) x0_1), .sl c (reE (fl c) x0_2)], .leaf (.int .i64 n)] [] = some (.leaf (.int .i64 (szL [.sl fP x0_0, .sl fP x0_1, .sl fP x0_2] n)), []) :=
  dd_told rfl (d_laws_szSchema h hn) (by
    have t0 := reS_agg c [.sl fP x0_0, .sl fP x0_1, .sl fP x0_2]
    simp only [reL, reF] at t0
    rw [List.map_cons, t0]; rfl) rfl rfl
theorem eqd0 (h : IsSchema [.sl fP x0_0, .sl fP x0_1, .sl fP x0_2]) (c c' : Fl true) : Dd F.laws_eqSchema [.agg [.sl c (reE (fl c) x0_0), .sl c (reE (fl c) x0_1), .sl c (reE (fl c) x0_2)], .agg [.sl c' (reE (fl c') x0_0), .sl c' (reE (fl c') x0_1), .sl c' (reE (fl c') x0_2)]] [] = some (.leaf (.bool true), []) :=
  dd_told rfl (d_laws_eqSchema h) (by
    have t0 := reS_agg c [.sl fP x0_0, .sl fP x0_1, .sl fP x0_2]
    simp only [reL, reF] at t0
    have t := reS_agg c' [.sl fP x0_0, .sl fP x0_1, .sl fP x0_2]
    simp only [reL, reF] at t
    rw [List.map_cons, List.map_cons, t0, t]; rfl) rfl rfl
theorem tod0 (h : IsSchema [.sl fP x0_0, .sl fP x0_1, .sl fP x0_2]) (ht : tL [.sl fP x0_0, .sl fP x0_1, .sl fP x0_2] ≤ 1048576) (c : Fl true) : Dd F.laws_toSchema [.agg [.sl c (reE (fl c) x0_0), .sl c (reE (fl c) x0_1), .sl c (reE (fl c) x0_2)]] [] = some (.agg [.sl fNew (reE (fl fNew) x0_0), .sl fNew (reE (fl fNew) x0_1), .sl fNew (reE (fl fNew) x0_2)], []) := by
  have := t_laws_toSchema (c := c) h ht
  simpa only [reL, reF] using this
theorem mkd0 (h : IsSchema [.sl fP x0_0, .sl fP x0_1, .sl fP x0_2]) (k : Int) : Dd F.laws_markSchema [.agg [.sl fSoft (soE x0_0), .sl fSoft (soE x0_1), .sl fSoft (soE x0_2)], .leaf (.int .i64 k)] [] = some (.leaf (.int .i64 (msL [.sl fP x0_0, .sl fP x0_1, .sl fP x0_2] (k))), []) := by
  have := t_laws_markSchema h k
  simpa only [saL, saF] using this
theorem szd2 (hl : x2.length ≤ maxLen) (h : ∀ e ∈ x2, IsDir e) (c : Fl true) (n : Int) (hn : 0 ≤ n) : Dd F.laws_szDirS [.leaf (.sl c (reE (fl c) x2)), .leaf (.int .i64 n)] [] = some (.leaf (.int .i64 (szF (.sl fP x2) n)), []) :=
  dd_told rfl (d_laws_szDirS hl h hn) (by
    rw [List.map_cons, reS_sl]; rfl) rfl rfl
theorem eqd2 (hl : x2.length ≤ maxLen) (h : ∀ e ∈ x2, IsDir e) (c c' : Fl true) : Dd F.laws_eqDirS [.leaf (.sl c (reE (fl c) x2)), .leaf (.sl c' (reE (fl c') x2))] [] = some (.leaf (.bool true), []) :=
  dd_told rfl (d_laws_eqDirS hl h) (by
    rw [List.map_cons, List.map_cons, reS_sl, reS_sl]; rfl) rfl rfl
theorem tod2 (h : ∀ e ∈ x2, IsDir e) (ht : x2.length + tE x2 ≤ 1048576) (c : Fl true) : Dd F.laws_toDirS [.leaf (.sl c (reE (fl c) x2))] [] = some (.leaf (.sl fNew (reE (fl fNew) x2)), []) := t_laws_toDirS ht h
theorem mkd2 (hl : x2.length ≤ maxLen) (h : ∀ e ∈ x2, IsDir e) (k : Int) : Dd F.laws_markDirS [.leaf (.sl fSoft (soE x2)), .leaf (.int .i64 k)] [] = some (.leaf (.int .i64 (mkE x2 (k))), []) := t_laws_markDirS hl h k
theorem spd (h0 : IsSchema [.sl fP x0_0, .sl fP x0_1, .sl fP x0_2]) (B0 : bdL 1048576 [.sl fP x0_0, .sl fP x0_1, .sl fP x0_2]) (l1 : x1.size ≤ 1048576) (l2 : x2.length ≤ 1048576) (h2 : ∀ e ∈ x2, IsDir e) (B2 : bdE 1048576 x2) (c0 c2 : Fl true) : Dd F.spec_DirProblems [.agg [.sl c0 (reE (fl c0) x0_0), .sl c0 (reE (fl c0) x0_1), .sl c0 (reE (fl c0) x0_2)], .leaf (.str x1), .leaf (.sl c2 (reE (fl c2) x2))] [] = some (.own (some T.impl_Problem) (reE (fl fOld) (dirsP (⟨x0_0, x0_1, x0_2⟩ : R_eee) x1 x2)), []) :=
  dd_told rfl (d_spec_DirProblems (s := (⟨x0_0, x0_1, x0_2⟩ : R_eee)) (p := x1) (dirs := x2) h0 B0 (Nat.le_trans l2 (by decide)) h2 B2) (by
    have t0 := reS_agg c0 [.sl fP x0_0, .sl fP x0_1, .sl fP x0_2]
    simp only [reL, reF] at t0
    rw [List.map_cons, t0, List.map_cons, List.map_cons, reS_sl]; rfl) rfl rfl
theorem imd (h0 : IsSchema [.sl fP x0_0, .sl fP x0_1, .sl fP x0_2]) (B0 : bdL 1048576 [.sl fP x0_0, .sl fP x0_1, .sl fP x0_2]) (l1 : x1.size ≤ 1048576) (l2 : x2.length ≤ 1048576) (h2 : ∀ e ∈ x2, IsDir e) (B2 : bdE 1048576 x2) (c0 c2 : Fl true) : Dd F.impl_DirProblems [.agg [.sl c0 (reE (fl c0) x0_0), .sl c0 (reE (fl c0) x0_1), .sl c0 (reE (fl c0) x0_2)], .leaf (.str x1), .leaf (.sl c2 (reE (fl c2) x2))] [] = some (.own (some T.impl_Problem) (reE (fl fOld) (dirsP (⟨x0_0, x0_1, x0_2⟩ : R_eee) x1 x2)), []) :=
  dd_told rfl (d_impl_DirProblems (s := (⟨x0_0, x0_1, x0_2⟩ : R_eee)) (p := x1) (dirs := x2) h0 B0 (Nat.le_trans l2 (by decide)) h2 B2) (by
    have t0 := reS_agg c0 [.sl fP x0_0, .sl fP x0_1, .sl fP x0_2]
    simp only [reL, reF] at t0
    rw [List.map_cons, t0, List.map_cons, List.map_cons, reS_sl]; rfl) rfl rfl
theorem fitsD (h0 : IsSchema [.sl fP x0_0, .sl fP x0_1, .sl fP x0_2]) (hl2 : x2.length ≤ maxLen) (h2 : ∀ e ∈ x2, IsDir e) (q1 : x1.size ≤ 1048576) (q0 : 0 ≤ szL [.sl fP x0_0, .sl fP x0_1, .sl fP x0_2] 1048576) (q2 : 0 ≤ szF (.sl fP x2) (szL [.sl fP x0_0, .sl fP x0_1, .sl fP x0_2] 1048576)) : Fits x0_0 x0_1 x0_2 x1 x2 (dirsP (⟨x0_0, x0_1, x0_2⟩ : R_eee) x1 x2) := by
  have hm : maxLen = 9223372036854775807 := rfl
  have t0 := szL_t [.sl fP x0_0, .sl fP x0_1, .sl fP x0_2] 1048576 h0.ok (by omega) (by simp only [cap]; omega) q0
  have B0 := szL_bd (B := 1048576) (by simp only [cap]; omega) [.sl fP x0_0, .sl fP x0_1, .sl fP x0_2] 1048576 h0.ok (by omega) (by omega) q0
  have ok2 : okF 16 (.sl fP x2) := ⟨hl2, okE_of fun e he => ⟨by have := (h2 e he).len; omega, (h2 e he).ok⟩⟩
  have t2 := szF_t (z := 16) (.sl fP x2) (szL [.sl fP x0_0, .sl fP x0_1, .sl fP x0_2] 1048576) ok2 q0 (by simp only [cap]; omega) q2
  have bb2 := szF_bd (z := 16) (B := 1048576) (by simp only [cap]; omega) (.sl fP x2) (szL [.sl fP x0_0, .sl fP x0_1, .sl fP x0_2] 1048576) ok2 q0 (by omega) q2
  obtain ⟨l2, B2⟩ : x2.length ≤ 1048576 ∧ bdE 1048576 x2 := bb2
  have tt2 : (tF (.sl fP x2) : Int) = x2.length + tE x2 := by simp [tF]
  have l1 := q1
  have len := dirsP_len (s := (⟨x0_0, x0_1, x0_2⟩ : R_eee)) (p := x1) (dirs := x2)
  have k0 := msL_t [.sl fP x0_0, .sl fP x0_1, .sl fP x0_2] (1) h0.ok (by omega) (by simp only [cap]; omega)
  have k2 := mkE_t x2 (msL [.sl fP x0_0, .sl fP x0_1, .sl fP x0_2] (1)) ok2.2 (by omega) (by simp only [cap]; omega)
  exact { wl := by omega, wc := by simp only [cap]; omega, wq := dirsP_all (s := (⟨x0_0, x0_1, x0_2⟩ : R_eee)) (p := x1) (dirs := x2), spc := fun c0 c2 => spd h0 B0 l1 l2 h2 B2 c0 c2, imp := fun c0 c2 => by rw [imd h0 B0 l1 l2 h2 B2 c0 c2, reE_nosl (φ := fl fOld) (ψ := fl fNew) (fun e he => ((dirsP_all (s := (⟨x0_0, x0_1, x0_2⟩ : R_eee)) (p := x1) (dirs := x2)) e he).nosl)], mn := by omega,
           to0 := tod0 h0 (by omega), eq0 := eqd0 h0, mk0 := mkd0 h0, to2 := tod2 h2 (by omega), eq2 := eqd2 hl2 h2, mk2 := mkd2 hl2 h2 }
end
end Go.Vs
end
section
/- Leaves of a type's shape, kind by kind. -/
namespace Go.Vs
variable {m : Bool} {P : Program} {c : Fl m}
theorem sh_bool {n : Nat} {t : TypeId} {ls : List (Leaf m)} (hu : P.underlying t = some .bool) (h : Shaped P c n t ls) : ∃ b, ls = [.bool b] := by
  cases n with
  | zero => exact h.elim
  | succ n => unfold Shaped at h; simp only [hu] at h; exact h
theorem sh_int {n : Nat} {t : TypeId} {k : IntKind} {ls : List (Leaf m)} (hu : P.underlying t = some (.int k)) (h : Shaped P c n t ls) : ∃ z, ls = [.int k z] := by
  cases n with
  | zero => exact h.elim
  | succ n =>
    unfold Shaped at h
    simp only [hu] at h
    obtain ⟨z, e, _⟩ := h
    exact ⟨z, e⟩
theorem sh_str {n : Nat} {t : TypeId} {ls : List (Leaf m)} (hu : P.underlying t = some .string) (h : Shaped P c n t ls) : ∃ s : ByteArray, ls = [.str s] ∧ s.size ≤ maxLen := by
  cases n with
  | zero => exact h.elim
  | succ n => unfold Shaped at h; simp only [hu] at h; exact h
theorem sh_sl {n : Nat} {t e : TypeId} {ls : List (Leaf m)} (hu : P.underlying t = some (.slice e)) (h : Shaped P c n t ls) : ∃ k es, n = k + 1 ∧ ls = [.sl c es] ∧ es.length ≤ maxLen ∧ ∀ x ∈ es, Shaped P c k e x := by
  cases n with
  | zero => exact h.elim
  | succ n =>
    unfold Shaped at h
    simp only [hu] at h
    obtain ⟨es, e1, e2, e3⟩ := h
    exact ⟨n, es, rfl, e1, e2, e3⟩
theorem sh_struct {n : Nat} {t : TypeId} {fs : Array Field} {ts : List TypeId} {ls : List (Leaf m)} (hu : P.underlying t = some (.struct fs)) (hts : fs.toList.map Field.type = ts) (h : Shaped P c n t ls) : ∃ k, n = k + 1 ∧ Parts (Shaped P c k) ts ls := by
  subst hts
  cases n with
  | zero => exact h.elim
  | succ n =>
    unfold Shaped at h
    simp only [hu] at h
    exact ⟨n, rfl, h⟩
end Go.Vs
end
section
open Go Go.Vs Go.Proofs
set_option linter.unusedVariables false
set_option linter.unusedSimpArgs false
namespace Go.Vs
theorem isType_of {n : Nat} {ls : List (Leaf false)} (h : Shaped Tryz.prog fP n 90 ls) : IsType ls := by
  obtain ⟨k, rfl, hh⟩ := sh_struct Tryz.underlying90 (ts := [9, 9]) (by kernel_rfl) h
  simp only [Parts] at hh
  obtain ⟨a0, _, rfl, g0, a1, _, rfl, g1, rfl⟩ := hh
  obtain ⟨s0, rfl, h0⟩ := sh_str Tryz.underlying9 g0
  obtain ⟨s1, rfl, h1⟩ := sh_str Tryz.underlying9 g1
  exact .mk s0 s1 h0 h1
theorem isValue_of {n : Nat} {ls : List (Leaf false)} (h : Shaped Tryz.prog fP n 93 ls) : IsValue ls := by
  induction n using Nat.strongRecOn generalizing ls with
  | ind n ih =>
    obtain ⟨k, rfl, hh⟩ := sh_struct Tryz.underlying93 (ts := [3, 9, 91, 61]) (by kernel_rfl) h
    simp only [Parts] at hh
    obtain ⟨a0, _, rfl, g0, a1, _, rfl, g1, a2, _, rfl, g2, a3, _, rfl, g3, rfl⟩ := hh
    obtain ⟨i0, rfl⟩ := sh_int Tryz.underlying3 g0
    obtain ⟨s1, rfl, h1⟩ := sh_str Tryz.underlying9 g1
    obtain ⟨k2, e2, hk2, rfl, h2, g2⟩ := sh_sl Tryz.underlying91 g2
    have q2 : ∀ e ∈ e2, IsValue e := fun e he => ih k2 (by omega) (g2 e he)
    obtain ⟨k3, e3, hk3, rfl, h3, g3⟩ := sh_sl Tryz.underlying61 g3
    have q3 : ∀ e ∈ e3, IsStr e := fun e he => sh_str Tryz.underlying9 (g3 e he)
    exact .mk i0 s1 e2 e3 h1 h2 q2 h3 q3
theorem isArg_of {n : Nat} {ls : List (Leaf false)} (h : Shaped Tryz.prog fP n 98 ls) : IsArg ls := by
  obtain ⟨k, rfl, hh⟩ := sh_struct Tryz.underlying98 (ts := [9, 93]) (by kernel_rfl) h
  simp only [Parts] at hh
  obtain ⟨a0, _, rfl, g0, a1, _, rfl, g1, rfl⟩ := hh
  obtain ⟨s0, rfl, h0⟩ := sh_str Tryz.underlying9 g0
  obtain ⟨i1, s2, e3, e4, rfl, h2, h3, q3, h4, q4⟩ := (isValue_of g1).ex
  exact .mk s0 i1 s2 e3 e4 h0 h2 h3 q3 h4 q4
theorem isDir_of {n : Nat} {ls : List (Leaf false)} (h : Shaped Tryz.prog fP n 137 ls) : IsDir ls := by
  obtain ⟨k, rfl, hh⟩ := sh_struct Tryz.underlying137 (ts := [9, 27]) (by kernel_rfl) h
  simp only [Parts] at hh
  obtain ⟨a0, _, rfl, g0, a1, _, rfl, g1, rfl⟩ := hh
  obtain ⟨s0, rfl, h0⟩ := sh_str Tryz.underlying9 g0
  obtain ⟨k1, e1, hk1, rfl, h1, g1⟩ := sh_sl Tryz.underlying27 g1
  have q1 : ∀ e ∈ e1, IsArg e := fun e he => isArg_of (g1 e he)
  exact .mk s0 e1 h0 h1 q1
theorem isInDef_of {n : Nat} {ls : List (Leaf false)} (h : Shaped Tryz.prog fP n 95 ls) : IsInDef ls := by
  obtain ⟨k, rfl, hh⟩ := sh_struct Tryz.underlying95 (ts := [9, 9, 90, 4, 93, 53]) (by kernel_rfl) h
  simp only [Parts] at hh
  obtain ⟨a0, _, rfl, g0, a1, _, rfl, g1, a2, _, rfl, g2, a3, _, rfl, g3, a4, _, rfl, g4, a5, _, rfl, g5, rfl⟩ := hh
  obtain ⟨s0, rfl, h0⟩ := sh_str Tryz.underlying9 g0
  obtain ⟨s1, rfl, h1⟩ := sh_str Tryz.underlying9 g1
  obtain ⟨s2, s3, rfl, h2, h3⟩ := (isType_of g2).ex
  obtain ⟨b4, rfl⟩ := sh_bool Tryz.underlying4 g3
  obtain ⟨i5, s6, e7, e8, rfl, h6, h7, q7, h8, q8⟩ := (isValue_of g4).ex
  obtain ⟨k9, e9, hk9, rfl, h9, g5⟩ := sh_sl Tryz.underlying53 g5
  have q9 : ∀ e ∈ e9, IsDir e := fun e he => isDir_of (g5 e he)
  exact .mk s0 s1 s2 s3 b4 i5 s6 e7 e8 e9 h0 h1 h2 h3 h6 h7 q7 h8 q8 h9 q9
theorem isFieldDef_of {n : Nat} {ls : List (Leaf false)} (h : Shaped Tryz.prog fP n 217 ls) : IsFieldDef ls := by
  obtain ⟨k, rfl, hh⟩ := sh_struct Tryz.underlying217 (ts := [9, 9, 26, 90, 53]) (by kernel_rfl) h
  simp only [Parts] at hh
  obtain ⟨a0, _, rfl, g0, a1, _, rfl, g1, a2, _, rfl, g2, a3, _, rfl, g3, a4, _, rfl, g4, rfl⟩ := hh
  obtain ⟨s0, rfl, h0⟩ := sh_str Tryz.underlying9 g0
  obtain ⟨s1, rfl, h1⟩ := sh_str Tryz.underlying9 g1
  obtain ⟨k2, e2, hk2, rfl, h2, g2⟩ := sh_sl Tryz.underlying26 g2
  have q2 : ∀ e ∈ e2, IsInDef e := fun e he => isInDef_of (g2 e he)
  obtain ⟨s3, s4, rfl, h3, h4⟩ := (isType_of g3).ex
  obtain ⟨k5, e5, hk5, rfl, h5, g4⟩ := sh_sl Tryz.underlying53 g4
  have q5 : ∀ e ∈ e5, IsDir e := fun e he => isDir_of (g4 e he)
  exact .mk s0 s1 e2 s3 s4 e5 h0 h1 h2 q2 h3 h4 h5 q5
theorem isEnumDef_of {n : Nat} {ls : List (Leaf false)} (h : Shaped Tryz.prog fP n 220 ls) : IsEnumDef ls := by
  obtain ⟨k, rfl, hh⟩ := sh_struct Tryz.underlying220 (ts := [9, 9, 53]) (by kernel_rfl) h
  simp only [Parts] at hh
  obtain ⟨a0, _, rfl, g0, a1, _, rfl, g1, a2, _, rfl, g2, rfl⟩ := hh
  obtain ⟨s0, rfl, h0⟩ := sh_str Tryz.underlying9 g0
  obtain ⟨s1, rfl, h1⟩ := sh_str Tryz.underlying9 g1
  obtain ⟨k2, e2, hk2, rfl, h2, g2⟩ := sh_sl Tryz.underlying53 g2
  have q2 : ∀ e ∈ e2, IsDir e := fun e he => isDir_of (g2 e he)
  exact .mk s0 s1 e2 h0 h1 h2 q2
theorem isRoot_of {n : Nat} {ls : List (Leaf false)} (h : Shaped Tryz.prog fP n 189 ls) : IsRoot ls := by
  obtain ⟨k, rfl, hh⟩ := sh_struct Tryz.underlying189 (ts := [3, 9]) (by kernel_rfl) h
  simp only [Parts] at hh
  obtain ⟨a0, _, rfl, g0, a1, _, rfl, g1, rfl⟩ := hh
  obtain ⟨i0, rfl⟩ := sh_int Tryz.underlying3 g0
  obtain ⟨s1, rfl, h1⟩ := sh_str Tryz.underlying9 g1
  exact .mk i0 s1 h1
theorem isDef_of {n : Nat} {ls : List (Leaf false)} (h : Shaped Tryz.prog fP n 65 ls) : IsDef ls := by
  obtain ⟨k, rfl, hh⟩ := sh_struct Tryz.underlying65 (ts := [3, 4, 9, 9, 61, 62, 26, 63, 23, 4, 53]) (by kernel_rfl) h
  simp only [Parts] at hh
  obtain ⟨a0, _, rfl, g0, a1, _, rfl, g1, a2, _, rfl, g2, a3, _, rfl, g3, a4, _, rfl, g4, a5, _, rfl, g5, a6, _, rfl, g6, a7, _, rfl, g7, a8, _, rfl, g8, a9, _, rfl, g9, a10, _, rfl, g10, rfl⟩ := hh
  obtain ⟨i0, rfl⟩ := sh_int Tryz.underlying3 g0
  obtain ⟨b1, rfl⟩ := sh_bool Tryz.underlying4 g1
  obtain ⟨s2, rfl, h2⟩ := sh_str Tryz.underlying9 g2
  obtain ⟨s3, rfl, h3⟩ := sh_str Tryz.underlying9 g3
  obtain ⟨k4, e4, hk4, rfl, h4, g4⟩ := sh_sl Tryz.underlying61 g4
  have q4 : ∀ e ∈ e4, IsStr e := fun e he => sh_str Tryz.underlying9 (g4 e he)
  obtain ⟨k5, e5, hk5, rfl, h5, g5⟩ := sh_sl Tryz.underlying62 g5
  have q5 : ∀ e ∈ e5, IsFieldDef e := fun e he => isFieldDef_of (g5 e he)
  obtain ⟨k6, e6, hk6, rfl, h6, g6⟩ := sh_sl Tryz.underlying26 g6
  have q6 : ∀ e ∈ e6, IsInDef e := fun e he => isInDef_of (g6 e he)
  obtain ⟨k7, e7, hk7, rfl, h7, g7⟩ := sh_sl Tryz.underlying63 g7
  have q7 : ∀ e ∈ e7, IsEnumDef e := fun e he => isEnumDef_of (g7 e he)
  obtain ⟨k8, e8, hk8, rfl, h8, g8⟩ := sh_sl Tryz.underlying23 g8
  have q8 : ∀ e ∈ e8, IsRoot e := fun e he => isRoot_of (g8 e he)
  obtain ⟨b9, rfl⟩ := sh_bool Tryz.underlying4 g9
  obtain ⟨k10, e10, hk10, rfl, h10, g10⟩ := sh_sl Tryz.underlying53 g10
  have q10 : ∀ e ∈ e10, IsDir e := fun e he => isDir_of (g10 e he)
  exact .mk i0 b1 s2 s3 e4 e5 e6 e7 e8 b9 e10 h2 h3 h4 q4 h5 q5 h6 q6 h7 q7 h8 q8 h10 q10
theorem isSchema_of {n : Nat} {ls : List (Leaf false)} (h : Shaped Tryz.prog fP n 25 ls) : IsSchema ls := by
  obtain ⟨k, rfl, hh⟩ := sh_struct Tryz.underlying25 (ts := [22, 22, 23]) (by kernel_rfl) h
  simp only [Parts] at hh
  obtain ⟨a0, _, rfl, g0, a1, _, rfl, g1, a2, _, rfl, g2, rfl⟩ := hh
  obtain ⟨k0, e0, hk0, rfl, h0, g0⟩ := sh_sl Tryz.underlying22 g0
  have q0 : ∀ e ∈ e0, IsDef e := fun e he => isDef_of (g0 e he)
  obtain ⟨k1, e1, hk1, rfl, h1, g1⟩ := sh_sl Tryz.underlying22 g1
  have q1 : ∀ e ∈ e1, IsDef e := fun e he => isDef_of (g1 e he)
  obtain ⟨k2, e2, hk2, rfl, h2, g2⟩ := sh_sl Tryz.underlying23 g2
  have q2 : ∀ e ∈ e2, IsRoot e := fun e he => isRoot_of (g2 e he)
  exact .mk e0 e1 e2 h0 q0 h1 q1 h2 q2

theorem isRow2 {n : Nat} {ls : List (Leaf false)} (h : Shaped Tryz.prog fP n 53 ls) : ∃ x : List El, ls = [.sl fP x] ∧ x.length ≤ maxLen ∧ ∀ e ∈ x, IsDir e := by
  obtain ⟨k, x, hk, rfl, h1, g⟩ := sh_sl Tryz.underlying53 h
  exact ⟨x, rfl, h1, fun e he => isDir_of (g e he)⟩
end Go.Vs
end
section
/- What lies in the package's variables when a call begins: errors. -/
set_option linter.unusedVariables false
namespace Go.Vs
theorem trod_iface {H : Type} {enc : TypeId × Value → H} {P : Program} {w : World} {base : Nat} {spare : Nat → Bool} {held : Bool} {fuel : Nat} {t : TypeId} {cs : List Value} {x : DataW H × List MemPlace} {ms : Array (String × TypeId)}
    (ht : P.underlying t = some (.interface ms)) (h : DataW.trod enc P w base spare held fuel t cs = some x) : cs = [.nilIface] ∨ ∃ u v, cs = [.iface u v] := by
  cases fuel with
  | zero => simp [DataW.trod] at h
  | succ n =>
    unfold DataW.trod at h
    rw [ht] at h
    split at h <;> simp_all
/-- What a laid error holds. -/
theorem laid_err {P : Program} {w : World} {n : String} {d : DataW Unit} {g t : Nat} {ms : Array (String × TypeId)} (hg : P.globalNamed n = some g) (ht : (P.globals[g]?).map (·.type) = some t) (hu : P.underlying t = some (.interface ms)) :
    ∀ {l : List (String × DataW Unit)} {ps : List MemPlace}, DataW.LaidVars P w l ps → (n, d) ∈ l → ∃ ev, w.cell? ⟨g, 0, none⟩ = some ev ∧ (ev = .nilIface ∨ ∃ te pe, ev = .iface te pe)
  | [], _, _, hm => by cases hm
  | (n', d') :: r, ps, h, hm => by
    obtain ⟨g', t', cs, fuel, p, q, hg', ht', hv, hd, hr, _⟩ := h
    rcases List.mem_cons.1 hm with e | hm
    · obtain ⟨rfl, rfl⟩ := Prod.mk.inj e
      obtain rfl := Option.some.inj (hg.symm.trans hg')
      obtain rfl := Option.some.inj (ht.symm.trans ht')
      have hc := World.var?_cell hg hv 0
      obtain ⟨l⟩ := cs
      rcases trod_iface hu hd with e | ⟨u, v, e⟩
      · simp at e; subst e
        exact ⟨_, hc, .inl rfl⟩
      · simp at e; subst e
        exact ⟨_, hc, .inr ⟨u, v, rfl⟩⟩
    · exact laid_err hg ht hu hr hm
end Go.Vs
end
