/- What the program's functions compute, read off their text by the shadow runner (HD, HTt, HTm0, HTm); no condition. -/
import Derived.Test.YtndacingbfeonaaGreatDoorVB7
section
open Go Go.Vs Go.Proofs
set_option maxRecDepth 100000
set_option linter.unusedVariables false
namespace Go.Vs
noncomputable def d_laws_toSchema_A (D : Oracle true) (x : List Nat × St true) : Option (SV true × List (List (SV true))) := atF Tryz.prog D Hs F.laws_toSchema x.1 0 x.2
theorem run_d_laws_toSchema (D : Oracle true) (c0_0 : Fl true) (e0_0 : List (List (Leaf true))) (c0_1 : Fl true) (e0_1 : List (List (Leaf true))) (c0_2 : Fl true) (e0_2 : List (List (Leaf true))) : run2V Tryz.prog D Hs limR F.laws_toSchema [SV.agg [Leaf.sl c0_0 e0_0, Leaf.sl c0_1 e0_1, Leaf.sl c0_2 e0_2]] [] = (D F.laws_toDefS [.leaf (.sl c0_0 e0_0)] []).bind fun (r : SV true × List (List (SV true))) => svSlK r.fst fun (c : Fl true) (es : List (List (Leaf true))) => (D F.laws_toDefS [.leaf (.sl c0_1 e0_1)] []).bind fun (r : SV true × List (List (SV true))) => svSlK r.fst fun (c_1 : Fl true) (es_1 : List (List (Leaf true))) => (D F.laws_toRootS [.leaf (.sl c0_2 e0_2)] []).bind fun (r : SV true × List (List (SV true))) => svSlK r.fst fun (c_2 : Fl true) (es_2 : List (List (Leaf true))) => some (SV.agg [Leaf.sl c es, Leaf.sl c_1 es_1, Leaf.sl c_2 es_2], []) := by refine (run_names (J := d_laws_toSchema_A D) (by kernel_rfl) (fun _ _ => rfl) []).trans ?_; generalize d_laws_toSchema_A D = J; revert J; refine id ?_; intro J; kernel_rfl
noncomputable def d_laws_toInDefS_A (D : Oracle true) (x : List Nat × St true) : Option (SV true × List (List (SV true))) := atF Tryz.prog D Hs F.laws_toInDefS x.1 0 x.2
def d_laws_toInDefS_0 (c0 : Fl true) (e0 : List (List (Leaf true))) (n3 : Nat) (i4 : Int) (vx7 : List (SV true)) : List Nat × St true := ([1, 1, 0, 1, 0], St.mk ([.leaf (.sl c0 e0), SV.any, SV.any, SV.bsl 7 10 0 n3, .leaf (.int .i64 i4)] ++ anyS 18) (noB 7 ++ [some vx7] ++ noB 15))
theorem d_laws_toInDefS_0_eq (D : Oracle true) (c0 : Fl true) (e0 : List (List (Leaf true))) (n3 : Nat) (i4 : Int) (vx7 : List (SV true)) : d_laws_toInDefS_A D (d_laws_toInDefS_0 c0 e0 n3 i4 vx7) = branch (decide (i4 < (↑e0.length : Int))) (guarded (decide (0 ≤ i4) && decide (i4 < (↑e0.length : Int)) && sized 10 e0) (bindE (e0.getD i4.toNat []) fun (e : List (Leaf true)) => atK e 0 fun (l : Leaf true) => strK l fun (s : ByteArray) => atK e 1 fun (l : Leaf true) => strK l fun (s_1 : ByteArray) => atK e 2 fun (l : Leaf true) => strK l fun (s_2 : ByteArray) => atK e 3 fun (l : Leaf true) => strK l fun (s_3 : ByteArray) => atK e 4 fun (l : Leaf true) => boolK l fun (b : Bool) => atK e 5 fun (l : Leaf true) => intK IntKind.i64 l fun (n : Int) => atK e 6 fun (l : Leaf true) => strK l fun (s_4 : ByteArray) => atK e 7 fun (l : Leaf true) => slK l fun (c : Fl true) (es : List (List (Leaf true))) => atK e 8 fun (l : Leaf true) => slK l fun (c_1 : Fl true) (es_1 : List (List (Leaf true))) => atK e 9 fun (l : Leaf true) => slK l fun (c_2 : Fl true) (es_2 : List (List (Leaf true))) => (D F.laws_toInDef [SV.agg [Leaf.str s, Leaf.str s_1, Leaf.str s_2, Leaf.str s_3, Leaf.bool b, .int .i64 n, Leaf.str s_4, Leaf.sl c es, Leaf.sl c_1 es_1, Leaf.sl c_2 es_2]] []).bind fun (r : SV true × List (List (SV true))) => svAggK r.fst fun (cs : List (Leaf true)) => guarded (cs.length == 10) (atK cs 0 fun (l : Leaf true) => strK l fun (s : ByteArray) => atK cs 1 fun (l : Leaf true) => strK l fun (s_5 : ByteArray) => atK cs 2 fun (l : Leaf true) => strK l fun (s_6 : ByteArray) => atK cs 3 fun (l : Leaf true) => strK l fun (s_7 : ByteArray) => atK cs 4 fun (l : Leaf true) => boolK l fun (b : Bool) => atK cs 5 fun (l : Leaf true) => intK IntKind.i64 l fun (n : Int) => atK cs 6 fun (l : Leaf true) => strK l fun (s_8 : ByteArray) => atK cs 7 fun (l : Leaf true) => slK l fun (c : Fl true) (es : List (List (Leaf true))) => atK cs 8 fun (l : Leaf true) => slK l fun (c_3 : Fl true) (es_3 : List (List (Leaf true))) => atK cs 9 fun (l : Leaf true) => slK l fun (c_4 : Fl true) (es_4 : List (List (Leaf true))) => guarded (decide (0 ≤ i4) && decide (i4 < (↑n3 : Int))) (guarded (decide ((0 + i4.toNat) * 10 + 10 ≤ vx7.length)) (d_laws_toInDefS_A D (d_laws_toInDefS_0 c0 e0 n3 (IntKind.i64.wrap (i4 + 1)) (putAt vx7 ((0 + i4.toNat) * 10) [.leaf (.str s), .leaf (.str s_5), .leaf (.str s_6), .leaf (.str s_7), .leaf (.bool b), .leaf (.int .i64 n), .leaf (.str s_8), .leaf (.sl c es), .leaf (.sl c_3 es_3), .leaf (.sl c_4 es_4)]))))))) ((if n3 * 10 ≤ vx7.length ∧ 0 < 10 then match asLeaves (List.take (n3 * 10) vx7) with | some x => some ((fun (l : List (Leaf true)) => .leaf (.sl (Fl.new true) (chunks 10 n3 l))) x) | none => none else none).bind fun (v : SV true) => guarded v.flatT (some (v, []))) := by refine (nameF_eq (J := d_laws_toInDefS_A D) (fun _ _ => rfl) [[1, 1, 0, 1, 0]] (d_laws_toInDefS_0 c0 e0 n3 i4 vx7)).trans ?_; generalize d_laws_toInDefS_A D = J; revert J; refine id ?_; intro J; kernel_rfl
theorem run_d_laws_toInDefS (D : Oracle true) (c0 : Fl true) (e0 : List (List (Leaf true))) : run2V Tryz.prog D Hs limR F.laws_toInDefS [.leaf (.sl c0 e0)] [] = guarded ((↑e0.length : Int) == (↑e0.length : Int) && decide ((↑e0.length : Int).toNat * 168 ≤ maxBytes) && decide ((↑e0.length : Int).toNat ≤ maxBytes)) (d_laws_toInDefS_A D (d_laws_toInDefS_0 c0 e0 (decide (0 ≤ (↑e0.length : Int)) && (↑e0.length : Int) == (↑e0.length : Int) && decide ((↑e0.length : Int).toNat * Tryz.prog.types[111].bytes ≤ maxBytes) && decide ((↑e0.length : Int).toNat ≤ maxBytes), (Tryz.prog.types[111].size, (↑e0.length : Int).toNat), List.map SV.leaf (List.replicate (↑e0.length : Int).toNat ((fun (x : List (Leaf true)) => Leaf.str (ByteArray.mk #[]) :: x) ((fun (x : List (Leaf true)) => Leaf.str (ByteArray.mk #[]) :: x) ((fun (x : List (Leaf true)) => Leaf.str (ByteArray.mk #[]) :: x) ((fun (x : List (Leaf true)) => Leaf.str (ByteArray.mk #[]) :: x) ((fun (x : List (Leaf true)) => Leaf.bool false :: x) ((fun (x : List (Leaf true)) => .int .i64 0 :: x) ((fun (x : List (Leaf true)) => Leaf.str (ByteArray.mk #[]) :: x) ((fun (x : List (Leaf true)) => Leaf.sl (Fl.new true) [] :: x) ((fun (x : List (Leaf true)) => Leaf.sl (Fl.new true) [] :: x) ((fun (x : List (Leaf true)) => Leaf.sl (Fl.new true) [] :: x) []))))))))))).flatten).snd.fst.snd 0 (decide (0 ≤ (↑e0.length : Int)) && (↑e0.length : Int) == (↑e0.length : Int) && decide ((↑e0.length : Int).toNat * Tryz.prog.types[111].bytes ≤ maxBytes) && decide ((↑e0.length : Int).toNat ≤ maxBytes), (Tryz.prog.types[111].size, (↑e0.length : Int).toNat), List.map SV.leaf (List.replicate (↑e0.length : Int).toNat ((fun (x : List (Leaf true)) => Leaf.str (ByteArray.mk #[]) :: x) ((fun (x : List (Leaf true)) => Leaf.str (ByteArray.mk #[]) :: x) ((fun (x : List (Leaf true)) => Leaf.str (ByteArray.mk #[]) :: x) ((fun (x : List (Leaf true)) => Leaf.str (ByteArray.mk #[]) :: x) ((fun (x : List (Leaf true)) => Leaf.bool false :: x) ((fun (x : List (Leaf true)) => .int .i64 0 :: x) ((fun (x : List (Leaf true)) => Leaf.str (ByteArray.mk #[]) :: x) ((fun (x : List (Leaf true)) => Leaf.sl (Fl.new true) [] :: x) ((fun (x : List (Leaf true)) => Leaf.sl (Fl.new true) [] :: x) ((fun (x : List (Leaf true)) => Leaf.sl (Fl.new true) [] :: x) []))))))))))).flatten).snd.snd)) := by refine (run_names (J := d_laws_toInDefS_A D) (by kernel_rfl) (fun _ _ => rfl) [[1, 1, 0, 1, 0]]).trans ?_; generalize d_laws_toInDefS_A D = J; revert J; refine id ?_; intro J; kernel_rfl
noncomputable def d_laws_toArgS_A (D : Oracle true) (x : List Nat × St true) : Option (SV true × List (List (SV true))) := atF Tryz.prog D Hs F.laws_toArgS x.1 0 x.2
def d_laws_toArgS_0 (c0 : Fl true) (e0 : List (List (Leaf true))) (n3 : Nat) (i4 : Int) (vx7 : List (SV true)) : List Nat × St true := ([1, 1, 0, 1, 0], St.mk ([.leaf (.sl c0 e0), SV.any, SV.any, SV.bsl 7 5 0 n3, .leaf (.int .i64 i4)] ++ anyS 18) (noB 7 ++ [some vx7] ++ noB 15))
theorem d_laws_toArgS_0_eq (D : Oracle true) (c0 : Fl true) (e0 : List (List (Leaf true))) (n3 : Nat) (i4 : Int) (vx7 : List (SV true)) : d_laws_toArgS_A D (d_laws_toArgS_0 c0 e0 n3 i4 vx7) = branch (decide (i4 < (↑e0.length : Int))) (guarded (decide (0 ≤ i4) && decide (i4 < (↑e0.length : Int)) && sized 5 e0) (bindE (e0.getD i4.toNat []) fun (e : List (Leaf true)) => atK e 0 fun (l : Leaf true) => strK l fun (s : ByteArray) => atK e 1 fun (l : Leaf true) => intK IntKind.i64 l fun (n : Int) => atK e 2 fun (l : Leaf true) => strK l fun (s_1 : ByteArray) => atK e 3 fun (l : Leaf true) => slK l fun (c : Fl true) (es : List (List (Leaf true))) => atK e 4 fun (l : Leaf true) => slK l fun (c_1 : Fl true) (es_1 : List (List (Leaf true))) => (D F.laws_toArg [SV.agg [Leaf.str s, .int .i64 n, Leaf.str s_1, Leaf.sl c es, Leaf.sl c_1 es_1]] []).bind fun (r : SV true × List (List (SV true))) => svAggK r.fst fun (cs : List (Leaf true)) => guarded (cs.length == 5) (atK cs 0 fun (l : Leaf true) => strK l fun (s : ByteArray) => atK cs 1 fun (l : Leaf true) => intK IntKind.i64 l fun (n : Int) => atK cs 2 fun (l : Leaf true) => strK l fun (s_2 : ByteArray) => atK cs 3 fun (l : Leaf true) => slK l fun (c : Fl true) (es : List (List (Leaf true))) => atK cs 4 fun (l : Leaf true) => slK l fun (c_2 : Fl true) (es_2 : List (List (Leaf true))) => guarded (decide (0 ≤ i4) && decide (i4 < (↑n3 : Int))) (guarded (decide ((0 + i4.toNat) * 5 + 5 ≤ vx7.length)) (d_laws_toArgS_A D (d_laws_toArgS_0 c0 e0 n3 (IntKind.i64.wrap (i4 + 1)) (putAt vx7 ((0 + i4.toNat) * 5) [.leaf (.str s), .leaf (.int .i64 n), .leaf (.str s_2), .leaf (.sl c es), .leaf (.sl c_2 es_2)]))))))) ((if n3 * 5 ≤ vx7.length ∧ 0 < 5 then match asLeaves (List.take (n3 * 5) vx7) with | some x => some ((fun (l : List (Leaf true)) => .leaf (.sl (Fl.new true) (chunks 5 n3 l))) x) | none => none else none).bind fun (v : SV true) => guarded v.flatT (some (v, []))) := by refine (nameF_eq (J := d_laws_toArgS_A D) (fun _ _ => rfl) [[1, 1, 0, 1, 0]] (d_laws_toArgS_0 c0 e0 n3 i4 vx7)).trans ?_; generalize d_laws_toArgS_A D = J; revert J; refine id ?_; intro J; kernel_rfl
theorem run_d_laws_toArgS (D : Oracle true) (c0 : Fl true) (e0 : List (List (Leaf true))) : run2V Tryz.prog D Hs limR F.laws_toArgS [.leaf (.sl c0 e0)] [] = guarded ((↑e0.length : Int) == (↑e0.length : Int) && decide ((↑e0.length : Int).toNat * 88 ≤ maxBytes) && decide ((↑e0.length : Int).toNat ≤ maxBytes)) (d_laws_toArgS_A D (d_laws_toArgS_0 c0 e0 (decide (0 ≤ (↑e0.length : Int)) && (↑e0.length : Int) == (↑e0.length : Int) && decide ((↑e0.length : Int).toNat * Tryz.prog.types[105].bytes ≤ maxBytes) && decide ((↑e0.length : Int).toNat ≤ maxBytes), (Tryz.prog.types[105].size, (↑e0.length : Int).toNat), List.map SV.leaf (List.replicate (↑e0.length : Int).toNat ((fun (x : List (Leaf true)) => Leaf.str (ByteArray.mk #[]) :: x) ((fun (x : List (Leaf true)) => .int .i64 0 :: x) ((fun (x : List (Leaf true)) => Leaf.str (ByteArray.mk #[]) :: x) ((fun (x : List (Leaf true)) => Leaf.sl (Fl.new true) [] :: x) ((fun (x : List (Leaf true)) => Leaf.sl (Fl.new true) [] :: x) [])))))).flatten).snd.fst.snd 0 (decide (0 ≤ (↑e0.length : Int)) && (↑e0.length : Int) == (↑e0.length : Int) && decide ((↑e0.length : Int).toNat * Tryz.prog.types[105].bytes ≤ maxBytes) && decide ((↑e0.length : Int).toNat ≤ maxBytes), (Tryz.prog.types[105].size, (↑e0.length : Int).toNat), List.map SV.leaf (List.replicate (↑e0.length : Int).toNat ((fun (x : List (Leaf true)) => Leaf.str (ByteArray.mk #[]) :: x) ((fun (x : List (Leaf true)) => .int .i64 0 :: x) ((fun (x : List (Leaf true)) => Leaf.str (ByteArray.mk #[]) :: x) ((fun (x : List (Leaf true)) => Leaf.sl (Fl.new true) [] :: x) ((fun (x : List (Leaf true)) => Leaf.sl (Fl.new true) [] :: x) [])))))).flatten).snd.snd)) := by refine (run_names (J := d_laws_toArgS_A D) (by kernel_rfl) (fun _ _ => rfl) [[1, 1, 0, 1, 0]]).trans ?_; generalize d_laws_toArgS_A D = J; revert J; refine id ?_; intro J; kernel_rfl
noncomputable def d_laws_markSchema_A (D : Oracle true) (x : List Nat × St true) : Option (SV true × List (List (SV true))) := atF Tryz.prog D Hs F.laws_markSchema x.1 0 x.2
theorem run_d_laws_markSchema (D : Oracle true) (c0_0 : Fl true) (e0_0 : List (List (Leaf true))) (c0_1 : Fl true) (e0_1 : List (List (Leaf true))) (c0_2 : Fl true) (e0_2 : List (List (Leaf true))) (i1 : Int) : run2V Tryz.prog D Hs limR F.laws_markSchema [SV.agg [Leaf.sl c0_0 e0_0, Leaf.sl c0_1 e0_1, Leaf.sl c0_2 e0_2], .leaf (.int .i64 i1)] [] = (D F.laws_markDefS [.leaf (.sl c0_0 e0_0), .leaf (.int .i64 i1)] []).bind fun (r : SV true × List (List (SV true))) => svLeafK r.fst fun (l : Leaf true) => intK IntKind.i64 l fun (n : Int) => (D F.laws_markDefS [.leaf (.sl c0_1 e0_1), .leaf (.int .i64 n)] []).bind fun (r : SV true × List (List (SV true))) => svLeafK r.fst fun (l : Leaf true) => intK IntKind.i64 l fun (n : Int) => (D F.laws_markRootS [.leaf (.sl c0_2 e0_2), .leaf (.int .i64 n)] []).bind fun (r : SV true × List (List (SV true))) => svLeafK r.fst fun (l : Leaf true) => intK IntKind.i64 l fun (n : Int) => some (.leaf (.int .i64 n), []) := by refine (run_names (J := d_laws_markSchema_A D) (by kernel_rfl) (fun _ _ => rfl) []).trans ?_; generalize d_laws_markSchema_A D = J; revert J; refine id ?_; intro J; kernel_rfl
noncomputable def d_laws_markInDefS_A (D : Oracle true) (x : List Nat × St true) : Option (SV true × List (List (SV true))) := atF Tryz.prog D Hs F.laws_markInDefS x.1 0 x.2
def d_laws_markInDefS_0 (c0 : Fl true) (e0 : List (List (Leaf true))) (i1 i5 : Int) : List Nat × St true := ([1, 0, 1, 0], St.mk ([.leaf (.sl c0 e0), .leaf (.int .i64 i1), SV.any, SV.any, SV.any, .leaf (.int .i64 i5)] ++ anyS 90) (noB 96))
theorem d_laws_markInDefS_0_eq (D : Oracle true) (c0 : Fl true) (e0 : List (List (Leaf true))) (i1 i5 : Int) : d_laws_markInDefS_A D (d_laws_markInDefS_0 c0 e0 i1 i5) = branch (decide (i5 < (↑e0.length : Int))) ((D F.laws_markText [.leaf (.int .i64 i1)] []).bind fun (r : SV true × List (List (SV true))) => svLeafK r.fst fun (l : Leaf true) => strK l fun (s : ByteArray) => guarded (decide (0 ≤ i5) && decide (i5 < (↑e0.length : Int)) && sized 10 e0) (if (c0.isSoft = true ∧ softAt (e0.getD i5.toNat []) 0 = true) ∧ ((.leaf (.str s) : SV true)).plain = true ∧ sizeT Tryz.prog 9 = some 1 then (D F.laws_markText [.leaf (.int .i64 (IntKind.i64.wrap (i1 + 1)))] []).bind fun (r : SV true × List (List (SV true))) => svLeafK r.fst fun (l : Leaf true) => strK l fun (s : ByteArray) => guarded (decide (0 ≤ i5) && decide (i5 < (↑e0.length : Int)) && sized 10 e0) (if (c0.isSoft = true ∧ softAt (e0.getD i5.toNat []) 1 = true) ∧ ((.leaf (.str s) : SV true)).plain = true ∧ sizeT Tryz.prog 9 = some 1 then (D F.laws_markText [.leaf (.int .i64 (IntKind.i64.wrap (IntKind.i64.wrap (i1 + 1) + 1)))] []).bind fun (r : SV true × List (List (SV true))) => svLeafK r.fst fun (l : Leaf true) => strK l fun (s : ByteArray) => guarded (decide (0 ≤ i5) && decide (i5 < (↑e0.length : Int)) && sized 10 e0) (if (c0.isSoft = true ∧ softAt (e0.getD i5.toNat []) 2 = true) ∧ ((.leaf (.str s) : SV true)).plain = true ∧ sizeT Tryz.prog 9 = some 1 then (D F.laws_markText [.leaf (.int .i64 (IntKind.i64.wrap (IntKind.i64.wrap (IntKind.i64.wrap (i1 + 1) + 1) + 1)))] []).bind fun (r : SV true × List (List (SV true))) => svLeafK r.fst fun (l : Leaf true) => strK l fun (s : ByteArray) => guarded (decide (0 ≤ i5) && decide (i5 < (↑e0.length : Int)) && sized 10 e0) (if (c0.isSoft = true ∧ softAt (e0.getD i5.toNat []) 3 = true) ∧ ((.leaf (.str s) : SV true)).plain = true ∧ sizeT Tryz.prog 9 = some 1 then guarded (decide (0 ≤ i5) && decide (i5 < (↑e0.length : Int)) && sized 10 e0) (if (c0.isSoft = true ∧ softAt (e0.getD i5.toNat []) 4 = true) ∧ ((.leaf (.bool ((IntKind.i64.wrap (IntKind.i64.wrap (IntKind.i64.wrap (IntKind.i64.wrap (i1 + 1) + 1) + 1) + 1)).tmod 3 == 0)) : SV true)).plain = true ∧ sizeT Tryz.prog 4 = some 1 then guarded (decide (0 ≤ i5) && decide (i5 < (↑e0.length : Int)) && sized 10 e0) (if (c0.isSoft = true ∧ softAt (e0.getD i5.toNat []) 5 = true) ∧ ((.leaf (.int .i64 (IntKind.i64.wrap (IntKind.i64.wrap (IntKind.i64.wrap (IntKind.i64.wrap (IntKind.i64.wrap (i1 + 1) + 1) + 1) + 1) + 1))) : SV true)).plain = true ∧ sizeT Tryz.prog 3 = some 1 then (D F.laws_markText [.leaf (.int .i64 (IntKind.i64.wrap (IntKind.i64.wrap (IntKind.i64.wrap (IntKind.i64.wrap (IntKind.i64.wrap (IntKind.i64.wrap (i1 + 1) + 1) + 1) + 1) + 1) + 1)))] []).bind fun (r : SV true × List (List (SV true))) => svLeafK r.fst fun (l : Leaf true) => strK l fun (s : ByteArray) => guarded (decide (0 ≤ i5) && decide (i5 < (↑e0.length : Int)) && sized 10 e0) (if (c0.isSoft = true ∧ softAt (e0.getD i5.toNat []) 6 = true) ∧ ((.leaf (.str s) : SV true)).plain = true ∧ sizeT Tryz.prog 9 = some 1 then guarded (decide (0 ≤ i5) && decide (i5 < (↑e0.length : Int)) && sized 10 e0) (atK (e0.getD i5.toNat []) 7 fun (l : Leaf true) => slK l fun (c : Fl true) (es : List (List (Leaf true))) => (D F.laws_markValueS [.leaf (.sl c es), .leaf (.int .i64 (IntKind.i64.wrap (IntKind.i64.wrap (IntKind.i64.wrap (IntKind.i64.wrap (IntKind.i64.wrap (IntKind.i64.wrap (IntKind.i64.wrap (i1 + 1) + 1) + 1) + 1) + 1) + 1) + 1)))] []).bind fun (r : SV true × List (List (SV true))) => svLeafK r.fst fun (l : Leaf true) => intK IntKind.i64 l fun (n : Int) => guarded (decide (0 ≤ i5) && decide (i5 < (↑e0.length : Int)) && sized 10 e0) (atK (e0.getD i5.toNat []) 8 fun (l : Leaf true) => slK l fun (c : Fl true) (es : List (List (Leaf true))) => (D F.laws_markStringS [.leaf (.sl c es), .leaf (.int .i64 n)] []).bind fun (r : SV true × List (List (SV true))) => svLeafK r.fst fun (l : Leaf true) => intK IntKind.i64 l fun (n : Int) => guarded (decide (0 ≤ i5) && decide (i5 < (↑e0.length : Int)) && sized 10 e0) (atK (e0.getD i5.toNat []) 9 fun (l : Leaf true) => slK l fun (c : Fl true) (es : List (List (Leaf true))) => (D F.laws_markDirS [.leaf (.sl c es), .leaf (.int .i64 n)] []).bind fun (r : SV true × List (List (SV true))) => svLeafK r.fst fun (l : Leaf true) => intK IntKind.i64 l fun (n : Int) => d_laws_markInDefS_A D (d_laws_markInDefS_0 c0 e0 n (IntKind.i64.wrap (i5 + 1)))))) else none) else none) else none) else none) else none) else none) else none)) (some (.leaf (.int .i64 i1), [])) := by refine (nameF_eq (J := d_laws_markInDefS_A D) (fun _ _ => rfl) [[1, 0, 1, 0]] (d_laws_markInDefS_0 c0 e0 i1 i5)).trans ?_; generalize d_laws_markInDefS_A D = J; revert J; refine id ?_; intro J; kernel_rfl
theorem run_d_laws_markInDefS (D : Oracle true) (c0 : Fl true) (e0 : List (List (Leaf true))) (i1 : Int) : run2V Tryz.prog D Hs limR F.laws_markInDefS [.leaf (.sl c0 e0), .leaf (.int .i64 i1)] [] = d_laws_markInDefS_A D (d_laws_markInDefS_0 c0 e0 i1 0) := by refine (run_names (J := d_laws_markInDefS_A D) (by kernel_rfl) (fun _ _ => rfl) [[1, 0, 1, 0]]).trans ?_; generalize d_laws_markInDefS_A D = J; revert J; refine id ?_; intro J; kernel_rfl
noncomputable def d_laws_markArgS_A (D : Oracle true) (x : List Nat × St true) : Option (SV true × List (List (SV true))) := atF Tryz.prog D Hs F.laws_markArgS x.1 0 x.2
def d_laws_markArgS_0 (c0 : Fl true) (e0 : List (List (Leaf true))) (i1 i5 : Int) : List Nat × St true := ([1, 0, 1, 0], St.mk ([.leaf (.sl c0 e0), .leaf (.int .i64 i1), SV.any, SV.any, SV.any, .leaf (.int .i64 i5)] ++ anyS 48) (noB 54))
theorem d_laws_markArgS_0_eq (D : Oracle true) (c0 : Fl true) (e0 : List (List (Leaf true))) (i1 i5 : Int) : d_laws_markArgS_A D (d_laws_markArgS_0 c0 e0 i1 i5) = branch (decide (i5 < (↑e0.length : Int))) ((D F.laws_markText [.leaf (.int .i64 i1)] []).bind fun (r : SV true × List (List (SV true))) => svLeafK r.fst fun (l : Leaf true) => strK l fun (s : ByteArray) => guarded (decide (0 ≤ i5) && decide (i5 < (↑e0.length : Int)) && sized 5 e0) (if (c0.isSoft = true ∧ softAt (e0.getD i5.toNat []) 0 = true) ∧ ((.leaf (.str s) : SV true)).plain = true ∧ sizeT Tryz.prog 9 = some 1 then guarded (decide (0 ≤ i5) && decide (i5 < (↑e0.length : Int)) && sized 5 e0) (if (c0.isSoft = true ∧ softAt (e0.getD i5.toNat []) 1 = true) ∧ ((.leaf (.int .i64 (IntKind.i64.wrap (i1 + 1))) : SV true)).plain = true ∧ sizeT Tryz.prog 3 = some 1 then (D F.laws_markText [.leaf (.int .i64 (IntKind.i64.wrap (IntKind.i64.wrap (i1 + 1) + 1)))] []).bind fun (r : SV true × List (List (SV true))) => svLeafK r.fst fun (l : Leaf true) => strK l fun (s : ByteArray) => guarded (decide (0 ≤ i5) && decide (i5 < (↑e0.length : Int)) && sized 5 e0) (if (c0.isSoft = true ∧ softAt (e0.getD i5.toNat []) 2 = true) ∧ ((.leaf (.str s) : SV true)).plain = true ∧ sizeT Tryz.prog 9 = some 1 then guarded (decide (0 ≤ i5) && decide (i5 < (↑e0.length : Int)) && sized 5 e0) (atK (e0.getD i5.toNat []) 3 fun (l : Leaf true) => slK l fun (c : Fl true) (es : List (List (Leaf true))) => (D F.laws_markValueS [.leaf (.sl c es), .leaf (.int .i64 (IntKind.i64.wrap (IntKind.i64.wrap (IntKind.i64.wrap (i1 + 1) + 1) + 1)))] []).bind fun (r : SV true × List (List (SV true))) => svLeafK r.fst fun (l : Leaf true) => intK IntKind.i64 l fun (n : Int) => guarded (decide (0 ≤ i5) && decide (i5 < (↑e0.length : Int)) && sized 5 e0) (atK (e0.getD i5.toNat []) 4 fun (l : Leaf true) => slK l fun (c : Fl true) (es : List (List (Leaf true))) => (D F.laws_markStringS [.leaf (.sl c es), .leaf (.int .i64 n)] []).bind fun (r : SV true × List (List (SV true))) => svLeafK r.fst fun (l : Leaf true) => intK IntKind.i64 l fun (n : Int) => d_laws_markArgS_A D (d_laws_markArgS_0 c0 e0 n (IntKind.i64.wrap (i5 + 1))))) else none) else none) else none)) (some (.leaf (.int .i64 i1), [])) := by refine (nameF_eq (J := d_laws_markArgS_A D) (fun _ _ => rfl) [[1, 0, 1, 0]] (d_laws_markArgS_0 c0 e0 i1 i5)).trans ?_; generalize d_laws_markArgS_A D = J; revert J; refine id ?_; intro J; kernel_rfl
theorem run_d_laws_markArgS (D : Oracle true) (c0 : Fl true) (e0 : List (List (Leaf true))) (i1 : Int) : run2V Tryz.prog D Hs limR F.laws_markArgS [.leaf (.sl c0 e0), .leaf (.int .i64 i1)] [] = d_laws_markArgS_A D (d_laws_markArgS_0 c0 e0 i1 0) := by refine (run_names (J := d_laws_markArgS_A D) (by kernel_rfl) (fun _ _ => rfl) [[1, 0, 1, 0]]).trans ?_; generalize d_laws_markArgS_A D = J; revert J; refine id ?_; intro J; kernel_rfl
noncomputable def d_laws_toDefS_A (D : Oracle true) (x : List Nat × St true) : Option (SV true × List (List (SV true))) := atF Tryz.prog D Hs F.laws_toDefS x.1 0 x.2
def d_laws_toDefS_0 (c0 : Fl true) (e0 : List (List (Leaf true))) (n3 : Nat) (i4 : Int) (vx7 : List (SV true)) : List Nat × St true := ([1, 1, 0, 1, 0], St.mk ([.leaf (.sl c0 e0), SV.any, SV.any, SV.bsl 7 11 0 n3, .leaf (.int .i64 i4)] ++ anyS 18) (noB 7 ++ [some vx7] ++ noB 15))
theorem d_laws_toDefS_0_eq (D : Oracle true) (c0 : Fl true) (e0 : List (List (Leaf true))) (n3 : Nat) (i4 : Int) (vx7 : List (SV true)) : d_laws_toDefS_A D (d_laws_toDefS_0 c0 e0 n3 i4 vx7) = branch (decide (i4 < (↑e0.length : Int))) (guarded (decide (0 ≤ i4) && decide (i4 < (↑e0.length : Int)) && sized 11 e0) (bindE (e0.getD i4.toNat []) fun (e : List (Leaf true)) => atK e 0 fun (l : Leaf true) => intK IntKind.i64 l fun (n : Int) => atK e 1 fun (l : Leaf true) => boolK l fun (b : Bool) => atK e 2 fun (l : Leaf true) => strK l fun (s : ByteArray) => atK e 3 fun (l : Leaf true) => strK l fun (s_1 : ByteArray) => atK e 4 fun (l : Leaf true) => slK l fun (c : Fl true) (es : List (List (Leaf true))) => atK e 5 fun (l : Leaf true) => slK l fun (c_1 : Fl true) (es_1 : List (List (Leaf true))) => atK e 6 fun (l : Leaf true) => slK l fun (c_2 : Fl true) (es_2 : List (List (Leaf true))) => atK e 7 fun (l : Leaf true) => slK l fun (c_3 : Fl true) (es_3 : List (List (Leaf true))) => atK e 8 fun (l : Leaf true) => slK l fun (c_4 : Fl true) (es_4 : List (List (Leaf true))) => atK e 9 fun (l : Leaf true) => boolK l fun (b_1 : Bool) => atK e 10 fun (l : Leaf true) => slK l fun (c_5 : Fl true) (es_5 : List (List (Leaf true))) => (D F.laws_toDef [SV.agg [.int .i64 n, Leaf.bool b, Leaf.str s, Leaf.str s_1, Leaf.sl c es, Leaf.sl c_1 es_1, Leaf.sl c_2 es_2, Leaf.sl c_3 es_3, Leaf.sl c_4 es_4, Leaf.bool b_1, Leaf.sl c_5 es_5]] []).bind fun (r : SV true × List (List (SV true))) => svAggK r.fst fun (cs : List (Leaf true)) => guarded (cs.length == 11) (atK cs 0 fun (l : Leaf true) => intK IntKind.i64 l fun (n : Int) => atK cs 1 fun (l : Leaf true) => boolK l fun (b : Bool) => atK cs 2 fun (l : Leaf true) => strK l fun (s : ByteArray) => atK cs 3 fun (l : Leaf true) => strK l fun (s_2 : ByteArray) => atK cs 4 fun (l : Leaf true) => slK l fun (c : Fl true) (es : List (List (Leaf true))) => atK cs 5 fun (l : Leaf true) => slK l fun (c_6 : Fl true) (es_6 : List (List (Leaf true))) => atK cs 6 fun (l : Leaf true) => slK l fun (c_7 : Fl true) (es_7 : List (List (Leaf true))) => atK cs 7 fun (l : Leaf true) => slK l fun (c_8 : Fl true) (es_8 : List (List (Leaf true))) => atK cs 8 fun (l : Leaf true) => slK l fun (c_9 : Fl true) (es_9 : List (List (Leaf true))) => atK cs 9 fun (l : Leaf true) => boolK l fun (b_2 : Bool) => atK cs 10 fun (l : Leaf true) => slK l fun (c_10 : Fl true) (es_10 : List (List (Leaf true))) => guarded (decide (0 ≤ i4) && decide (i4 < (↑n3 : Int))) (guarded (decide ((0 + i4.toNat) * 11 + 11 ≤ vx7.length)) (d_laws_toDefS_A D (d_laws_toDefS_0 c0 e0 n3 (IntKind.i64.wrap (i4 + 1)) (putAt vx7 ((0 + i4.toNat) * 11) [.leaf (.int .i64 n), .leaf (.bool b), .leaf (.str s), .leaf (.str s_2), .leaf (.sl c es), .leaf (.sl c_6 es_6), .leaf (.sl c_7 es_7), .leaf (.sl c_8 es_8), .leaf (.sl c_9 es_9), .leaf (.bool b_2), .leaf (.sl c_10 es_10)]))))))) ((if n3 * 11 ≤ vx7.length ∧ 0 < 11 then match asLeaves (List.take (n3 * 11) vx7) with | some x => some ((fun (l : List (Leaf true)) => .leaf (.sl (Fl.new true) (chunks 11 n3 l))) x) | none => none else none).bind fun (v : SV true) => guarded v.flatT (some (v, []))) := by refine (nameF_eq (J := d_laws_toDefS_A D) (fun _ _ => rfl) [[1, 1, 0, 1, 0]] (d_laws_toDefS_0 c0 e0 n3 i4 vx7)).trans ?_; generalize d_laws_toDefS_A D = J; revert J; refine id ?_; intro J; kernel_rfl
theorem run_d_laws_toDefS (D : Oracle true) (c0 : Fl true) (e0 : List (List (Leaf true))) : run2V Tryz.prog D Hs limR F.laws_toDefS [.leaf (.sl c0 e0)] [] = guarded ((↑e0.length : Int) == (↑e0.length : Int) && decide ((↑e0.length : Int).toNat * 200 ≤ maxBytes) && decide ((↑e0.length : Int).toNat ≤ maxBytes)) (d_laws_toDefS_A D (d_laws_toDefS_0 c0 e0 (decide (0 ≤ (↑e0.length : Int)) && (↑e0.length : Int) == (↑e0.length : Int) && decide ((↑e0.length : Int).toNat * Tryz.prog.types[71].bytes ≤ maxBytes) && decide ((↑e0.length : Int).toNat ≤ maxBytes), (Tryz.prog.types[71].size, (↑e0.length : Int).toNat), List.map SV.leaf (List.replicate (↑e0.length : Int).toNat ((fun (x : List (Leaf true)) => .int .i64 0 :: x) ((fun (x : List (Leaf true)) => Leaf.bool false :: x) ((fun (x : List (Leaf true)) => Leaf.str (ByteArray.mk #[]) :: x) ((fun (x : List (Leaf true)) => Leaf.str (ByteArray.mk #[]) :: x) ((fun (x : List (Leaf true)) => Leaf.sl (Fl.new true) [] :: x) ((fun (x : List (Leaf true)) => Leaf.sl (Fl.new true) [] :: x) ((fun (x : List (Leaf true)) => Leaf.sl (Fl.new true) [] :: x) ((fun (x : List (Leaf true)) => Leaf.sl (Fl.new true) [] :: x) ((fun (x : List (Leaf true)) => Leaf.sl (Fl.new true) [] :: x) ((fun (x : List (Leaf true)) => Leaf.bool false :: x) ((fun (x : List (Leaf true)) => Leaf.sl (Fl.new true) [] :: x) [])))))))))))).flatten).snd.fst.snd 0 (decide (0 ≤ (↑e0.length : Int)) && (↑e0.length : Int) == (↑e0.length : Int) && decide ((↑e0.length : Int).toNat * Tryz.prog.types[71].bytes ≤ maxBytes) && decide ((↑e0.length : Int).toNat ≤ maxBytes), (Tryz.prog.types[71].size, (↑e0.length : Int).toNat), List.map SV.leaf (List.replicate (↑e0.length : Int).toNat ((fun (x : List (Leaf true)) => .int .i64 0 :: x) ((fun (x : List (Leaf true)) => Leaf.bool false :: x) ((fun (x : List (Leaf true)) => Leaf.str (ByteArray.mk #[]) :: x) ((fun (x : List (Leaf true)) => Leaf.str (ByteArray.mk #[]) :: x) ((fun (x : List (Leaf true)) => Leaf.sl (Fl.new true) [] :: x) ((fun (x : List (Leaf true)) => Leaf.sl (Fl.new true) [] :: x) ((fun (x : List (Leaf true)) => Leaf.sl (Fl.new true) [] :: x) ((fun (x : List (Leaf true)) => Leaf.sl (Fl.new true) [] :: x) ((fun (x : List (Leaf true)) => Leaf.sl (Fl.new true) [] :: x) ((fun (x : List (Leaf true)) => Leaf.bool false :: x) ((fun (x : List (Leaf true)) => Leaf.sl (Fl.new true) [] :: x) [])))))))))))).flatten).snd.snd)) := by refine (run_names (J := d_laws_toDefS_A D) (by kernel_rfl) (fun _ _ => rfl) [[1, 1, 0, 1, 0]]).trans ?_; generalize d_laws_toDefS_A D = J; revert J; refine id ?_; intro J; kernel_rfl
noncomputable def d_laws_toRootS_A (D : Oracle true) (x : List Nat × St true) : Option (SV true × List (List (SV true))) := atF Tryz.prog D Hs F.laws_toRootS x.1 0 x.2
def d_laws_toRootS_0 (c0 : Fl true) (e0 : List (List (Leaf true))) (n3 : Nat) (i4 : Int) (vx7 : List (SV true)) : List Nat × St true := ([1, 1, 0, 1, 0], St.mk ([.leaf (.sl c0 e0), SV.any, SV.any, SV.bsl 7 2 0 n3, .leaf (.int .i64 i4)] ++ anyS 18) (noB 7 ++ [some vx7] ++ noB 15))
theorem d_laws_toRootS_0_eq (D : Oracle true) (c0 : Fl true) (e0 : List (List (Leaf true))) (n3 : Nat) (i4 : Int) (vx7 : List (SV true)) : d_laws_toRootS_A D (d_laws_toRootS_0 c0 e0 n3 i4 vx7) = branch (decide (i4 < (↑e0.length : Int))) (guarded (decide (0 ≤ i4) && decide (i4 < (↑e0.length : Int)) && sized 2 e0) (bindE (e0.getD i4.toNat []) fun (e : List (Leaf true)) => atK e 0 fun (l : Leaf true) => intK IntKind.i64 l fun (n : Int) => atK e 1 fun (l : Leaf true) => strK l fun (s : ByteArray) => (D F.laws_toRoot [SV.agg [.int .i64 n, Leaf.str s]] []).bind fun (r : SV true × List (List (SV true))) => svAggK r.fst fun (cs : List (Leaf true)) => guarded (cs.length == 2) (atK cs 0 fun (l : Leaf true) => intK IntKind.i64 l fun (n : Int) => atK cs 1 fun (l : Leaf true) => strK l fun (s : ByteArray) => guarded (decide (0 ≤ i4) && decide (i4 < (↑n3 : Int))) (guarded (decide ((0 + i4.toNat) * 2 + 2 ≤ vx7.length)) (d_laws_toRootS_A D (d_laws_toRootS_0 c0 e0 n3 (IntKind.i64.wrap (i4 + 1)) (putAt vx7 ((0 + i4.toNat) * 2) [.leaf (.int .i64 n), .leaf (.str s)]))))))) ((if n3 * 2 ≤ vx7.length ∧ 0 < 2 then match asLeaves (List.take (n3 * 2) vx7) with | some x => some ((fun (l : List (Leaf true)) => .leaf (.sl (Fl.new true) (chunks 2 n3 l))) x) | none => none else none).bind fun (v : SV true) => guarded v.flatT (some (v, []))) := by refine (nameF_eq (J := d_laws_toRootS_A D) (fun _ _ => rfl) [[1, 1, 0, 1, 0]] (d_laws_toRootS_0 c0 e0 n3 i4 vx7)).trans ?_; generalize d_laws_toRootS_A D = J; revert J; refine id ?_; intro J; kernel_rfl
theorem run_d_laws_toRootS (D : Oracle true) (c0 : Fl true) (e0 : List (List (Leaf true))) : run2V Tryz.prog D Hs limR F.laws_toRootS [.leaf (.sl c0 e0)] [] = guarded ((↑e0.length : Int) == (↑e0.length : Int) && decide ((↑e0.length : Int).toNat * 24 ≤ maxBytes) && decide ((↑e0.length : Int).toNat ≤ maxBytes)) (d_laws_toRootS_A D (d_laws_toRootS_0 c0 e0 (decide (0 ≤ (↑e0.length : Int)) && (↑e0.length : Int) == (↑e0.length : Int) && decide ((↑e0.length : Int).toNat * Tryz.prog.types[185].bytes ≤ maxBytes) && decide ((↑e0.length : Int).toNat ≤ maxBytes), (Tryz.prog.types[185].size, (↑e0.length : Int).toNat), List.map SV.leaf (List.replicate (↑e0.length : Int).toNat ((fun (x : List (Leaf true)) => .int .i64 0 :: x) ((fun (x : List (Leaf true)) => Leaf.str (ByteArray.mk #[]) :: x) []))).flatten).snd.fst.snd 0 (decide (0 ≤ (↑e0.length : Int)) && (↑e0.length : Int) == (↑e0.length : Int) && decide ((↑e0.length : Int).toNat * Tryz.prog.types[185].bytes ≤ maxBytes) && decide ((↑e0.length : Int).toNat ≤ maxBytes), (Tryz.prog.types[185].size, (↑e0.length : Int).toNat), List.map SV.leaf (List.replicate (↑e0.length : Int).toNat ((fun (x : List (Leaf true)) => .int .i64 0 :: x) ((fun (x : List (Leaf true)) => Leaf.str (ByteArray.mk #[]) :: x) []))).flatten).snd.snd)) := by refine (run_names (J := d_laws_toRootS_A D) (by kernel_rfl) (fun _ _ => rfl) [[1, 1, 0, 1, 0]]).trans ?_; generalize d_laws_toRootS_A D = J; revert J; refine id ?_; intro J; kernel_rfl
noncomputable def d_laws_toInDef_A (D : Oracle true) (x : List Nat × St true) : Option (SV true × List (List (SV true))) := atF Tryz.prog D Hs F.laws_toInDef x.1 0 x.2
theorem run_d_laws_toInDef (D : Oracle true) (s0_0 s0_1 s0_2 s0_3 : ByteArray) (b0_4 : Bool) (i0_5 : Int) (s0_6 : ByteArray) (c0_7 : Fl true) (e0_7 : List (List (Leaf true))) (c0_8 : Fl true) (e0_8 : List (List (Leaf true))) (c0_9 : Fl true) (e0_9 : List (List (Leaf true))) : run2V Tryz.prog D Hs limR F.laws_toInDef [SV.agg [Leaf.str s0_0, Leaf.str s0_1, Leaf.str s0_2, Leaf.str s0_3, Leaf.bool b0_4, .int .i64 i0_5, Leaf.str s0_6, Leaf.sl c0_7 e0_7, Leaf.sl c0_8 e0_8, Leaf.sl c0_9 e0_9]] [] = (D F.laws_toType [SV.agg [Leaf.str s0_2, Leaf.str s0_3]] []).bind fun (r : SV true × List (List (SV true))) => svAggK r.fst fun (cs : List (Leaf true)) => guarded (cs.length == 2) (atK cs 0 fun (l : Leaf true) => strK l fun (s : ByteArray) => atK cs 1 fun (l : Leaf true) => strK l fun (s_1 : ByteArray) => (D F.laws_toValue [SV.agg [.int .i64 i0_5, Leaf.str s0_6, Leaf.sl c0_7 e0_7, Leaf.sl c0_8 e0_8]] []).bind fun (r : SV true × List (List (SV true))) => svAggK r.fst fun (cs : List (Leaf true)) => guarded (cs.length == 4) (atK cs 0 fun (l : Leaf true) => intK IntKind.i64 l fun (n : Int) => atK cs 1 fun (l : Leaf true) => strK l fun (s_2 : ByteArray) => atK cs 2 fun (l : Leaf true) => slK l fun (c : Fl true) (es : List (List (Leaf true))) => atK cs 3 fun (l : Leaf true) => slK l fun (c_1 : Fl true) (es_1 : List (List (Leaf true))) => (D F.laws_toDirS [.leaf (.sl c0_9 e0_9)] []).bind fun (r : SV true × List (List (SV true))) => svSlK r.fst fun (c_2 : Fl true) (es_2 : List (List (Leaf true))) => some (SV.agg [Leaf.str s0_0, Leaf.str s0_1, Leaf.str s, Leaf.str s_1, Leaf.bool b0_4, .int .i64 n, Leaf.str s_2, Leaf.sl c es, Leaf.sl c_1 es_1, Leaf.sl c_2 es_2], []))) := by refine (run_names (J := d_laws_toInDef_A D) (by kernel_rfl) (fun _ _ => rfl) []).trans ?_; generalize d_laws_toInDef_A D = J; revert J; refine id ?_; intro J; kernel_rfl
noncomputable def d_laws_toArg_A (D : Oracle true) (x : List Nat × St true) : Option (SV true × List (List (SV true))) := atF Tryz.prog D Hs F.laws_toArg x.1 0 x.2
theorem run_d_laws_toArg (D : Oracle true) (s0_0 : ByteArray) (i0_1 : Int) (s0_2 : ByteArray) (c0_3 : Fl true) (e0_3 : List (List (Leaf true))) (c0_4 : Fl true) (e0_4 : List (List (Leaf true))) : run2V Tryz.prog D Hs limR F.laws_toArg [SV.agg [Leaf.str s0_0, .int .i64 i0_1, Leaf.str s0_2, Leaf.sl c0_3 e0_3, Leaf.sl c0_4 e0_4]] [] = (D F.laws_toValue [SV.agg [.int .i64 i0_1, Leaf.str s0_2, Leaf.sl c0_3 e0_3, Leaf.sl c0_4 e0_4]] []).bind fun (r : SV true × List (List (SV true))) => svAggK r.fst fun (cs : List (Leaf true)) => guarded (cs.length == 4) (atK cs 0 fun (l : Leaf true) => intK IntKind.i64 l fun (n : Int) => atK cs 1 fun (l : Leaf true) => strK l fun (s : ByteArray) => atK cs 2 fun (l : Leaf true) => slK l fun (c : Fl true) (es : List (List (Leaf true))) => atK cs 3 fun (l : Leaf true) => slK l fun (c_1 : Fl true) (es_1 : List (List (Leaf true))) => some (SV.agg [Leaf.str s0_0, .int .i64 n, Leaf.str s, Leaf.sl c es, Leaf.sl c_1 es_1], [])) := by refine (run_names (J := d_laws_toArg_A D) (by kernel_rfl) (fun _ _ => rfl) []).trans ?_; generalize d_laws_toArg_A D = J; revert J; refine id ?_; intro J; kernel_rfl
noncomputable def d_laws_markDefS_A (D : Oracle true) (x : List Nat × St true) : Option (SV true × List (List (SV true))) := atF Tryz.prog D Hs F.laws_markDefS x.1 0 x.2
def d_laws_markDefS_0 (c0 : Fl true) (e0 : List (List (Leaf true))) (i1 i5 : Int) : List Nat × St true := ([1, 0, 1, 0], St.mk ([.leaf (.sl c0 e0), .leaf (.int .i64 i1), SV.any, SV.any, SV.any, .leaf (.int .i64 i5)] ++ anyS 90) (noB 96))
theorem d_laws_markDefS_0_eq (D : Oracle true) (c0 : Fl true) (e0 : List (List (Leaf true))) (i1 i5 : Int) : d_laws_markDefS_A D (d_laws_markDefS_0 c0 e0 i1 i5) = branch (decide (i5 < (↑e0.length : Int))) (guarded (decide (0 ≤ i5) && decide (i5 < (↑e0.length : Int)) && sized 11 e0) (if (c0.isSoft = true ∧ softAt (e0.getD i5.toNat []) 0 = true) ∧ ((.leaf (.int .i64 i1) : SV true)).plain = true ∧ sizeT Tryz.prog 3 = some 1 then guarded (decide (0 ≤ i5) && decide (i5 < (↑e0.length : Int)) && sized 11 e0) (if (c0.isSoft = true ∧ softAt (e0.getD i5.toNat []) 1 = true) ∧ ((.leaf (.bool ((IntKind.i64.wrap (i1 + 1)).tmod 3 == 0)) : SV true)).plain = true ∧ sizeT Tryz.prog 4 = some 1 then (D F.laws_markText [.leaf (.int .i64 (IntKind.i64.wrap (IntKind.i64.wrap (i1 + 1) + 1)))] []).bind fun (r : SV true × List (List (SV true))) => svLeafK r.fst fun (l : Leaf true) => strK l fun (s : ByteArray) => guarded (decide (0 ≤ i5) && decide (i5 < (↑e0.length : Int)) && sized 11 e0) (if (c0.isSoft = true ∧ softAt (e0.getD i5.toNat []) 2 = true) ∧ ((.leaf (.str s) : SV true)).plain = true ∧ sizeT Tryz.prog 9 = some 1 then (D F.laws_markText [.leaf (.int .i64 (IntKind.i64.wrap (IntKind.i64.wrap (IntKind.i64.wrap (i1 + 1) + 1) + 1)))] []).bind fun (r : SV true × List (List (SV true))) => svLeafK r.fst fun (l : Leaf true) => strK l fun (s : ByteArray) => guarded (decide (0 ≤ i5) && decide (i5 < (↑e0.length : Int)) && sized 11 e0) (if (c0.isSoft = true ∧ softAt (e0.getD i5.toNat []) 3 = true) ∧ ((.leaf (.str s) : SV true)).plain = true ∧ sizeT Tryz.prog 9 = some 1 then guarded (decide (0 ≤ i5) && decide (i5 < (↑e0.length : Int)) && sized 11 e0) (atK (e0.getD i5.toNat []) 4 fun (l : Leaf true) => slK l fun (c : Fl true) (es : List (List (Leaf true))) => (D F.laws_markStringS [.leaf (.sl c es), .leaf (.int .i64 (IntKind.i64.wrap (IntKind.i64.wrap (IntKind.i64.wrap (IntKind.i64.wrap (i1 + 1) + 1) + 1) + 1)))] []).bind fun (r : SV true × List (List (SV true))) => svLeafK r.fst fun (l : Leaf true) => intK IntKind.i64 l fun (n : Int) => guarded (decide (0 ≤ i5) && decide (i5 < (↑e0.length : Int)) && sized 11 e0) (atK (e0.getD i5.toNat []) 5 fun (l : Leaf true) => slK l fun (c : Fl true) (es : List (List (Leaf true))) => (D F.laws_markFieldDefS [.leaf (.sl c es), .leaf (.int .i64 n)] []).bind fun (r : SV true × List (List (SV true))) => svLeafK r.fst fun (l : Leaf true) => intK IntKind.i64 l fun (n : Int) => guarded (decide (0 ≤ i5) && decide (i5 < (↑e0.length : Int)) && sized 11 e0) (atK (e0.getD i5.toNat []) 6 fun (l : Leaf true) => slK l fun (c : Fl true) (es : List (List (Leaf true))) => (D F.laws_markInDefS [.leaf (.sl c es), .leaf (.int .i64 n)] []).bind fun (r : SV true × List (List (SV true))) => svLeafK r.fst fun (l : Leaf true) => intK IntKind.i64 l fun (n : Int) => guarded (decide (0 ≤ i5) && decide (i5 < (↑e0.length : Int)) && sized 11 e0) (atK (e0.getD i5.toNat []) 7 fun (l : Leaf true) => slK l fun (c : Fl true) (es : List (List (Leaf true))) => (D F.laws_markEnumDefS [.leaf (.sl c es), .leaf (.int .i64 n)] []).bind fun (r : SV true × List (List (SV true))) => svLeafK r.fst fun (l : Leaf true) => intK IntKind.i64 l fun (n : Int) => guarded (decide (0 ≤ i5) && decide (i5 < (↑e0.length : Int)) && sized 11 e0) (atK (e0.getD i5.toNat []) 8 fun (l : Leaf true) => slK l fun (c : Fl true) (es : List (List (Leaf true))) => (D F.laws_markRootS [.leaf (.sl c es), .leaf (.int .i64 n)] []).bind fun (r : SV true × List (List (SV true))) => svLeafK r.fst fun (l : Leaf true) => intK IntKind.i64 l fun (n : Int) => guarded (decide (0 ≤ i5) && decide (i5 < (↑e0.length : Int)) && sized 11 e0) (if (c0.isSoft = true ∧ softAt (e0.getD i5.toNat []) 9 = true) ∧ ((.leaf (.bool (n.tmod 3 == 0)) : SV true)).plain = true ∧ sizeT Tryz.prog 4 = some 1 then guarded (decide (0 ≤ i5) && decide (i5 < (↑e0.length : Int)) && sized 11 e0) (atK (e0.getD i5.toNat []) 10 fun (l : Leaf true) => slK l fun (c : Fl true) (es : List (List (Leaf true))) => (D F.laws_markDirS [.leaf (.sl c es), .leaf (.int .i64 (IntKind.i64.wrap (n + 1)))] []).bind fun (r : SV true × List (List (SV true))) => svLeafK r.fst fun (l : Leaf true) => intK IntKind.i64 l fun (n : Int) => d_laws_markDefS_A D (d_laws_markDefS_0 c0 e0 n (IntKind.i64.wrap (i5 + 1)))) else none)))))) else none) else none) else none) else none)) (some (.leaf (.int .i64 i1), [])) := by refine (nameF_eq (J := d_laws_markDefS_A D) (fun _ _ => rfl) [[1, 0, 1, 0]] (d_laws_markDefS_0 c0 e0 i1 i5)).trans ?_; generalize d_laws_markDefS_A D = J; revert J; refine id ?_; intro J; kernel_rfl
theorem run_d_laws_markDefS (D : Oracle true) (c0 : Fl true) (e0 : List (List (Leaf true))) (i1 : Int) : run2V Tryz.prog D Hs limR F.laws_markDefS [.leaf (.sl c0 e0), .leaf (.int .i64 i1)] [] = d_laws_markDefS_A D (d_laws_markDefS_0 c0 e0 i1 0) := by refine (run_names (J := d_laws_markDefS_A D) (by kernel_rfl) (fun _ _ => rfl) [[1, 0, 1, 0]]).trans ?_; generalize d_laws_markDefS_A D = J; revert J; refine id ?_; intro J; kernel_rfl
noncomputable def d_laws_markRootS_A (D : Oracle true) (x : List Nat × St true) : Option (SV true × List (List (SV true))) := atF Tryz.prog D Hs F.laws_markRootS x.1 0 x.2
def d_laws_markRootS_0 (c0 : Fl true) (e0 : List (List (Leaf true))) (i1 i5 : Int) : List Nat × St true := ([1, 0, 1, 0], St.mk ([.leaf (.sl c0 e0), .leaf (.int .i64 i1), SV.any, SV.any, SV.any, .leaf (.int .i64 i5)] ++ anyS 22) (noB 28))
theorem d_laws_markRootS_0_eq (D : Oracle true) (c0 : Fl true) (e0 : List (List (Leaf true))) (i1 i5 : Int) : d_laws_markRootS_A D (d_laws_markRootS_0 c0 e0 i1 i5) = branch (decide (i5 < (↑e0.length : Int))) (guarded (decide (0 ≤ i5) && decide (i5 < (↑e0.length : Int)) && sized 2 e0) (if (c0.isSoft = true ∧ softAt (e0.getD i5.toNat []) 0 = true) ∧ ((.leaf (.int .i64 i1) : SV true)).plain = true ∧ sizeT Tryz.prog 3 = some 1 then (D F.laws_markText [.leaf (.int .i64 (IntKind.i64.wrap (i1 + 1)))] []).bind fun (r : SV true × List (List (SV true))) => svLeafK r.fst fun (l : Leaf true) => strK l fun (s : ByteArray) => guarded (decide (0 ≤ i5) && decide (i5 < (↑e0.length : Int)) && sized 2 e0) (if (c0.isSoft = true ∧ softAt (e0.getD i5.toNat []) 1 = true) ∧ ((.leaf (.str s) : SV true)).plain = true ∧ sizeT Tryz.prog 9 = some 1 then d_laws_markRootS_A D (d_laws_markRootS_0 c0 e0 (IntKind.i64.wrap (IntKind.i64.wrap (i1 + 1) + 1)) (IntKind.i64.wrap (i5 + 1))) else none) else none)) (some (.leaf (.int .i64 i1), [])) := by refine (nameF_eq (J := d_laws_markRootS_A D) (fun _ _ => rfl) [[1, 0, 1, 0]] (d_laws_markRootS_0 c0 e0 i1 i5)).trans ?_; generalize d_laws_markRootS_A D = J; revert J; refine id ?_; intro J; kernel_rfl
theorem run_d_laws_markRootS (D : Oracle true) (c0 : Fl true) (e0 : List (List (Leaf true))) (i1 : Int) : run2V Tryz.prog D Hs limR F.laws_markRootS [.leaf (.sl c0 e0), .leaf (.int .i64 i1)] [] = d_laws_markRootS_A D (d_laws_markRootS_0 c0 e0 i1 0) := by refine (run_names (J := d_laws_markRootS_A D) (by kernel_rfl) (fun _ _ => rfl) [[1, 0, 1, 0]]).trans ?_; generalize d_laws_markRootS_A D = J; revert J; refine id ?_; intro J; kernel_rfl
noncomputable def d_laws_markValueS_A (D : Oracle true) (x : List Nat × St true) : Option (SV true × List (List (SV true))) := atF Tryz.prog D Hs F.laws_markValueS x.1 0 x.2
def d_laws_markValueS_0 (c0 : Fl true) (e0 : List (List (Leaf true))) (i1 i5 : Int) : List Nat × St true := ([1, 0, 1, 0], St.mk ([.leaf (.sl c0 e0), .leaf (.int .i64 i1), SV.any, SV.any, SV.any, .leaf (.int .i64 i5)] ++ anyS 36) (noB 42))
theorem d_laws_markValueS_0_eq (D : Oracle true) (c0 : Fl true) (e0 : List (List (Leaf true))) (i1 i5 : Int) : d_laws_markValueS_A D (d_laws_markValueS_0 c0 e0 i1 i5) = branch (decide (i5 < (↑e0.length : Int))) (guarded (decide (0 ≤ i5) && decide (i5 < (↑e0.length : Int)) && sized 4 e0) (if (c0.isSoft = true ∧ softAt (e0.getD i5.toNat []) 0 = true) ∧ ((.leaf (.int .i64 i1) : SV true)).plain = true ∧ sizeT Tryz.prog 3 = some 1 then (D F.laws_markText [.leaf (.int .i64 (IntKind.i64.wrap (i1 + 1)))] []).bind fun (r : SV true × List (List (SV true))) => svLeafK r.fst fun (l : Leaf true) => strK l fun (s : ByteArray) => guarded (decide (0 ≤ i5) && decide (i5 < (↑e0.length : Int)) && sized 4 e0) (if (c0.isSoft = true ∧ softAt (e0.getD i5.toNat []) 1 = true) ∧ ((.leaf (.str s) : SV true)).plain = true ∧ sizeT Tryz.prog 9 = some 1 then guarded (decide (0 ≤ i5) && decide (i5 < (↑e0.length : Int)) && sized 4 e0) (atK (e0.getD i5.toNat []) 2 fun (l : Leaf true) => slK l fun (c : Fl true) (es : List (List (Leaf true))) => (D F.laws_markValueS [.leaf (.sl c es), .leaf (.int .i64 (IntKind.i64.wrap (IntKind.i64.wrap (i1 + 1) + 1)))] []).bind fun (r : SV true × List (List (SV true))) => svLeafK r.fst fun (l : Leaf true) => intK IntKind.i64 l fun (n : Int) => guarded (decide (0 ≤ i5) && decide (i5 < (↑e0.length : Int)) && sized 4 e0) (atK (e0.getD i5.toNat []) 3 fun (l : Leaf true) => slK l fun (c : Fl true) (es : List (List (Leaf true))) => (D F.laws_markStringS [.leaf (.sl c es), .leaf (.int .i64 n)] []).bind fun (r : SV true × List (List (SV true))) => svLeafK r.fst fun (l : Leaf true) => intK IntKind.i64 l fun (n : Int) => d_laws_markValueS_A D (d_laws_markValueS_0 c0 e0 n (IntKind.i64.wrap (i5 + 1))))) else none) else none)) (some (.leaf (.int .i64 i1), [])) := by refine (nameF_eq (J := d_laws_markValueS_A D) (fun _ _ => rfl) [[1, 0, 1, 0]] (d_laws_markValueS_0 c0 e0 i1 i5)).trans ?_; generalize d_laws_markValueS_A D = J; revert J; refine id ?_; intro J; kernel_rfl
theorem run_d_laws_markValueS (D : Oracle true) (c0 : Fl true) (e0 : List (List (Leaf true))) (i1 : Int) : run2V Tryz.prog D Hs limR F.laws_markValueS [.leaf (.sl c0 e0), .leaf (.int .i64 i1)] [] = d_laws_markValueS_A D (d_laws_markValueS_0 c0 e0 i1 0) := by refine (run_names (J := d_laws_markValueS_A D) (by kernel_rfl) (fun _ _ => rfl) [[1, 0, 1, 0]]).trans ?_; generalize d_laws_markValueS_A D = J; revert J; refine id ?_; intro J; kernel_rfl
noncomputable def d_laws_markStringS_A (D : Oracle true) (x : List Nat × St true) : Option (SV true × List (List (SV true))) := atF Tryz.prog D Hs F.laws_markStringS x.1 0 x.2
def d_laws_markStringS_0 (c0 : Fl true) (e0 : List (List (Leaf true))) (i1 i5 : Int) : List Nat × St true := ([1, 0, 1, 0], St.mk ([.leaf (.sl c0 e0), .leaf (.int .i64 i1), SV.any, SV.any, SV.any, .leaf (.int .i64 i5)] ++ anyS 14) (noB 20))
theorem d_laws_markStringS_0_eq (D : Oracle true) (c0 : Fl true) (e0 : List (List (Leaf true))) (i1 i5 : Int) : d_laws_markStringS_A D (d_laws_markStringS_0 c0 e0 i1 i5) = branch (decide (i5 < (↑e0.length : Int))) ((D F.laws_markText [.leaf (.int .i64 i1)] []).bind fun (r : SV true × List (List (SV true))) => svLeafK r.fst fun (l : Leaf true) => strK l fun (s : ByteArray) => guarded (decide (0 ≤ i5) && decide (i5 < (↑e0.length : Int)) && sized 1 e0) (if (c0.isSoft = true ∧ softAt (e0.getD i5.toNat []) 0 = true) ∧ ((.leaf (.str s) : SV true)).plain = true ∧ sizeT Tryz.prog 9 = some 1 then d_laws_markStringS_A D (d_laws_markStringS_0 c0 e0 (IntKind.i64.wrap (i1 + 1)) (IntKind.i64.wrap (i5 + 1))) else none)) (some (.leaf (.int .i64 i1), [])) := by refine (nameF_eq (J := d_laws_markStringS_A D) (fun _ _ => rfl) [[1, 0, 1, 0]] (d_laws_markStringS_0 c0 e0 i1 i5)).trans ?_; generalize d_laws_markStringS_A D = J; revert J; refine id ?_; intro J; kernel_rfl
theorem run_d_laws_markStringS (D : Oracle true) (c0 : Fl true) (e0 : List (List (Leaf true))) (i1 : Int) : run2V Tryz.prog D Hs limR F.laws_markStringS [.leaf (.sl c0 e0), .leaf (.int .i64 i1)] [] = d_laws_markStringS_A D (d_laws_markStringS_0 c0 e0 i1 0) := by refine (run_names (J := d_laws_markStringS_A D) (by kernel_rfl) (fun _ _ => rfl) [[1, 0, 1, 0]]).trans ?_; generalize d_laws_markStringS_A D = J; revert J; refine id ?_; intro J; kernel_rfl
noncomputable def d_laws_markDirS_A (D : Oracle true) (x : List Nat × St true) : Option (SV true × List (List (SV true))) := atF Tryz.prog D Hs F.laws_markDirS x.1 0 x.2
def d_laws_markDirS_0 (c0 : Fl true) (e0 : List (List (Leaf true))) (i1 i5 : Int) : List Nat × St true := ([1, 0, 1, 0], St.mk ([.leaf (.sl c0 e0), .leaf (.int .i64 i1), SV.any, SV.any, SV.any, .leaf (.int .i64 i5)] ++ anyS 22) (noB 28))
theorem d_laws_markDirS_0_eq (D : Oracle true) (c0 : Fl true) (e0 : List (List (Leaf true))) (i1 i5 : Int) : d_laws_markDirS_A D (d_laws_markDirS_0 c0 e0 i1 i5) = branch (decide (i5 < (↑e0.length : Int))) ((D F.laws_markText [.leaf (.int .i64 i1)] []).bind fun (r : SV true × List (List (SV true))) => svLeafK r.fst fun (l : Leaf true) => strK l fun (s : ByteArray) => guarded (decide (0 ≤ i5) && decide (i5 < (↑e0.length : Int)) && sized 2 e0) (if (c0.isSoft = true ∧ softAt (e0.getD i5.toNat []) 0 = true) ∧ ((.leaf (.str s) : SV true)).plain = true ∧ sizeT Tryz.prog 9 = some 1 then guarded (decide (0 ≤ i5) && decide (i5 < (↑e0.length : Int)) && sized 2 e0) (atK (e0.getD i5.toNat []) 1 fun (l : Leaf true) => slK l fun (c : Fl true) (es : List (List (Leaf true))) => (D F.laws_markArgS [.leaf (.sl c es), .leaf (.int .i64 (IntKind.i64.wrap (i1 + 1)))] []).bind fun (r : SV true × List (List (SV true))) => svLeafK r.fst fun (l : Leaf true) => intK IntKind.i64 l fun (n : Int) => d_laws_markDirS_A D (d_laws_markDirS_0 c0 e0 n (IntKind.i64.wrap (i5 + 1)))) else none)) (some (.leaf (.int .i64 i1), [])) := by refine (nameF_eq (J := d_laws_markDirS_A D) (fun _ _ => rfl) [[1, 0, 1, 0]] (d_laws_markDirS_0 c0 e0 i1 i5)).trans ?_; generalize d_laws_markDirS_A D = J; revert J; refine id ?_; intro J; kernel_rfl
theorem run_d_laws_markDirS (D : Oracle true) (c0 : Fl true) (e0 : List (List (Leaf true))) (i1 : Int) : run2V Tryz.prog D Hs limR F.laws_markDirS [.leaf (.sl c0 e0), .leaf (.int .i64 i1)] [] = d_laws_markDirS_A D (d_laws_markDirS_0 c0 e0 i1 0) := by refine (run_names (J := d_laws_markDirS_A D) (by kernel_rfl) (fun _ _ => rfl) [[1, 0, 1, 0]]).trans ?_; generalize d_laws_markDirS_A D = J; revert J; refine id ?_; intro J; kernel_rfl
noncomputable def d_laws_toDef_A (D : Oracle true) (x : List Nat × St true) : Option (SV true × List (List (SV true))) := atF Tryz.prog D Hs F.laws_toDef x.1 0 x.2
theorem run_d_laws_toDef (D : Oracle true) (i0_0 : Int) (b0_1 : Bool) (s0_2 s0_3 : ByteArray) (c0_4 : Fl true) (e0_4 : List (List (Leaf true))) (c0_5 : Fl true) (e0_5 : List (List (Leaf true))) (c0_6 : Fl true) (e0_6 : List (List (Leaf true))) (c0_7 : Fl true) (e0_7 : List (List (Leaf true))) (c0_8 : Fl true) (e0_8 : List (List (Leaf true))) (b0_9 : Bool) (c0_10 : Fl true) (e0_10 : List (List (Leaf true))) : run2V Tryz.prog D Hs limR F.laws_toDef [SV.agg [.int .i64 i0_0, Leaf.bool b0_1, Leaf.str s0_2, Leaf.str s0_3, Leaf.sl c0_4 e0_4, Leaf.sl c0_5 e0_5, Leaf.sl c0_6 e0_6, Leaf.sl c0_7 e0_7, Leaf.sl c0_8 e0_8, Leaf.bool b0_9, Leaf.sl c0_10 e0_10]] [] = (D F.laws_toStringS [.leaf (.sl c0_4 e0_4)] []).bind fun (r : SV true × List (List (SV true))) => svSlK r.fst fun (c : Fl true) (es : List (List (Leaf true))) => (D F.laws_toFieldDefS [.leaf (.sl c0_5 e0_5)] []).bind fun (r : SV true × List (List (SV true))) => svSlK r.fst fun (c_1 : Fl true) (es_1 : List (List (Leaf true))) => (D F.laws_toInDefS [.leaf (.sl c0_6 e0_6)] []).bind fun (r : SV true × List (List (SV true))) => svSlK r.fst fun (c_2 : Fl true) (es_2 : List (List (Leaf true))) => (D F.laws_toEnumDefS [.leaf (.sl c0_7 e0_7)] []).bind fun (r : SV true × List (List (SV true))) => svSlK r.fst fun (c_3 : Fl true) (es_3 : List (List (Leaf true))) => (D F.laws_toRootS [.leaf (.sl c0_8 e0_8)] []).bind fun (r : SV true × List (List (SV true))) => svSlK r.fst fun (c_4 : Fl true) (es_4 : List (List (Leaf true))) => (D F.laws_toDirS [.leaf (.sl c0_10 e0_10)] []).bind fun (r : SV true × List (List (SV true))) => svSlK r.fst fun (c_5 : Fl true) (es_5 : List (List (Leaf true))) => some (SV.agg [.int .i64 i0_0, Leaf.bool b0_1, Leaf.str s0_2, Leaf.str s0_3, Leaf.sl c es, Leaf.sl c_1 es_1, Leaf.sl c_2 es_2, Leaf.sl c_3 es_3, Leaf.sl c_4 es_4, Leaf.bool b0_9, Leaf.sl c_5 es_5], []) := by refine (run_names (J := d_laws_toDef_A D) (by kernel_rfl) (fun _ _ => rfl) []).trans ?_; generalize d_laws_toDef_A D = J; revert J; refine id ?_; intro J; kernel_rfl
noncomputable def d_laws_toRoot_A (D : Oracle true) (x : List Nat × St true) : Option (SV true × List (List (SV true))) := atF Tryz.prog D Hs F.laws_toRoot x.1 0 x.2
theorem run_d_laws_toRoot (D : Oracle true) (i0_0 : Int) (s0_1 : ByteArray) : run2V Tryz.prog D Hs limR F.laws_toRoot [SV.agg [.int .i64 i0_0, Leaf.str s0_1]] [] = some (SV.agg [.int .i64 i0_0, Leaf.str s0_1], []) := by refine (run_names (J := d_laws_toRoot_A D) (by kernel_rfl) (fun _ _ => rfl) []).trans ?_; generalize d_laws_toRoot_A D = J; revert J; refine id ?_; intro J; kernel_rfl
noncomputable def d_laws_toType_A (D : Oracle true) (x : List Nat × St true) : Option (SV true × List (List (SV true))) := atF Tryz.prog D Hs F.laws_toType x.1 0 x.2
theorem run_d_laws_toType (D : Oracle true) (s0_0 s0_1 : ByteArray) : run2V Tryz.prog D Hs limR F.laws_toType [SV.agg [Leaf.str s0_0, Leaf.str s0_1]] [] = some (SV.agg [Leaf.str s0_0, Leaf.str s0_1], []) := by refine (run_names (J := d_laws_toType_A D) (by kernel_rfl) (fun _ _ => rfl) []).trans ?_; generalize d_laws_toType_A D = J; revert J; refine id ?_; intro J; kernel_rfl
noncomputable def d_laws_toValue_A (D : Oracle true) (x : List Nat × St true) : Option (SV true × List (List (SV true))) := atF Tryz.prog D Hs F.laws_toValue x.1 0 x.2
theorem run_d_laws_toValue (D : Oracle true) (i0_0 : Int) (s0_1 : ByteArray) (c0_2 : Fl true) (e0_2 : List (List (Leaf true))) (c0_3 : Fl true) (e0_3 : List (List (Leaf true))) : run2V Tryz.prog D Hs limR F.laws_toValue [SV.agg [.int .i64 i0_0, Leaf.str s0_1, Leaf.sl c0_2 e0_2, Leaf.sl c0_3 e0_3]] [] = (D F.laws_toValueS [.leaf (.sl c0_2 e0_2)] []).bind fun (r : SV true × List (List (SV true))) => svSlK r.fst fun (c : Fl true) (es : List (List (Leaf true))) => (D F.laws_toStringS [.leaf (.sl c0_3 e0_3)] []).bind fun (r : SV true × List (List (SV true))) => svSlK r.fst fun (c_1 : Fl true) (es_1 : List (List (Leaf true))) => some (SV.agg [.int .i64 i0_0, Leaf.str s0_1, Leaf.sl c es, Leaf.sl c_1 es_1], []) := by refine (run_names (J := d_laws_toValue_A D) (by kernel_rfl) (fun _ _ => rfl) []).trans ?_; generalize d_laws_toValue_A D = J; revert J; refine id ?_; intro J; kernel_rfl
noncomputable def d_laws_toDirS_A (D : Oracle true) (x : List Nat × St true) : Option (SV true × List (List (SV true))) := atF Tryz.prog D Hs F.laws_toDirS x.1 0 x.2
def d_laws_toDirS_0 (c0 : Fl true) (e0 : List (List (Leaf true))) (n3 : Nat) (i4 : Int) (vx7 : List (SV true)) : List Nat × St true := ([1, 1, 0, 1, 0], St.mk ([.leaf (.sl c0 e0), SV.any, SV.any, SV.bsl 7 2 0 n3, .leaf (.int .i64 i4)] ++ anyS 18) (noB 7 ++ [some vx7] ++ noB 15))
theorem d_laws_toDirS_0_eq (D : Oracle true) (c0 : Fl true) (e0 : List (List (Leaf true))) (n3 : Nat) (i4 : Int) (vx7 : List (SV true)) : d_laws_toDirS_A D (d_laws_toDirS_0 c0 e0 n3 i4 vx7) = branch (decide (i4 < (↑e0.length : Int))) (guarded (decide (0 ≤ i4) && decide (i4 < (↑e0.length : Int)) && sized 2 e0) (bindE (e0.getD i4.toNat []) fun (e : List (Leaf true)) => atK e 0 fun (l : Leaf true) => strK l fun (s : ByteArray) => atK e 1 fun (l : Leaf true) => slK l fun (c : Fl true) (es : List (List (Leaf true))) => (D F.laws_toDir [SV.agg [Leaf.str s, Leaf.sl c es]] []).bind fun (r : SV true × List (List (SV true))) => svAggK r.fst fun (cs : List (Leaf true)) => guarded (cs.length == 2) (atK cs 0 fun (l : Leaf true) => strK l fun (s : ByteArray) => atK cs 1 fun (l : Leaf true) => slK l fun (c : Fl true) (es : List (List (Leaf true))) => guarded (decide (0 ≤ i4) && decide (i4 < (↑n3 : Int))) (guarded (decide ((0 + i4.toNat) * 2 + 2 ≤ vx7.length)) (d_laws_toDirS_A D (d_laws_toDirS_0 c0 e0 n3 (IntKind.i64.wrap (i4 + 1)) (putAt vx7 ((0 + i4.toNat) * 2) [.leaf (.str s), .leaf (.sl c es)]))))))) ((if n3 * 2 ≤ vx7.length ∧ 0 < 2 then match asLeaves (List.take (n3 * 2) vx7) with | some x => some ((fun (l : List (Leaf true)) => .leaf (.sl (Fl.new true) (chunks 2 n3 l))) x) | none => none else none).bind fun (v : SV true) => guarded v.flatT (some (v, []))) := by refine (nameF_eq (J := d_laws_toDirS_A D) (fun _ _ => rfl) [[1, 1, 0, 1, 0]] (d_laws_toDirS_0 c0 e0 n3 i4 vx7)).trans ?_; generalize d_laws_toDirS_A D = J; revert J; refine id ?_; intro J; kernel_rfl
theorem run_d_laws_toDirS (D : Oracle true) (c0 : Fl true) (e0 : List (List (Leaf true))) : run2V Tryz.prog D Hs limR F.laws_toDirS [.leaf (.sl c0 e0)] [] = guarded ((↑e0.length : Int) == (↑e0.length : Int) && decide ((↑e0.length : Int).toNat * 40 ≤ maxBytes) && decide ((↑e0.length : Int).toNat ≤ maxBytes)) (d_laws_toDirS_A D (d_laws_toDirS_0 c0 e0 (decide (0 ≤ (↑e0.length : Int)) && (↑e0.length : Int) == (↑e0.length : Int) && decide ((↑e0.length : Int).toNat * Tryz.prog.types[139].bytes ≤ maxBytes) && decide ((↑e0.length : Int).toNat ≤ maxBytes), (Tryz.prog.types[139].size, (↑e0.length : Int).toNat), List.map SV.leaf (List.replicate (↑e0.length : Int).toNat ((fun (x : List (Leaf true)) => Leaf.str (ByteArray.mk #[]) :: x) ((fun (x : List (Leaf true)) => Leaf.sl (Fl.new true) [] :: x) []))).flatten).snd.fst.snd 0 (decide (0 ≤ (↑e0.length : Int)) && (↑e0.length : Int) == (↑e0.length : Int) && decide ((↑e0.length : Int).toNat * Tryz.prog.types[139].bytes ≤ maxBytes) && decide ((↑e0.length : Int).toNat ≤ maxBytes), (Tryz.prog.types[139].size, (↑e0.length : Int).toNat), List.map SV.leaf (List.replicate (↑e0.length : Int).toNat ((fun (x : List (Leaf true)) => Leaf.str (ByteArray.mk #[]) :: x) ((fun (x : List (Leaf true)) => Leaf.sl (Fl.new true) [] :: x) []))).flatten).snd.snd)) := by refine (run_names (J := d_laws_toDirS_A D) (by kernel_rfl) (fun _ _ => rfl) [[1, 1, 0, 1, 0]]).trans ?_; generalize d_laws_toDirS_A D = J; revert J; refine id ?_; intro J; kernel_rfl
noncomputable def d_laws_markFieldDefS_A (D : Oracle true) (x : List Nat × St true) : Option (SV true × List (List (SV true))) := atF Tryz.prog D Hs F.laws_markFieldDefS x.1 0 x.2
def d_laws_markFieldDefS_0 (c0 : Fl true) (e0 : List (List (Leaf true))) (i1 i5 : Int) : List Nat × St true := ([1, 0, 1, 0], St.mk ([.leaf (.sl c0 e0), .leaf (.int .i64 i1), SV.any, SV.any, SV.any, .leaf (.int .i64 i5)] ++ anyS 55) (noB 61))
theorem d_laws_markFieldDefS_0_eq (D : Oracle true) (c0 : Fl true) (e0 : List (List (Leaf true))) (i1 i5 : Int) : d_laws_markFieldDefS_A D (d_laws_markFieldDefS_0 c0 e0 i1 i5) = branch (decide (i5 < (↑e0.length : Int))) ((D F.laws_markText [.leaf (.int .i64 i1)] []).bind fun (r : SV true × List (List (SV true))) => svLeafK r.fst fun (l : Leaf true) => strK l fun (s : ByteArray) => guarded (decide (0 ≤ i5) && decide (i5 < (↑e0.length : Int)) && sized 6 e0) (if (c0.isSoft = true ∧ softAt (e0.getD i5.toNat []) 0 = true) ∧ ((.leaf (.str s) : SV true)).plain = true ∧ sizeT Tryz.prog 9 = some 1 then (D F.laws_markText [.leaf (.int .i64 (IntKind.i64.wrap (i1 + 1)))] []).bind fun (r : SV true × List (List (SV true))) => svLeafK r.fst fun (l : Leaf true) => strK l fun (s : ByteArray) => guarded (decide (0 ≤ i5) && decide (i5 < (↑e0.length : Int)) && sized 6 e0) (if (c0.isSoft = true ∧ softAt (e0.getD i5.toNat []) 1 = true) ∧ ((.leaf (.str s) : SV true)).plain = true ∧ sizeT Tryz.prog 9 = some 1 then guarded (decide (0 ≤ i5) && decide (i5 < (↑e0.length : Int)) && sized 6 e0) (atK (e0.getD i5.toNat []) 2 fun (l : Leaf true) => slK l fun (c : Fl true) (es : List (List (Leaf true))) => (D F.laws_markInDefS [.leaf (.sl c es), .leaf (.int .i64 (IntKind.i64.wrap (IntKind.i64.wrap (i1 + 1) + 1)))] []).bind fun (r : SV true × List (List (SV true))) => svLeafK r.fst fun (l : Leaf true) => intK IntKind.i64 l fun (n : Int) => (D F.laws_markText [.leaf (.int .i64 n)] []).bind fun (r : SV true × List (List (SV true))) => svLeafK r.fst fun (l : Leaf true) => strK l fun (s : ByteArray) => guarded (decide (0 ≤ i5) && decide (i5 < (↑e0.length : Int)) && sized 6 e0) (if (c0.isSoft = true ∧ softAt (e0.getD i5.toNat []) 3 = true) ∧ ((.leaf (.str s) : SV true)).plain = true ∧ sizeT Tryz.prog 9 = some 1 then (D F.laws_markText [.leaf (.int .i64 (IntKind.i64.wrap (n + 1)))] []).bind fun (r : SV true × List (List (SV true))) => svLeafK r.fst fun (l : Leaf true) => strK l fun (s : ByteArray) => guarded (decide (0 ≤ i5) && decide (i5 < (↑e0.length : Int)) && sized 6 e0) (if (c0.isSoft = true ∧ softAt (e0.getD i5.toNat []) 4 = true) ∧ ((.leaf (.str s) : SV true)).plain = true ∧ sizeT Tryz.prog 9 = some 1 then guarded (decide (0 ≤ i5) && decide (i5 < (↑e0.length : Int)) && sized 6 e0) (atK (e0.getD i5.toNat []) 5 fun (l : Leaf true) => slK l fun (c : Fl true) (es : List (List (Leaf true))) => (D F.laws_markDirS [.leaf (.sl c es), .leaf (.int .i64 (IntKind.i64.wrap (IntKind.i64.wrap (n + 1) + 1)))] []).bind fun (r : SV true × List (List (SV true))) => svLeafK r.fst fun (l : Leaf true) => intK IntKind.i64 l fun (n : Int) => d_laws_markFieldDefS_A D (d_laws_markFieldDefS_0 c0 e0 n (IntKind.i64.wrap (i5 + 1)))) else none) else none)) else none) else none)) (some (.leaf (.int .i64 i1), [])) := by refine (nameF_eq (J := d_laws_markFieldDefS_A D) (fun _ _ => rfl) [[1, 0, 1, 0]] (d_laws_markFieldDefS_0 c0 e0 i1 i5)).trans ?_; generalize d_laws_markFieldDefS_A D = J; revert J; refine id ?_; intro J; kernel_rfl
theorem run_d_laws_markFieldDefS (D : Oracle true) (c0 : Fl true) (e0 : List (List (Leaf true))) (i1 : Int) : run2V Tryz.prog D Hs limR F.laws_markFieldDefS [.leaf (.sl c0 e0), .leaf (.int .i64 i1)] [] = d_laws_markFieldDefS_A D (d_laws_markFieldDefS_0 c0 e0 i1 0) := by refine (run_names (J := d_laws_markFieldDefS_A D) (by kernel_rfl) (fun _ _ => rfl) [[1, 0, 1, 0]]).trans ?_; generalize d_laws_markFieldDefS_A D = J; revert J; refine id ?_; intro J; kernel_rfl
noncomputable def d_laws_markEnumDefS_A (D : Oracle true) (x : List Nat × St true) : Option (SV true × List (List (SV true))) := atF Tryz.prog D Hs F.laws_markEnumDefS x.1 0 x.2
def d_laws_markEnumDefS_0 (c0 : Fl true) (e0 : List (List (Leaf true))) (i1 i5 : Int) : List Nat × St true := ([1, 0, 1, 0], St.mk ([.leaf (.sl c0 e0), .leaf (.int .i64 i1), SV.any, SV.any, SV.any, .leaf (.int .i64 i5)] ++ anyS 30) (noB 36))
theorem d_laws_markEnumDefS_0_eq (D : Oracle true) (c0 : Fl true) (e0 : List (List (Leaf true))) (i1 i5 : Int) : d_laws_markEnumDefS_A D (d_laws_markEnumDefS_0 c0 e0 i1 i5) = branch (decide (i5 < (↑e0.length : Int))) ((D F.laws_markText [.leaf (.int .i64 i1)] []).bind fun (r : SV true × List (List (SV true))) => svLeafK r.fst fun (l : Leaf true) => strK l fun (s : ByteArray) => guarded (decide (0 ≤ i5) && decide (i5 < (↑e0.length : Int)) && sized 3 e0) (if (c0.isSoft = true ∧ softAt (e0.getD i5.toNat []) 0 = true) ∧ ((.leaf (.str s) : SV true)).plain = true ∧ sizeT Tryz.prog 9 = some 1 then (D F.laws_markText [.leaf (.int .i64 (IntKind.i64.wrap (i1 + 1)))] []).bind fun (r : SV true × List (List (SV true))) => svLeafK r.fst fun (l : Leaf true) => strK l fun (s : ByteArray) => guarded (decide (0 ≤ i5) && decide (i5 < (↑e0.length : Int)) && sized 3 e0) (if (c0.isSoft = true ∧ softAt (e0.getD i5.toNat []) 1 = true) ∧ ((.leaf (.str s) : SV true)).plain = true ∧ sizeT Tryz.prog 9 = some 1 then guarded (decide (0 ≤ i5) && decide (i5 < (↑e0.length : Int)) && sized 3 e0) (atK (e0.getD i5.toNat []) 2 fun (l : Leaf true) => slK l fun (c : Fl true) (es : List (List (Leaf true))) => (D F.laws_markDirS [.leaf (.sl c es), .leaf (.int .i64 (IntKind.i64.wrap (IntKind.i64.wrap (i1 + 1) + 1)))] []).bind fun (r : SV true × List (List (SV true))) => svLeafK r.fst fun (l : Leaf true) => intK IntKind.i64 l fun (n : Int) => d_laws_markEnumDefS_A D (d_laws_markEnumDefS_0 c0 e0 n (IntKind.i64.wrap (i5 + 1)))) else none) else none)) (some (.leaf (.int .i64 i1), [])) := by refine (nameF_eq (J := d_laws_markEnumDefS_A D) (fun _ _ => rfl) [[1, 0, 1, 0]] (d_laws_markEnumDefS_0 c0 e0 i1 i5)).trans ?_; generalize d_laws_markEnumDefS_A D = J; revert J; refine id ?_; intro J; kernel_rfl
theorem run_d_laws_markEnumDefS (D : Oracle true) (c0 : Fl true) (e0 : List (List (Leaf true))) (i1 : Int) : run2V Tryz.prog D Hs limR F.laws_markEnumDefS [.leaf (.sl c0 e0), .leaf (.int .i64 i1)] [] = d_laws_markEnumDefS_A D (d_laws_markEnumDefS_0 c0 e0 i1 0) := by refine (run_names (J := d_laws_markEnumDefS_A D) (by kernel_rfl) (fun _ _ => rfl) [[1, 0, 1, 0]]).trans ?_; generalize d_laws_markEnumDefS_A D = J; revert J; refine id ?_; intro J; kernel_rfl
noncomputable def d_laws_toStringS_A (D : Oracle true) (x : List Nat × St true) : Option (SV true × List (List (SV true))) := atF Tryz.prog D Hs F.laws_toStringS x.1 0 x.2
def d_laws_toStringS_0 (c0 : Fl true) (e0 : List (List (Leaf true))) (n3 : Nat) (i4 : Int) (vx7 : List (SV true)) : List Nat × St true := ([1, 1, 0, 1, 0], St.mk ([.leaf (.sl c0 e0), SV.any, SV.any, SV.bsl 7 1 0 n3, .leaf (.int .i64 i4)] ++ anyS 17) (noB 7 ++ [some vx7] ++ noB 14))
theorem d_laws_toStringS_0_eq (D : Oracle true) (c0 : Fl true) (e0 : List (List (Leaf true))) (n3 : Nat) (i4 : Int) (vx7 : List (SV true)) : d_laws_toStringS_A D (d_laws_toStringS_0 c0 e0 n3 i4 vx7) = branch (decide (i4 < (↑e0.length : Int))) (guarded (decide (0 ≤ i4) && decide (i4 < (↑e0.length : Int)) && sized 1 e0) (atK (e0.getD i4.toNat []) 0 fun (l : Leaf true) => strK l fun (s : ByteArray) => guarded (decide (0 ≤ i4) && decide (i4 < (↑n3 : Int))) (guarded (decide ((0 + i4.toNat) * 1 + 1 ≤ vx7.length)) (d_laws_toStringS_A D (d_laws_toStringS_0 c0 e0 n3 (IntKind.i64.wrap (i4 + 1)) (putAt vx7 ((0 + i4.toNat) * 1) [.leaf (.str s)])))))) ((if n3 * 1 ≤ vx7.length ∧ 0 < 1 then match asLeaves (List.take (n3 * 1) vx7) with | some x => some ((fun (l : List (Leaf true)) => .leaf (.sl (Fl.new true) (chunks 1 n3 l))) x) | none => none else none).bind fun (v : SV true) => guarded v.flatT (some (v, []))) := by refine (nameF_eq (J := d_laws_toStringS_A D) (fun _ _ => rfl) [[1, 1, 0, 1, 0]] (d_laws_toStringS_0 c0 e0 n3 i4 vx7)).trans ?_; generalize d_laws_toStringS_A D = J; revert J; refine id ?_; intro J; kernel_rfl
theorem run_d_laws_toStringS (D : Oracle true) (c0 : Fl true) (e0 : List (List (Leaf true))) : run2V Tryz.prog D Hs limR F.laws_toStringS [.leaf (.sl c0 e0)] [] = guarded ((↑e0.length : Int) == (↑e0.length : Int) && decide ((↑e0.length : Int).toNat * 16 ≤ maxBytes) && decide ((↑e0.length : Int).toNat ≤ maxBytes)) (d_laws_toStringS_A D (d_laws_toStringS_0 c0 e0 (decide (0 ≤ (↑e0.length : Int)) && (↑e0.length : Int) == (↑e0.length : Int) && decide ((↑e0.length : Int).toNat * Tryz.prog.types[9].bytes ≤ maxBytes) && decide ((↑e0.length : Int).toNat ≤ maxBytes), (Tryz.prog.types[9].size, (↑e0.length : Int).toNat), List.map SV.leaf (List.replicate (↑e0.length : Int).toNat ((fun (x : List (Leaf true)) => Leaf.str (ByteArray.mk #[]) :: x) [])).flatten).snd.fst.snd 0 (decide (0 ≤ (↑e0.length : Int)) && (↑e0.length : Int) == (↑e0.length : Int) && decide ((↑e0.length : Int).toNat * Tryz.prog.types[9].bytes ≤ maxBytes) && decide ((↑e0.length : Int).toNat ≤ maxBytes), (Tryz.prog.types[9].size, (↑e0.length : Int).toNat), List.map SV.leaf (List.replicate (↑e0.length : Int).toNat ((fun (x : List (Leaf true)) => Leaf.str (ByteArray.mk #[]) :: x) [])).flatten).snd.snd)) := by refine (run_names (J := d_laws_toStringS_A D) (by kernel_rfl) (fun _ _ => rfl) [[1, 1, 0, 1, 0]]).trans ?_; generalize d_laws_toStringS_A D = J; revert J; refine id ?_; intro J; kernel_rfl
noncomputable def d_laws_toFieldDefS_A (D : Oracle true) (x : List Nat × St true) : Option (SV true × List (List (SV true))) := atF Tryz.prog D Hs F.laws_toFieldDefS x.1 0 x.2
def d_laws_toFieldDefS_0 (c0 : Fl true) (e0 : List (List (Leaf true))) (n3 : Nat) (i4 : Int) (vx7 : List (SV true)) : List Nat × St true := ([1, 1, 0, 1, 0], St.mk ([.leaf (.sl c0 e0), SV.any, SV.any, SV.bsl 7 6 0 n3, .leaf (.int .i64 i4)] ++ anyS 18) (noB 7 ++ [some vx7] ++ noB 15))
theorem d_laws_toFieldDefS_0_eq (D : Oracle true) (c0 : Fl true) (e0 : List (List (Leaf true))) (n3 : Nat) (i4 : Int) (vx7 : List (SV true)) : d_laws_toFieldDefS_A D (d_laws_toFieldDefS_0 c0 e0 n3 i4 vx7) = branch (decide (i4 < (↑e0.length : Int))) (guarded (decide (0 ≤ i4) && decide (i4 < (↑e0.length : Int)) && sized 6 e0) (bindE (e0.getD i4.toNat []) fun (e : List (Leaf true)) => atK e 0 fun (l : Leaf true) => strK l fun (s : ByteArray) => atK e 1 fun (l : Leaf true) => strK l fun (s_1 : ByteArray) => atK e 2 fun (l : Leaf true) => slK l fun (c : Fl true) (es : List (List (Leaf true))) => atK e 3 fun (l : Leaf true) => strK l fun (s_2 : ByteArray) => atK e 4 fun (l : Leaf true) => strK l fun (s_3 : ByteArray) => atK e 5 fun (l : Leaf true) => slK l fun (c_1 : Fl true) (es_1 : List (List (Leaf true))) => (D F.laws_toFieldDef [SV.agg [Leaf.str s, Leaf.str s_1, Leaf.sl c es, Leaf.str s_2, Leaf.str s_3, Leaf.sl c_1 es_1]] []).bind fun (r : SV true × List (List (SV true))) => svAggK r.fst fun (cs : List (Leaf true)) => guarded (cs.length == 6) (atK cs 0 fun (l : Leaf true) => strK l fun (s : ByteArray) => atK cs 1 fun (l : Leaf true) => strK l fun (s_4 : ByteArray) => atK cs 2 fun (l : Leaf true) => slK l fun (c : Fl true) (es : List (List (Leaf true))) => atK cs 3 fun (l : Leaf true) => strK l fun (s_5 : ByteArray) => atK cs 4 fun (l : Leaf true) => strK l fun (s_6 : ByteArray) => atK cs 5 fun (l : Leaf true) => slK l fun (c_2 : Fl true) (es_2 : List (List (Leaf true))) => guarded (decide (0 ≤ i4) && decide (i4 < (↑n3 : Int))) (guarded (decide ((0 + i4.toNat) * 6 + 6 ≤ vx7.length)) (d_laws_toFieldDefS_A D (d_laws_toFieldDefS_0 c0 e0 n3 (IntKind.i64.wrap (i4 + 1)) (putAt vx7 ((0 + i4.toNat) * 6) [.leaf (.str s), .leaf (.str s_4), .leaf (.sl c es), .leaf (.str s_5), .leaf (.str s_6), .leaf (.sl c_2 es_2)]))))))) ((if n3 * 6 ≤ vx7.length ∧ 0 < 6 then match asLeaves (List.take (n3 * 6) vx7) with | some x => some ((fun (l : List (Leaf true)) => .leaf (.sl (Fl.new true) (chunks 6 n3 l))) x) | none => none else none).bind fun (v : SV true) => guarded v.flatT (some (v, []))) := by refine (nameF_eq (J := d_laws_toFieldDefS_A D) (fun _ _ => rfl) [[1, 1, 0, 1, 0]] (d_laws_toFieldDefS_0 c0 e0 n3 i4 vx7)).trans ?_; generalize d_laws_toFieldDefS_A D = J; revert J; refine id ?_; intro J; kernel_rfl
theorem run_d_laws_toFieldDefS (D : Oracle true) (c0 : Fl true) (e0 : List (List (Leaf true))) : run2V Tryz.prog D Hs limR F.laws_toFieldDefS [.leaf (.sl c0 e0)] [] = guarded ((↑e0.length : Int) == (↑e0.length : Int) && decide ((↑e0.length : Int).toNat * 112 ≤ maxBytes) && decide ((↑e0.length : Int).toNat ≤ maxBytes)) (d_laws_toFieldDefS_A D (d_laws_toFieldDefS_0 c0 e0 (decide (0 ≤ (↑e0.length : Int)) && (↑e0.length : Int) == (↑e0.length : Int) && decide ((↑e0.length : Int).toNat * Tryz.prog.types[176].bytes ≤ maxBytes) && decide ((↑e0.length : Int).toNat ≤ maxBytes), (Tryz.prog.types[176].size, (↑e0.length : Int).toNat), List.map SV.leaf (List.replicate (↑e0.length : Int).toNat ((fun (x : List (Leaf true)) => Leaf.str (ByteArray.mk #[]) :: x) ((fun (x : List (Leaf true)) => Leaf.str (ByteArray.mk #[]) :: x) ((fun (x : List (Leaf true)) => Leaf.sl (Fl.new true) [] :: x) ((fun (x : List (Leaf true)) => Leaf.str (ByteArray.mk #[]) :: x) ((fun (x : List (Leaf true)) => Leaf.str (ByteArray.mk #[]) :: x) ((fun (x : List (Leaf true)) => Leaf.sl (Fl.new true) [] :: x) []))))))).flatten).snd.fst.snd 0 (decide (0 ≤ (↑e0.length : Int)) && (↑e0.length : Int) == (↑e0.length : Int) && decide ((↑e0.length : Int).toNat * Tryz.prog.types[176].bytes ≤ maxBytes) && decide ((↑e0.length : Int).toNat ≤ maxBytes), (Tryz.prog.types[176].size, (↑e0.length : Int).toNat), List.map SV.leaf (List.replicate (↑e0.length : Int).toNat ((fun (x : List (Leaf true)) => Leaf.str (ByteArray.mk #[]) :: x) ((fun (x : List (Leaf true)) => Leaf.str (ByteArray.mk #[]) :: x) ((fun (x : List (Leaf true)) => Leaf.sl (Fl.new true) [] :: x) ((fun (x : List (Leaf true)) => Leaf.str (ByteArray.mk #[]) :: x) ((fun (x : List (Leaf true)) => Leaf.str (ByteArray.mk #[]) :: x) ((fun (x : List (Leaf true)) => Leaf.sl (Fl.new true) [] :: x) []))))))).flatten).snd.snd)) := by refine (run_names (J := d_laws_toFieldDefS_A D) (by kernel_rfl) (fun _ _ => rfl) [[1, 1, 0, 1, 0]]).trans ?_; generalize d_laws_toFieldDefS_A D = J; revert J; refine id ?_; intro J; kernel_rfl
noncomputable def d_laws_toEnumDefS_A (D : Oracle true) (x : List Nat × St true) : Option (SV true × List (List (SV true))) := atF Tryz.prog D Hs F.laws_toEnumDefS x.1 0 x.2
def d_laws_toEnumDefS_0 (c0 : Fl true) (e0 : List (List (Leaf true))) (n3 : Nat) (i4 : Int) (vx7 : List (SV true)) : List Nat × St true := ([1, 1, 0, 1, 0], St.mk ([.leaf (.sl c0 e0), SV.any, SV.any, SV.bsl 7 3 0 n3, .leaf (.int .i64 i4)] ++ anyS 18) (noB 7 ++ [some vx7] ++ noB 15))
theorem d_laws_toEnumDefS_0_eq (D : Oracle true) (c0 : Fl true) (e0 : List (List (Leaf true))) (n3 : Nat) (i4 : Int) (vx7 : List (SV true)) : d_laws_toEnumDefS_A D (d_laws_toEnumDefS_0 c0 e0 n3 i4 vx7) = branch (decide (i4 < (↑e0.length : Int))) (guarded (decide (0 ≤ i4) && decide (i4 < (↑e0.length : Int)) && sized 3 e0) (bindE (e0.getD i4.toNat []) fun (e : List (Leaf true)) => atK e 0 fun (l : Leaf true) => strK l fun (s : ByteArray) => atK e 1 fun (l : Leaf true) => strK l fun (s_1 : ByteArray) => atK e 2 fun (l : Leaf true) => slK l fun (c : Fl true) (es : List (List (Leaf true))) => (D F.laws_toEnumDef [SV.agg [Leaf.str s, Leaf.str s_1, Leaf.sl c es]] []).bind fun (r : SV true × List (List (SV true))) => svAggK r.fst fun (cs : List (Leaf true)) => guarded (cs.length == 3) (atK cs 0 fun (l : Leaf true) => strK l fun (s : ByteArray) => atK cs 1 fun (l : Leaf true) => strK l fun (s_2 : ByteArray) => atK cs 2 fun (l : Leaf true) => slK l fun (c : Fl true) (es : List (List (Leaf true))) => guarded (decide (0 ≤ i4) && decide (i4 < (↑n3 : Int))) (guarded (decide ((0 + i4.toNat) * 3 + 3 ≤ vx7.length)) (d_laws_toEnumDefS_A D (d_laws_toEnumDefS_0 c0 e0 n3 (IntKind.i64.wrap (i4 + 1)) (putAt vx7 ((0 + i4.toNat) * 3) [.leaf (.str s), .leaf (.str s_2), .leaf (.sl c es)]))))))) ((if n3 * 3 ≤ vx7.length ∧ 0 < 3 then match asLeaves (List.take (n3 * 3) vx7) with | some x => some ((fun (l : List (Leaf true)) => .leaf (.sl (Fl.new true) (chunks 3 n3 l))) x) | none => none else none).bind fun (v : SV true) => guarded v.flatT (some (v, []))) := by refine (nameF_eq (J := d_laws_toEnumDefS_A D) (fun _ _ => rfl) [[1, 1, 0, 1, 0]] (d_laws_toEnumDefS_0 c0 e0 n3 i4 vx7)).trans ?_; generalize d_laws_toEnumDefS_A D = J; revert J; refine id ?_; intro J; kernel_rfl
theorem run_d_laws_toEnumDefS (D : Oracle true) (c0 : Fl true) (e0 : List (List (Leaf true))) : run2V Tryz.prog D Hs limR F.laws_toEnumDefS [.leaf (.sl c0 e0)] [] = guarded ((↑e0.length : Int) == (↑e0.length : Int) && decide ((↑e0.length : Int).toNat * 56 ≤ maxBytes) && decide ((↑e0.length : Int).toNat ≤ maxBytes)) (d_laws_toEnumDefS_A D (d_laws_toEnumDefS_0 c0 e0 (decide (0 ≤ (↑e0.length : Int)) && (↑e0.length : Int) == (↑e0.length : Int) && decide ((↑e0.length : Int).toNat * Tryz.prog.types[157].bytes ≤ maxBytes) && decide ((↑e0.length : Int).toNat ≤ maxBytes), (Tryz.prog.types[157].size, (↑e0.length : Int).toNat), List.map SV.leaf (List.replicate (↑e0.length : Int).toNat ((fun (x : List (Leaf true)) => Leaf.str (ByteArray.mk #[]) :: x) ((fun (x : List (Leaf true)) => Leaf.str (ByteArray.mk #[]) :: x) ((fun (x : List (Leaf true)) => Leaf.sl (Fl.new true) [] :: x) [])))).flatten).snd.fst.snd 0 (decide (0 ≤ (↑e0.length : Int)) && (↑e0.length : Int) == (↑e0.length : Int) && decide ((↑e0.length : Int).toNat * Tryz.prog.types[157].bytes ≤ maxBytes) && decide ((↑e0.length : Int).toNat ≤ maxBytes), (Tryz.prog.types[157].size, (↑e0.length : Int).toNat), List.map SV.leaf (List.replicate (↑e0.length : Int).toNat ((fun (x : List (Leaf true)) => Leaf.str (ByteArray.mk #[]) :: x) ((fun (x : List (Leaf true)) => Leaf.str (ByteArray.mk #[]) :: x) ((fun (x : List (Leaf true)) => Leaf.sl (Fl.new true) [] :: x) [])))).flatten).snd.snd)) := by refine (run_names (J := d_laws_toEnumDefS_A D) (by kernel_rfl) (fun _ _ => rfl) [[1, 1, 0, 1, 0]]).trans ?_; generalize d_laws_toEnumDefS_A D = J; revert J; refine id ?_; intro J; kernel_rfl
noncomputable def d_laws_toValueS_A (D : Oracle true) (x : List Nat × St true) : Option (SV true × List (List (SV true))) := atF Tryz.prog D Hs F.laws_toValueS x.1 0 x.2
def d_laws_toValueS_0 (c0 : Fl true) (e0 : List (List (Leaf true))) (n3 : Nat) (i4 : Int) (vx7 : List (SV true)) : List Nat × St true := ([1, 1, 0, 1, 0], St.mk ([.leaf (.sl c0 e0), SV.any, SV.any, SV.bsl 7 4 0 n3, .leaf (.int .i64 i4)] ++ anyS 18) (noB 7 ++ [some vx7] ++ noB 15))
theorem d_laws_toValueS_0_eq (D : Oracle true) (c0 : Fl true) (e0 : List (List (Leaf true))) (n3 : Nat) (i4 : Int) (vx7 : List (SV true)) : d_laws_toValueS_A D (d_laws_toValueS_0 c0 e0 n3 i4 vx7) = branch (decide (i4 < (↑e0.length : Int))) (guarded (decide (0 ≤ i4) && decide (i4 < (↑e0.length : Int)) && sized 4 e0) (bindE (e0.getD i4.toNat []) fun (e : List (Leaf true)) => atK e 0 fun (l : Leaf true) => intK IntKind.i64 l fun (n : Int) => atK e 1 fun (l : Leaf true) => strK l fun (s : ByteArray) => atK e 2 fun (l : Leaf true) => slK l fun (c : Fl true) (es : List (List (Leaf true))) => atK e 3 fun (l : Leaf true) => slK l fun (c_1 : Fl true) (es_1 : List (List (Leaf true))) => (D F.laws_toValue [SV.agg [.int .i64 n, Leaf.str s, Leaf.sl c es, Leaf.sl c_1 es_1]] []).bind fun (r : SV true × List (List (SV true))) => svAggK r.fst fun (cs : List (Leaf true)) => guarded (cs.length == 4) (atK cs 0 fun (l : Leaf true) => intK IntKind.i64 l fun (n : Int) => atK cs 1 fun (l : Leaf true) => strK l fun (s : ByteArray) => atK cs 2 fun (l : Leaf true) => slK l fun (c : Fl true) (es : List (List (Leaf true))) => atK cs 3 fun (l : Leaf true) => slK l fun (c_2 : Fl true) (es_2 : List (List (Leaf true))) => guarded (decide (0 ≤ i4) && decide (i4 < (↑n3 : Int))) (guarded (decide ((0 + i4.toNat) * 4 + 4 ≤ vx7.length)) (d_laws_toValueS_A D (d_laws_toValueS_0 c0 e0 n3 (IntKind.i64.wrap (i4 + 1)) (putAt vx7 ((0 + i4.toNat) * 4) [.leaf (.int .i64 n), .leaf (.str s), .leaf (.sl c es), .leaf (.sl c_2 es_2)]))))))) ((if n3 * 4 ≤ vx7.length ∧ 0 < 4 then match asLeaves (List.take (n3 * 4) vx7) with | some x => some ((fun (l : List (Leaf true)) => .leaf (.sl (Fl.new true) (chunks 4 n3 l))) x) | none => none else none).bind fun (v : SV true) => guarded v.flatT (some (v, []))) := by refine (nameF_eq (J := d_laws_toValueS_A D) (fun _ _ => rfl) [[1, 1, 0, 1, 0]] (d_laws_toValueS_0 c0 e0 n3 i4 vx7)).trans ?_; generalize d_laws_toValueS_A D = J; revert J; refine id ?_; intro J; kernel_rfl
theorem run_d_laws_toValueS (D : Oracle true) (c0 : Fl true) (e0 : List (List (Leaf true))) : run2V Tryz.prog D Hs limR F.laws_toValueS [.leaf (.sl c0 e0)] [] = guarded ((↑e0.length : Int) == (↑e0.length : Int) && decide ((↑e0.length : Int).toNat * 72 ≤ maxBytes) && decide ((↑e0.length : Int).toNat ≤ maxBytes)) (d_laws_toValueS_A D (d_laws_toValueS_0 c0 e0 (decide (0 ≤ (↑e0.length : Int)) && (↑e0.length : Int) == (↑e0.length : Int) && decide ((↑e0.length : Int).toNat * Tryz.prog.types[103].bytes ≤ maxBytes) && decide ((↑e0.length : Int).toNat ≤ maxBytes), (Tryz.prog.types[103].size, (↑e0.length : Int).toNat), List.map SV.leaf (List.replicate (↑e0.length : Int).toNat ((fun (x : List (Leaf true)) => .int .i64 0 :: x) ((fun (x : List (Leaf true)) => Leaf.str (ByteArray.mk #[]) :: x) ((fun (x : List (Leaf true)) => Leaf.sl (Fl.new true) [] :: x) ((fun (x : List (Leaf true)) => Leaf.sl (Fl.new true) [] :: x) []))))).flatten).snd.fst.snd 0 (decide (0 ≤ (↑e0.length : Int)) && (↑e0.length : Int) == (↑e0.length : Int) && decide ((↑e0.length : Int).toNat * Tryz.prog.types[103].bytes ≤ maxBytes) && decide ((↑e0.length : Int).toNat ≤ maxBytes), (Tryz.prog.types[103].size, (↑e0.length : Int).toNat), List.map SV.leaf (List.replicate (↑e0.length : Int).toNat ((fun (x : List (Leaf true)) => .int .i64 0 :: x) ((fun (x : List (Leaf true)) => Leaf.str (ByteArray.mk #[]) :: x) ((fun (x : List (Leaf true)) => Leaf.sl (Fl.new true) [] :: x) ((fun (x : List (Leaf true)) => Leaf.sl (Fl.new true) [] :: x) []))))).flatten).snd.snd)) := by refine (run_names (J := d_laws_toValueS_A D) (by kernel_rfl) (fun _ _ => rfl) [[1, 1, 0, 1, 0]]).trans ?_; generalize d_laws_toValueS_A D = J; revert J; refine id ?_; intro J; kernel_rfl
noncomputable def d_laws_toDir_A (D : Oracle true) (x : List Nat × St true) : Option (SV true × List (List (SV true))) := atF Tryz.prog D Hs F.laws_toDir x.1 0 x.2
theorem run_d_laws_toDir (D : Oracle true) (s0_0 : ByteArray) (c0_1 : Fl true) (e0_1 : List (List (Leaf true))) : run2V Tryz.prog D Hs limR F.laws_toDir [SV.agg [Leaf.str s0_0, Leaf.sl c0_1 e0_1]] [] = (D F.laws_toArgS [.leaf (.sl c0_1 e0_1)] []).bind fun (r : SV true × List (List (SV true))) => svSlK r.fst fun (c : Fl true) (es : List (List (Leaf true))) => some (SV.agg [Leaf.str s0_0, Leaf.sl c es], []) := by refine (run_names (J := d_laws_toDir_A D) (by kernel_rfl) (fun _ _ => rfl) []).trans ?_; generalize d_laws_toDir_A D = J; revert J; refine id ?_; intro J; kernel_rfl
noncomputable def d_laws_toFieldDef_A (D : Oracle true) (x : List Nat × St true) : Option (SV true × List (List (SV true))) := atF Tryz.prog D Hs F.laws_toFieldDef x.1 0 x.2
theorem run_d_laws_toFieldDef (D : Oracle true) (s0_0 s0_1 : ByteArray) (c0_2 : Fl true) (e0_2 : List (List (Leaf true))) (s0_3 s0_4 : ByteArray) (c0_5 : Fl true) (e0_5 : List (List (Leaf true))) : run2V Tryz.prog D Hs limR F.laws_toFieldDef [SV.agg [Leaf.str s0_0, Leaf.str s0_1, Leaf.sl c0_2 e0_2, Leaf.str s0_3, Leaf.str s0_4, Leaf.sl c0_5 e0_5]] [] = (D F.laws_toInDefS [.leaf (.sl c0_2 e0_2)] []).bind fun (r : SV true × List (List (SV true))) => svSlK r.fst fun (c : Fl true) (es : List (List (Leaf true))) => (D F.laws_toType [SV.agg [Leaf.str s0_3, Leaf.str s0_4]] []).bind fun (r : SV true × List (List (SV true))) => svAggK r.fst fun (cs : List (Leaf true)) => guarded (cs.length == 2) (atK cs 0 fun (l : Leaf true) => strK l fun (s : ByteArray) => atK cs 1 fun (l : Leaf true) => strK l fun (s_1 : ByteArray) => (D F.laws_toDirS [.leaf (.sl c0_5 e0_5)] []).bind fun (r : SV true × List (List (SV true))) => svSlK r.fst fun (c_1 : Fl true) (es_1 : List (List (Leaf true))) => some (SV.agg [Leaf.str s0_0, Leaf.str s0_1, Leaf.sl c es, Leaf.str s, Leaf.str s_1, Leaf.sl c_1 es_1], [])) := by refine (run_names (J := d_laws_toFieldDef_A D) (by kernel_rfl) (fun _ _ => rfl) []).trans ?_; generalize d_laws_toFieldDef_A D = J; revert J; refine id ?_; intro J; kernel_rfl
noncomputable def d_laws_toEnumDef_A (D : Oracle true) (x : List Nat × St true) : Option (SV true × List (List (SV true))) := atF Tryz.prog D Hs F.laws_toEnumDef x.1 0 x.2
theorem run_d_laws_toEnumDef (D : Oracle true) (s0_0 s0_1 : ByteArray) (c0_2 : Fl true) (e0_2 : List (List (Leaf true))) : run2V Tryz.prog D Hs limR F.laws_toEnumDef [SV.agg [Leaf.str s0_0, Leaf.str s0_1, Leaf.sl c0_2 e0_2]] [] = (D F.laws_toDirS [.leaf (.sl c0_2 e0_2)] []).bind fun (r : SV true × List (List (SV true))) => svSlK r.fst fun (c : Fl true) (es : List (List (Leaf true))) => some (SV.agg [Leaf.str s0_0, Leaf.str s0_1, Leaf.sl c es], []) := by refine (run_names (J := d_laws_toEnumDef_A D) (by kernel_rfl) (fun _ _ => rfl) []).trans ?_; generalize d_laws_toEnumDef_A D = J; revert J; refine id ?_; intro J; kernel_rfl
end Go.Vs
end
section
open Go Go.Vs Go.Proofs
set_option linter.unusedVariables false
set_option linter.unusedSimpArgs false
namespace Go.Vs
/-- The functions whose text is read in the deep mode; of the others the plain mode tells. -/
def keep : FuncId → Bool := fun f => [F.laws_markArgS, F.laws_markDefS, F.laws_markDirS, F.laws_markEnumDefS, F.laws_markFieldDefS, F.laws_markInDefS, F.laws_markRootS, F.laws_markSchema, F.laws_markStringS, F.laws_markValueS, F.laws_toArg, F.laws_toArgS, F.laws_toDef, F.laws_toDefS, F.laws_toDir, F.laws_toDirS, F.laws_toEnumDef, F.laws_toEnumDefS, F.laws_toFieldDef, F.laws_toFieldDefS, F.laws_toInDef, F.laws_toInDefS, F.laws_toRoot, F.laws_toRootS, F.laws_toSchema, F.laws_toStringS, F.laws_toType, F.laws_toValue, F.laws_toValueS].contains f
noncomputable abbrev Dd : Oracle true := den Go.Proofs.Tryz.prog (liftT Dn keep) Hs
theorem dd_of {f : FuncId} {a : List (SV true)} {b : List (List (SV true))} {r : SV true × List (List (SV true))} (hk : keep f = true) (h : run2V Go.Proofs.Tryz.prog Dd Hs limR f a b = some r) : Dd f a b = some r :=
  den_fast (by simp only [liftT, hk]) h
theorem dd_told {f : FuncId} (hk : keep f = false) {a : List (SV true)} {b : List (List (SV true))} {a' : List (SV false)} {b' : List (List (SV false))} {r' : SV false × List (List (SV false))} {r : SV true × List (List (SV true))}
    (h : Dn f a' b' = some r') (ha : a.map (reS er) = a') (hb : b.map (List.map (reS er)) = b') (hr : (reS li r'.1, r'.2.map (List.map (reS li))) = r) : Dd f a b = some r := lift_told hk h ha hb hr
theorem sizeT3 : sizeT Tryz.prog 3 = some 1 := by kernel_rfl
theorem sizeT4 : sizeT Tryz.prog 4 = some 1 := by kernel_rfl
theorem sizeT9 : sizeT Tryz.prog 9 = some 1 := by kernel_rfl
theorem laws_toStringS_from {c : Fl true} {es : List (List (Leaf false))} (hl : es.length ≤ 1048576) (hq : ∀ e ∈ es, IsStr e) : ∀ i : Nat, i ≤ es.length → ∀ z : List (SV true), z.length = (es.length - i) * 1 →
    d_laws_toStringS_A Dd (d_laws_toStringS_0 c (reE (fl c) es) es.length i (rowAt (reE (fl fNew) es) i z)) = some (.leaf (.sl fNew (reE (fl fNew) es)), []) := by
  have hall : ∀ e ∈ reE (fl fNew) es, e.length = 1 := reE_all fun e he => (hq e he).len
  have hN : (reE (fl fNew) es).length = es.length := reE_length es
  have hC : (reE (fl c) es).length = es.length := reE_length es
  have hml : (1048576 : Nat) ≤ maxLen := by decide
  refine upto_ind ?_ ?_
  · intro z hz
    have g1 := row_full (z := z) hall
    have g2 := chunks_flatten hall
    have g3 := rowAt_len (z := z) hall (Nat.le_refl _)
    rw [hN] at g1 g2 g3
    try rw [Nat.mul_one] at g1
    rw [d_laws_toStringS_0_eq]
    simp [g1, g2, g3, hC, SV.flatT, SV.flat, Fl.new]
  · intro i hi ih z hz
    have g3 := rowAt_len (z := z) hall (i := i) (by omega)
    have hp := putAt_row (z := z) hall (i := i) (by omega)
    rw [d_laws_toStringS_0_eq]
    obtain ⟨s, he, hs⟩ := hq _ (List.getElem_mem hi)
    rw [reE_get, he] at hp
    simp only [reL, reF, List.map_cons, List.map_nil] at hp
    simp only [Int.ofNat_lt, hi, hC, decide_true, branch_true, Int.natCast_nonneg, Bool.and_true, Int.toNat_natCast, guarded_true, wrap_upL (Nat.lt_of_lt_of_le hi (Nat.le_trans hl hml)), sized_all (reE_all (φ := fl c) fun e he => (hq e he).len), reE_getD hi]
    rw [he]
    simp only [reL, reF, atK_zero, strK_str]
    have hd' : (i + 1) * 1 ≤ es.length * 1 := Nat.mul_le_mul_right 1 hi
    have hg : (0 + i) * 1 + 1 ≤ (rowAt (reE (fl fNew) es) i z).length := by rw [g3, hz, Nat.sub_mul]; omega
    simp only [hg, decide_true, guarded_true]
    rw [Nat.zero_add, hp]
    exact ih _ (by rw [List.length_drop, hz, Nat.sub_mul, Nat.sub_mul]; omega)
theorem t_laws_toStringS {c : Fl true} {es : List (List (Leaf false))} (hl : es.length ≤ 1048576) (hq : ∀ e ∈ es, IsStr e) : Dd F.laws_toStringS [.leaf (.sl c (reE (fl c) es))] [] = some (.leaf (.sl fNew (reE (fl fNew) es)), []) := by
  apply dd_of rfl
  have hb : maxBytes = 140737488355328 := rfl
  rw [run_d_laws_toStringS]
  have hs : decide (es.length ≤ maxBytes) = true := decide_eq_true (by omega)
  have hs2 : decide (es.length * 16 ≤ maxBytes) = true := decide_eq_true (by omega)
  simp only [reE_length, Int.natCast_nonneg, Int.toNat_natCast, beq_self_eq_true, hs, hs2, decide_true, Bool.and_true, Bool.true_and, guarded_true]
  exact laws_toStringS_from hl hq 0 (Nat.zero_le _) _ (by simp [List.length_flatten])
theorem t_laws_toType {c : Fl true} {ls : List (Leaf false)} (h : IsType ls) : tL ls ≤ 1048576 → Dd F.laws_toType [.agg (reL (fl c) ls)] [] = some (.agg (reL (fl fNew) ls), []) := by
  cases h with
  | mk s0 s1 h0 h1 =>
    intro hb
    apply dd_of rfl
    simp only [reL, reF]
    rw [run_d_laws_toType]
    try simp []
theorem laws_toValueS_from {c : Fl true} {es : List (List (Leaf false))} (hl : es.length ≤ 1048576) (hq : ∀ e ∈ es, IsValue e) (hd : ∀ e ∈ es, Dd F.laws_toValue [.agg (reL (fl c) e)] [] = some (.agg (reL (fl fNew) e), [])) : ∀ i : Nat, i ≤ es.length → ∀ z : List (SV true), z.length = (es.length - i) * 4 →
    d_laws_toValueS_A Dd (d_laws_toValueS_0 c (reE (fl c) es) es.length i (rowAt (reE (fl fNew) es) i z)) = some (.leaf (.sl fNew (reE (fl fNew) es)), []) := by
  have hall : ∀ e ∈ reE (fl fNew) es, e.length = 4 := reE_all fun e he => (hq e he).len
  have hN : (reE (fl fNew) es).length = es.length := reE_length es
  have hC : (reE (fl c) es).length = es.length := reE_length es
  have hml : (1048576 : Nat) ≤ maxLen := by decide
  refine upto_ind ?_ ?_
  · intro z hz
    have g1 := row_full (z := z) hall
    have g2 := chunks_flatten hall
    have g3 := rowAt_len (z := z) hall (Nat.le_refl _)
    rw [hN] at g1 g2 g3
    try rw [Nat.mul_one] at g1
    rw [d_laws_toValueS_0_eq]
    simp [g1, g2, g3, hC, SV.flatT, SV.flat, Fl.new]
  · intro i hi ih z hz
    have g3 := rowAt_len (z := z) hall (i := i) (by omega)
    have hp := putAt_row (z := z) hall (i := i) (by omega)
    rw [d_laws_toValueS_0_eq]
    have hci := hd _ (List.getElem_mem hi)
    obtain ⟨i0, s1, e2, e3, he, h1, h2, q2, h3, q3⟩ := (hq _ (List.getElem_mem hi)).ex
    rw [reE_get, he] at hp
    simp only [reL, reF, List.map_cons, List.map_nil] at hp
    simp only [Int.ofNat_lt, hi, hC, decide_true, branch_true, Int.natCast_nonneg, Bool.and_true, Int.toNat_natCast, guarded_true, wrap_upL (Nat.lt_of_lt_of_le hi (Nat.le_trans hl hml)), sized_all (reE_all (φ := fl c) fun e he => (hq e he).len), reE_getD hi]
    rw [he] at hci ⊢
    simp only [reL, reF] at hci
    simp only [reL, reF, bindE_eq, atK_zero, atK_succ, intK_int, strK_str, boolK_bool, slK_sl, hci, Option.bind_some, svAggK_agg, List.length_cons, List.length_nil, beq_self_eq_true, Nat.reduceAdd, Nat.reduceBEq, guarded_true]
    have hd' : (i + 1) * 4 ≤ es.length * 4 := Nat.mul_le_mul_right 4 hi
    have hg : (0 + i) * 4 + 4 ≤ (rowAt (reE (fl fNew) es) i z).length := by rw [g3, hz, Nat.sub_mul]; omega
    simp only [hg, decide_true, guarded_true]
    rw [Nat.zero_add, hp]
    exact ih _ (by rw [List.length_drop, hz, Nat.sub_mul, Nat.sub_mul]; omega)
theorem t_laws_toValueS_of {c : Fl true} {es : List (List (Leaf false))} (hl : es.length ≤ 1048576) (hq : ∀ e ∈ es, IsValue e) (hd : ∀ e ∈ es, Dd F.laws_toValue [.agg (reL (fl c) e)] [] = some (.agg (reL (fl fNew) e), [])) : Dd F.laws_toValueS [.leaf (.sl c (reE (fl c) es))] [] = some (.leaf (.sl fNew (reE (fl fNew) es)), []) := by
  apply dd_of rfl
  have hb : maxBytes = 140737488355328 := rfl
  rw [run_d_laws_toValueS]
  have hs : decide (es.length ≤ maxBytes) = true := decide_eq_true (by omega)
  have hs2 : decide (es.length * 72 ≤ maxBytes) = true := decide_eq_true (by omega)
  simp only [reE_length, Int.natCast_nonneg, Int.toNat_natCast, beq_self_eq_true, hs, hs2, decide_true, Bool.and_true, Bool.true_and, guarded_true]
  exact laws_toValueS_from hl hq hd 0 (Nat.zero_le _) _ (by simp [List.length_flatten])
theorem t_laws_toValue {c : Fl true} {ls : List (Leaf false)} (h : IsValue ls) : tL ls ≤ 1048576 → Dd F.laws_toValue [.agg (reL (fl c) ls)] [] = some (.agg (reL (fl fNew) ls), []) := by
  induction h with
  | mk i0 s1 e2 e3 h1 h2 q2 h3 q3 ih2 =>
    intro hb
    apply dd_of rfl
    simp only [reL, reF]
    rw [run_d_laws_toValue]
    have c2 := t_laws_toValueS_of (c := c) (show e2.length ≤ 1048576 by simp only [tL, tF] at hb; omega) q2 fun e he => ih2 e he (by have := tE_mem he; simp only [tL, tF] at hb; omega)
    have c3 := t_laws_toStringS (c := c) (show e3.length ≤ 1048576 by simp only [tL, tF] at hb; omega) q3
    try simp [c2, c3]
theorem t_laws_toValueS {c : Fl true} {es : List (List (Leaf false))} (hb : es.length + tE es ≤ 1048576) (hq : ∀ e ∈ es, IsValue e) : Dd F.laws_toValueS [.leaf (.sl c (reE (fl c) es))] [] = some (.leaf (.sl fNew (reE (fl fNew) es)), []) := t_laws_toValueS_of (by omega) hq fun e he => t_laws_toValue (hq e he) (by have := tE_mem he; omega)
theorem laws_toArgS_from {c : Fl true} {es : List (List (Leaf false))} (hl : es.length ≤ 1048576) (hq : ∀ e ∈ es, IsArg e) (hd : ∀ e ∈ es, Dd F.laws_toArg [.agg (reL (fl c) e)] [] = some (.agg (reL (fl fNew) e), [])) : ∀ i : Nat, i ≤ es.length → ∀ z : List (SV true), z.length = (es.length - i) * 5 →
    d_laws_toArgS_A Dd (d_laws_toArgS_0 c (reE (fl c) es) es.length i (rowAt (reE (fl fNew) es) i z)) = some (.leaf (.sl fNew (reE (fl fNew) es)), []) := by
  have hall : ∀ e ∈ reE (fl fNew) es, e.length = 5 := reE_all fun e he => (hq e he).len
  have hN : (reE (fl fNew) es).length = es.length := reE_length es
  have hC : (reE (fl c) es).length = es.length := reE_length es
  have hml : (1048576 : Nat) ≤ maxLen := by decide
  refine upto_ind ?_ ?_
  · intro z hz
    have g1 := row_full (z := z) hall
    have g2 := chunks_flatten hall
    have g3 := rowAt_len (z := z) hall (Nat.le_refl _)
    rw [hN] at g1 g2 g3
    try rw [Nat.mul_one] at g1
    rw [d_laws_toArgS_0_eq]
    simp [g1, g2, g3, hC, SV.flatT, SV.flat, Fl.new]
  · intro i hi ih z hz
    have g3 := rowAt_len (z := z) hall (i := i) (by omega)
    have hp := putAt_row (z := z) hall (i := i) (by omega)
    rw [d_laws_toArgS_0_eq]
    have hci := hd _ (List.getElem_mem hi)
    obtain ⟨s0, i1, s2, e3, e4, he, h0, h2, h3, q3, h4, q4⟩ := (hq _ (List.getElem_mem hi)).ex
    rw [reE_get, he] at hp
    simp only [reL, reF, List.map_cons, List.map_nil] at hp
    simp only [Int.ofNat_lt, hi, hC, decide_true, branch_true, Int.natCast_nonneg, Bool.and_true, Int.toNat_natCast, guarded_true, wrap_upL (Nat.lt_of_lt_of_le hi (Nat.le_trans hl hml)), sized_all (reE_all (φ := fl c) fun e he => (hq e he).len), reE_getD hi]
    rw [he] at hci ⊢
    simp only [reL, reF] at hci
    simp only [reL, reF, bindE_eq, atK_zero, atK_succ, intK_int, strK_str, boolK_bool, slK_sl, hci, Option.bind_some, svAggK_agg, List.length_cons, List.length_nil, beq_self_eq_true, Nat.reduceAdd, Nat.reduceBEq, guarded_true]
    have hd' : (i + 1) * 5 ≤ es.length * 5 := Nat.mul_le_mul_right 5 hi
    have hg : (0 + i) * 5 + 5 ≤ (rowAt (reE (fl fNew) es) i z).length := by rw [g3, hz, Nat.sub_mul]; omega
    simp only [hg, decide_true, guarded_true]
    rw [Nat.zero_add, hp]
    exact ih _ (by rw [List.length_drop, hz, Nat.sub_mul, Nat.sub_mul]; omega)
theorem t_laws_toArgS_of {c : Fl true} {es : List (List (Leaf false))} (hl : es.length ≤ 1048576) (hq : ∀ e ∈ es, IsArg e) (hd : ∀ e ∈ es, Dd F.laws_toArg [.agg (reL (fl c) e)] [] = some (.agg (reL (fl fNew) e), [])) : Dd F.laws_toArgS [.leaf (.sl c (reE (fl c) es))] [] = some (.leaf (.sl fNew (reE (fl fNew) es)), []) := by
  apply dd_of rfl
  have hb : maxBytes = 140737488355328 := rfl
  rw [run_d_laws_toArgS]
  have hs : decide (es.length ≤ maxBytes) = true := decide_eq_true (by omega)
  have hs2 : decide (es.length * 88 ≤ maxBytes) = true := decide_eq_true (by omega)
  simp only [reE_length, Int.natCast_nonneg, Int.toNat_natCast, beq_self_eq_true, hs, hs2, decide_true, Bool.and_true, Bool.true_and, guarded_true]
  exact laws_toArgS_from hl hq hd 0 (Nat.zero_le _) _ (by simp [List.length_flatten])
theorem t_laws_toArg {c : Fl true} {ls : List (Leaf false)} (h : IsArg ls) : tL ls ≤ 1048576 → Dd F.laws_toArg [.agg (reL (fl c) ls)] [] = some (.agg (reL (fl fNew) ls), []) := by
  cases h with
  | mk s0 i1 s2 e3 e4 h0 h2 h3 q3 h4 q4 =>
    intro hb
    apply dd_of rfl
    simp only [reL, reF]
    rw [run_d_laws_toArg]
    have c1 := t_laws_toValue (c := c) (.mk i1 s2 e3 e4 h2 h3 q3 h4 q4) (by simp only [tL, tF] at hb ⊢; omega)
    simp only [reL, reF] at c1
    try simp [c1]
theorem t_laws_toArgS {c : Fl true} {es : List (List (Leaf false))} (hb : es.length + tE es ≤ 1048576) (hq : ∀ e ∈ es, IsArg e) : Dd F.laws_toArgS [.leaf (.sl c (reE (fl c) es))] [] = some (.leaf (.sl fNew (reE (fl fNew) es)), []) := t_laws_toArgS_of (by omega) hq fun e he => t_laws_toArg (hq e he) (by have := tE_mem he; omega)
theorem laws_toDirS_from {c : Fl true} {es : List (List (Leaf false))} (hl : es.length ≤ 1048576) (hq : ∀ e ∈ es, IsDir e) (hd : ∀ e ∈ es, Dd F.laws_toDir [.agg (reL (fl c) e)] [] = some (.agg (reL (fl fNew) e), [])) : ∀ i : Nat, i ≤ es.length → ∀ z : List (SV true), z.length = (es.length - i) * 2 →
    d_laws_toDirS_A Dd (d_laws_toDirS_0 c (reE (fl c) es) es.length i (rowAt (reE (fl fNew) es) i z)) = some (.leaf (.sl fNew (reE (fl fNew) es)), []) := by
  have hall : ∀ e ∈ reE (fl fNew) es, e.length = 2 := reE_all fun e he => (hq e he).len
  have hN : (reE (fl fNew) es).length = es.length := reE_length es
  have hC : (reE (fl c) es).length = es.length := reE_length es
  have hml : (1048576 : Nat) ≤ maxLen := by decide
  refine upto_ind ?_ ?_
  · intro z hz
    have g1 := row_full (z := z) hall
    have g2 := chunks_flatten hall
    have g3 := rowAt_len (z := z) hall (Nat.le_refl _)
    rw [hN] at g1 g2 g3
    try rw [Nat.mul_one] at g1
    rw [d_laws_toDirS_0_eq]
    simp [g1, g2, g3, hC, SV.flatT, SV.flat, Fl.new]
  · intro i hi ih z hz
    have g3 := rowAt_len (z := z) hall (i := i) (by omega)
    have hp := putAt_row (z := z) hall (i := i) (by omega)
    rw [d_laws_toDirS_0_eq]
    have hci := hd _ (List.getElem_mem hi)
    obtain ⟨s0, e1, he, h0, h1, q1⟩ := (hq _ (List.getElem_mem hi)).ex
    rw [reE_get, he] at hp
    simp only [reL, reF, List.map_cons, List.map_nil] at hp
    simp only [Int.ofNat_lt, hi, hC, decide_true, branch_true, Int.natCast_nonneg, Bool.and_true, Int.toNat_natCast, guarded_true, wrap_upL (Nat.lt_of_lt_of_le hi (Nat.le_trans hl hml)), sized_all (reE_all (φ := fl c) fun e he => (hq e he).len), reE_getD hi]
    rw [he] at hci ⊢
    simp only [reL, reF] at hci
    simp only [reL, reF, bindE_eq, atK_zero, atK_succ, intK_int, strK_str, boolK_bool, slK_sl, hci, Option.bind_some, svAggK_agg, List.length_cons, List.length_nil, beq_self_eq_true, Nat.reduceAdd, Nat.reduceBEq, guarded_true]
    have hd' : (i + 1) * 2 ≤ es.length * 2 := Nat.mul_le_mul_right 2 hi
    have hg : (0 + i) * 2 + 2 ≤ (rowAt (reE (fl fNew) es) i z).length := by rw [g3, hz, Nat.sub_mul]; omega
    simp only [hg, decide_true, guarded_true]
    rw [Nat.zero_add, hp]
    exact ih _ (by rw [List.length_drop, hz, Nat.sub_mul, Nat.sub_mul]; omega)
theorem t_laws_toDirS_of {c : Fl true} {es : List (List (Leaf false))} (hl : es.length ≤ 1048576) (hq : ∀ e ∈ es, IsDir e) (hd : ∀ e ∈ es, Dd F.laws_toDir [.agg (reL (fl c) e)] [] = some (.agg (reL (fl fNew) e), [])) : Dd F.laws_toDirS [.leaf (.sl c (reE (fl c) es))] [] = some (.leaf (.sl fNew (reE (fl fNew) es)), []) := by
  apply dd_of rfl
  have hb : maxBytes = 140737488355328 := rfl
  rw [run_d_laws_toDirS]
  have hs : decide (es.length ≤ maxBytes) = true := decide_eq_true (by omega)
  have hs2 : decide (es.length * 40 ≤ maxBytes) = true := decide_eq_true (by omega)
  simp only [reE_length, Int.natCast_nonneg, Int.toNat_natCast, beq_self_eq_true, hs, hs2, decide_true, Bool.and_true, Bool.true_and, guarded_true]
  exact laws_toDirS_from hl hq hd 0 (Nat.zero_le _) _ (by simp [List.length_flatten])
theorem t_laws_toDir {c : Fl true} {ls : List (Leaf false)} (h : IsDir ls) : tL ls ≤ 1048576 → Dd F.laws_toDir [.agg (reL (fl c) ls)] [] = some (.agg (reL (fl fNew) ls), []) := by
  cases h with
  | mk s0 e1 h0 h1 q1 =>
    intro hb
    apply dd_of rfl
    simp only [reL, reF]
    rw [run_d_laws_toDir]
    have c1 := t_laws_toArgS (c := c) (show e1.length + tE e1 ≤ 1048576 by simp only [tL, tF] at hb; omega) q1
    try simp [c1]
theorem t_laws_toDirS {c : Fl true} {es : List (List (Leaf false))} (hb : es.length + tE es ≤ 1048576) (hq : ∀ e ∈ es, IsDir e) : Dd F.laws_toDirS [.leaf (.sl c (reE (fl c) es))] [] = some (.leaf (.sl fNew (reE (fl fNew) es)), []) := t_laws_toDirS_of (by omega) hq fun e he => t_laws_toDir (hq e he) (by have := tE_mem he; omega)
theorem laws_toInDefS_from {c : Fl true} {es : List (List (Leaf false))} (hl : es.length ≤ 1048576) (hq : ∀ e ∈ es, IsInDef e) (hd : ∀ e ∈ es, Dd F.laws_toInDef [.agg (reL (fl c) e)] [] = some (.agg (reL (fl fNew) e), [])) : ∀ i : Nat, i ≤ es.length → ∀ z : List (SV true), z.length = (es.length - i) * 10 →
    d_laws_toInDefS_A Dd (d_laws_toInDefS_0 c (reE (fl c) es) es.length i (rowAt (reE (fl fNew) es) i z)) = some (.leaf (.sl fNew (reE (fl fNew) es)), []) := by
  have hall : ∀ e ∈ reE (fl fNew) es, e.length = 10 := reE_all fun e he => (hq e he).len
  have hN : (reE (fl fNew) es).length = es.length := reE_length es
  have hC : (reE (fl c) es).length = es.length := reE_length es
  have hml : (1048576 : Nat) ≤ maxLen := by decide
  refine upto_ind ?_ ?_
  · intro z hz
    have g1 := row_full (z := z) hall
    have g2 := chunks_flatten hall
    have g3 := rowAt_len (z := z) hall (Nat.le_refl _)
    rw [hN] at g1 g2 g3
    try rw [Nat.mul_one] at g1
    rw [d_laws_toInDefS_0_eq]
    simp [g1, g2, g3, hC, SV.flatT, SV.flat, Fl.new]
  · intro i hi ih z hz
    have g3 := rowAt_len (z := z) hall (i := i) (by omega)
    have hp := putAt_row (z := z) hall (i := i) (by omega)
    rw [d_laws_toInDefS_0_eq]
    have hci := hd _ (List.getElem_mem hi)
    obtain ⟨s0, s1, s2, s3, b4, i5, s6, e7, e8, e9, he, h0, h1, h2, h3, h6, h7, q7, h8, q8, h9, q9⟩ := (hq _ (List.getElem_mem hi)).ex
    rw [reE_get, he] at hp
    simp only [reL, reF, List.map_cons, List.map_nil] at hp
    simp only [Int.ofNat_lt, hi, hC, decide_true, branch_true, Int.natCast_nonneg, Bool.and_true, Int.toNat_natCast, guarded_true, wrap_upL (Nat.lt_of_lt_of_le hi (Nat.le_trans hl hml)), sized_all (reE_all (φ := fl c) fun e he => (hq e he).len), reE_getD hi]
    rw [he] at hci ⊢
    simp only [reL, reF] at hci
    simp only [reL, reF, bindE_eq, atK_zero, atK_succ, intK_int, strK_str, boolK_bool, slK_sl, hci, Option.bind_some, svAggK_agg, List.length_cons, List.length_nil, beq_self_eq_true, Nat.reduceAdd, Nat.reduceBEq, guarded_true]
    have hd' : (i + 1) * 10 ≤ es.length * 10 := Nat.mul_le_mul_right 10 hi
    have hg : (0 + i) * 10 + 10 ≤ (rowAt (reE (fl fNew) es) i z).length := by rw [g3, hz, Nat.sub_mul]; omega
    simp only [hg, decide_true, guarded_true]
    rw [Nat.zero_add, hp]
    exact ih _ (by rw [List.length_drop, hz, Nat.sub_mul, Nat.sub_mul]; omega)
theorem t_laws_toInDefS_of {c : Fl true} {es : List (List (Leaf false))} (hl : es.length ≤ 1048576) (hq : ∀ e ∈ es, IsInDef e) (hd : ∀ e ∈ es, Dd F.laws_toInDef [.agg (reL (fl c) e)] [] = some (.agg (reL (fl fNew) e), [])) : Dd F.laws_toInDefS [.leaf (.sl c (reE (fl c) es))] [] = some (.leaf (.sl fNew (reE (fl fNew) es)), []) := by
  apply dd_of rfl
  have hb : maxBytes = 140737488355328 := rfl
  rw [run_d_laws_toInDefS]
  have hs : decide (es.length ≤ maxBytes) = true := decide_eq_true (by omega)
  have hs2 : decide (es.length * 168 ≤ maxBytes) = true := decide_eq_true (by omega)
  simp only [reE_length, Int.natCast_nonneg, Int.toNat_natCast, beq_self_eq_true, hs, hs2, decide_true, Bool.and_true, Bool.true_and, guarded_true]
  exact laws_toInDefS_from hl hq hd 0 (Nat.zero_le _) _ (by simp [List.length_flatten])
theorem t_laws_toInDef {c : Fl true} {ls : List (Leaf false)} (h : IsInDef ls) : tL ls ≤ 1048576 → Dd F.laws_toInDef [.agg (reL (fl c) ls)] [] = some (.agg (reL (fl fNew) ls), []) := by
  cases h with
  | mk s0 s1 s2 s3 b4 i5 s6 e7 e8 e9 h0 h1 h2 h3 h6 h7 q7 h8 q8 h9 q9 =>
    intro hb
    apply dd_of rfl
    simp only [reL, reF]
    rw [run_d_laws_toInDef]
    have c2 := t_laws_toType (c := c) (.mk s2 s3 h2 h3) (by simp only [tL, tF] at hb ⊢; omega)
    simp only [reL, reF] at c2
    have c5 := t_laws_toValue (c := c) (.mk i5 s6 e7 e8 h6 h7 q7 h8 q8) (by simp only [tL, tF] at hb ⊢; omega)
    simp only [reL, reF] at c5
    have c9 := t_laws_toDirS (c := c) (show e9.length + tE e9 ≤ 1048576 by simp only [tL, tF] at hb; omega) q9
    try simp [c2, c5, c9]
theorem t_laws_toInDefS {c : Fl true} {es : List (List (Leaf false))} (hb : es.length + tE es ≤ 1048576) (hq : ∀ e ∈ es, IsInDef e) : Dd F.laws_toInDefS [.leaf (.sl c (reE (fl c) es))] [] = some (.leaf (.sl fNew (reE (fl fNew) es)), []) := t_laws_toInDefS_of (by omega) hq fun e he => t_laws_toInDef (hq e he) (by have := tE_mem he; omega)
theorem laws_toFieldDefS_from {c : Fl true} {es : List (List (Leaf false))} (hl : es.length ≤ 1048576) (hq : ∀ e ∈ es, IsFieldDef e) (hd : ∀ e ∈ es, Dd F.laws_toFieldDef [.agg (reL (fl c) e)] [] = some (.agg (reL (fl fNew) e), [])) : ∀ i : Nat, i ≤ es.length → ∀ z : List (SV true), z.length = (es.length - i) * 6 →
    d_laws_toFieldDefS_A Dd (d_laws_toFieldDefS_0 c (reE (fl c) es) es.length i (rowAt (reE (fl fNew) es) i z)) = some (.leaf (.sl fNew (reE (fl fNew) es)), []) := by
  have hall : ∀ e ∈ reE (fl fNew) es, e.length = 6 := reE_all fun e he => (hq e he).len
  have hN : (reE (fl fNew) es).length = es.length := reE_length es
  have hC : (reE (fl c) es).length = es.length := reE_length es
  have hml : (1048576 : Nat) ≤ maxLen := by decide
  refine upto_ind ?_ ?_
  · intro z hz
    have g1 := row_full (z := z) hall
    have g2 := chunks_flatten hall
    have g3 := rowAt_len (z := z) hall (Nat.le_refl _)
    rw [hN] at g1 g2 g3
    try rw [Nat.mul_one] at g1
    rw [d_laws_toFieldDefS_0_eq]
    simp [g1, g2, g3, hC, SV.flatT, SV.flat, Fl.new]
  · intro i hi ih z hz
    have g3 := rowAt_len (z := z) hall (i := i) (by omega)
    have hp := putAt_row (z := z) hall (i := i) (by omega)
    rw [d_laws_toFieldDefS_0_eq]
    have hci := hd _ (List.getElem_mem hi)
    obtain ⟨s0, s1, e2, s3, s4, e5, he, h0, h1, h2, q2, h3, h4, h5, q5⟩ := (hq _ (List.getElem_mem hi)).ex
    rw [reE_get, he] at hp
    simp only [reL, reF, List.map_cons, List.map_nil] at hp
    simp only [Int.ofNat_lt, hi, hC, decide_true, branch_true, Int.natCast_nonneg, Bool.and_true, Int.toNat_natCast, guarded_true, wrap_upL (Nat.lt_of_lt_of_le hi (Nat.le_trans hl hml)), sized_all (reE_all (φ := fl c) fun e he => (hq e he).len), reE_getD hi]
    rw [he] at hci ⊢
    simp only [reL, reF] at hci
    simp only [reL, reF, bindE_eq, atK_zero, atK_succ, intK_int, strK_str, boolK_bool, slK_sl, hci, Option.bind_some, svAggK_agg, List.length_cons, List.length_nil, beq_self_eq_true, Nat.reduceAdd, Nat.reduceBEq, guarded_true]
    have hd' : (i + 1) * 6 ≤ es.length * 6 := Nat.mul_le_mul_right 6 hi
    have hg : (0 + i) * 6 + 6 ≤ (rowAt (reE (fl fNew) es) i z).length := by rw [g3, hz, Nat.sub_mul]; omega
    simp only [hg, decide_true, guarded_true]
    rw [Nat.zero_add, hp]
    exact ih _ (by rw [List.length_drop, hz, Nat.sub_mul, Nat.sub_mul]; omega)
theorem t_laws_toFieldDefS_of {c : Fl true} {es : List (List (Leaf false))} (hl : es.length ≤ 1048576) (hq : ∀ e ∈ es, IsFieldDef e) (hd : ∀ e ∈ es, Dd F.laws_toFieldDef [.agg (reL (fl c) e)] [] = some (.agg (reL (fl fNew) e), [])) : Dd F.laws_toFieldDefS [.leaf (.sl c (reE (fl c) es))] [] = some (.leaf (.sl fNew (reE (fl fNew) es)), []) := by
  apply dd_of rfl
  have hb : maxBytes = 140737488355328 := rfl
  rw [run_d_laws_toFieldDefS]
  have hs : decide (es.length ≤ maxBytes) = true := decide_eq_true (by omega)
  have hs2 : decide (es.length * 112 ≤ maxBytes) = true := decide_eq_true (by omega)
  simp only [reE_length, Int.natCast_nonneg, Int.toNat_natCast, beq_self_eq_true, hs, hs2, decide_true, Bool.and_true, Bool.true_and, guarded_true]
  exact laws_toFieldDefS_from hl hq hd 0 (Nat.zero_le _) _ (by simp [List.length_flatten])
theorem t_laws_toFieldDef {c : Fl true} {ls : List (Leaf false)} (h : IsFieldDef ls) : tL ls ≤ 1048576 → Dd F.laws_toFieldDef [.agg (reL (fl c) ls)] [] = some (.agg (reL (fl fNew) ls), []) := by
  cases h with
  | mk s0 s1 e2 s3 s4 e5 h0 h1 h2 q2 h3 h4 h5 q5 =>
    intro hb
    apply dd_of rfl
    simp only [reL, reF]
    rw [run_d_laws_toFieldDef]
    have c2 := t_laws_toInDefS (c := c) (show e2.length + tE e2 ≤ 1048576 by simp only [tL, tF] at hb; omega) q2
    have c3 := t_laws_toType (c := c) (.mk s3 s4 h3 h4) (by simp only [tL, tF] at hb ⊢; omega)
    simp only [reL, reF] at c3
    have c5 := t_laws_toDirS (c := c) (show e5.length + tE e5 ≤ 1048576 by simp only [tL, tF] at hb; omega) q5
    try simp [c2, c3, c5]
theorem t_laws_toFieldDefS {c : Fl true} {es : List (List (Leaf false))} (hb : es.length + tE es ≤ 1048576) (hq : ∀ e ∈ es, IsFieldDef e) : Dd F.laws_toFieldDefS [.leaf (.sl c (reE (fl c) es))] [] = some (.leaf (.sl fNew (reE (fl fNew) es)), []) := t_laws_toFieldDefS_of (by omega) hq fun e he => t_laws_toFieldDef (hq e he) (by have := tE_mem he; omega)
theorem laws_toEnumDefS_from {c : Fl true} {es : List (List (Leaf false))} (hl : es.length ≤ 1048576) (hq : ∀ e ∈ es, IsEnumDef e) (hd : ∀ e ∈ es, Dd F.laws_toEnumDef [.agg (reL (fl c) e)] [] = some (.agg (reL (fl fNew) e), [])) : ∀ i : Nat, i ≤ es.length → ∀ z : List (SV true), z.length = (es.length - i) * 3 →
    d_laws_toEnumDefS_A Dd (d_laws_toEnumDefS_0 c (reE (fl c) es) es.length i (rowAt (reE (fl fNew) es) i z)) = some (.leaf (.sl fNew (reE (fl fNew) es)), []) := by
  have hall : ∀ e ∈ reE (fl fNew) es, e.length = 3 := reE_all fun e he => (hq e he).len
  have hN : (reE (fl fNew) es).length = es.length := reE_length es
  have hC : (reE (fl c) es).length = es.length := reE_length es
  have hml : (1048576 : Nat) ≤ maxLen := by decide
  refine upto_ind ?_ ?_
  · intro z hz
    have g1 := row_full (z := z) hall
    have g2 := chunks_flatten hall
    have g3 := rowAt_len (z := z) hall (Nat.le_refl _)
    rw [hN] at g1 g2 g3
    try rw [Nat.mul_one] at g1
    rw [d_laws_toEnumDefS_0_eq]
    simp [g1, g2, g3, hC, SV.flatT, SV.flat, Fl.new]
  · intro i hi ih z hz
    have g3 := rowAt_len (z := z) hall (i := i) (by omega)
    have hp := putAt_row (z := z) hall (i := i) (by omega)
    rw [d_laws_toEnumDefS_0_eq]
    have hci := hd _ (List.getElem_mem hi)
    obtain ⟨s0, s1, e2, he, h0, h1, h2, q2⟩ := (hq _ (List.getElem_mem hi)).ex
    rw [reE_get, he] at hp
    simp only [reL, reF, List.map_cons, List.map_nil] at hp
    simp only [Int.ofNat_lt, hi, hC, decide_true, branch_true, Int.natCast_nonneg, Bool.and_true, Int.toNat_natCast, guarded_true, wrap_upL (Nat.lt_of_lt_of_le hi (Nat.le_trans hl hml)), sized_all (reE_all (φ := fl c) fun e he => (hq e he).len), reE_getD hi]
    rw [he] at hci ⊢
    simp only [reL, reF] at hci
    simp only [reL, reF, bindE_eq, atK_zero, atK_succ, intK_int, strK_str, boolK_bool, slK_sl, hci, Option.bind_some, svAggK_agg, List.length_cons, List.length_nil, beq_self_eq_true, Nat.reduceAdd, Nat.reduceBEq, guarded_true]
    have hd' : (i + 1) * 3 ≤ es.length * 3 := Nat.mul_le_mul_right 3 hi
    have hg : (0 + i) * 3 + 3 ≤ (rowAt (reE (fl fNew) es) i z).length := by rw [g3, hz, Nat.sub_mul]; omega
    simp only [hg, decide_true, guarded_true]
    rw [Nat.zero_add, hp]
    exact ih _ (by rw [List.length_drop, hz, Nat.sub_mul, Nat.sub_mul]; omega)
theorem t_laws_toEnumDefS_of {c : Fl true} {es : List (List (Leaf false))} (hl : es.length ≤ 1048576) (hq : ∀ e ∈ es, IsEnumDef e) (hd : ∀ e ∈ es, Dd F.laws_toEnumDef [.agg (reL (fl c) e)] [] = some (.agg (reL (fl fNew) e), [])) : Dd F.laws_toEnumDefS [.leaf (.sl c (reE (fl c) es))] [] = some (.leaf (.sl fNew (reE (fl fNew) es)), []) := by
  apply dd_of rfl
  have hb : maxBytes = 140737488355328 := rfl
  rw [run_d_laws_toEnumDefS]
  have hs : decide (es.length ≤ maxBytes) = true := decide_eq_true (by omega)
  have hs2 : decide (es.length * 56 ≤ maxBytes) = true := decide_eq_true (by omega)
  simp only [reE_length, Int.natCast_nonneg, Int.toNat_natCast, beq_self_eq_true, hs, hs2, decide_true, Bool.and_true, Bool.true_and, guarded_true]
  exact laws_toEnumDefS_from hl hq hd 0 (Nat.zero_le _) _ (by simp [List.length_flatten])
theorem t_laws_toEnumDef {c : Fl true} {ls : List (Leaf false)} (h : IsEnumDef ls) : tL ls ≤ 1048576 → Dd F.laws_toEnumDef [.agg (reL (fl c) ls)] [] = some (.agg (reL (fl fNew) ls), []) := by
  cases h with
  | mk s0 s1 e2 h0 h1 h2 q2 =>
    intro hb
    apply dd_of rfl
    simp only [reL, reF]
    rw [run_d_laws_toEnumDef]
    have c2 := t_laws_toDirS (c := c) (show e2.length + tE e2 ≤ 1048576 by simp only [tL, tF] at hb; omega) q2
    try simp [c2]
theorem t_laws_toEnumDefS {c : Fl true} {es : List (List (Leaf false))} (hb : es.length + tE es ≤ 1048576) (hq : ∀ e ∈ es, IsEnumDef e) : Dd F.laws_toEnumDefS [.leaf (.sl c (reE (fl c) es))] [] = some (.leaf (.sl fNew (reE (fl fNew) es)), []) := t_laws_toEnumDefS_of (by omega) hq fun e he => t_laws_toEnumDef (hq e he) (by have := tE_mem he; omega)
theorem laws_toRootS_from {c : Fl true} {es : List (List (Leaf false))} (hl : es.length ≤ 1048576) (hq : ∀ e ∈ es, IsRoot e) (hd : ∀ e ∈ es, Dd F.laws_toRoot [.agg (reL (fl c) e)] [] = some (.agg (reL (fl fNew) e), [])) : ∀ i : Nat, i ≤ es.length → ∀ z : List (SV true), z.length = (es.length - i) * 2 →
    d_laws_toRootS_A Dd (d_laws_toRootS_0 c (reE (fl c) es) es.length i (rowAt (reE (fl fNew) es) i z)) = some (.leaf (.sl fNew (reE (fl fNew) es)), []) := by
  have hall : ∀ e ∈ reE (fl fNew) es, e.length = 2 := reE_all fun e he => (hq e he).len
  have hN : (reE (fl fNew) es).length = es.length := reE_length es
  have hC : (reE (fl c) es).length = es.length := reE_length es
  have hml : (1048576 : Nat) ≤ maxLen := by decide
  refine upto_ind ?_ ?_
  · intro z hz
    have g1 := row_full (z := z) hall
    have g2 := chunks_flatten hall
    have g3 := rowAt_len (z := z) hall (Nat.le_refl _)
    rw [hN] at g1 g2 g3
    try rw [Nat.mul_one] at g1
    rw [d_laws_toRootS_0_eq]
    simp [g1, g2, g3, hC, SV.flatT, SV.flat, Fl.new]
  · intro i hi ih z hz
    have g3 := rowAt_len (z := z) hall (i := i) (by omega)
    have hp := putAt_row (z := z) hall (i := i) (by omega)
    rw [d_laws_toRootS_0_eq]
    have hci := hd _ (List.getElem_mem hi)
    obtain ⟨i0, s1, he, h1⟩ := (hq _ (List.getElem_mem hi)).ex
    rw [reE_get, he] at hp
    simp only [reL, reF, List.map_cons, List.map_nil] at hp
    simp only [Int.ofNat_lt, hi, hC, decide_true, branch_true, Int.natCast_nonneg, Bool.and_true, Int.toNat_natCast, guarded_true, wrap_upL (Nat.lt_of_lt_of_le hi (Nat.le_trans hl hml)), sized_all (reE_all (φ := fl c) fun e he => (hq e he).len), reE_getD hi]
    rw [he] at hci ⊢
    simp only [reL, reF] at hci
    simp only [reL, reF, bindE_eq, atK_zero, atK_succ, intK_int, strK_str, boolK_bool, slK_sl, hci, Option.bind_some, svAggK_agg, List.length_cons, List.length_nil, beq_self_eq_true, Nat.reduceAdd, Nat.reduceBEq, guarded_true]
    have hd' : (i + 1) * 2 ≤ es.length * 2 := Nat.mul_le_mul_right 2 hi
    have hg : (0 + i) * 2 + 2 ≤ (rowAt (reE (fl fNew) es) i z).length := by rw [g3, hz, Nat.sub_mul]; omega
    simp only [hg, decide_true, guarded_true]
    rw [Nat.zero_add, hp]
    exact ih _ (by rw [List.length_drop, hz, Nat.sub_mul, Nat.sub_mul]; omega)
theorem t_laws_toRootS_of {c : Fl true} {es : List (List (Leaf false))} (hl : es.length ≤ 1048576) (hq : ∀ e ∈ es, IsRoot e) (hd : ∀ e ∈ es, Dd F.laws_toRoot [.agg (reL (fl c) e)] [] = some (.agg (reL (fl fNew) e), [])) : Dd F.laws_toRootS [.leaf (.sl c (reE (fl c) es))] [] = some (.leaf (.sl fNew (reE (fl fNew) es)), []) := by
  apply dd_of rfl
  have hb : maxBytes = 140737488355328 := rfl
  rw [run_d_laws_toRootS]
  have hs : decide (es.length ≤ maxBytes) = true := decide_eq_true (by omega)
  have hs2 : decide (es.length * 24 ≤ maxBytes) = true := decide_eq_true (by omega)
  simp only [reE_length, Int.natCast_nonneg, Int.toNat_natCast, beq_self_eq_true, hs, hs2, decide_true, Bool.and_true, Bool.true_and, guarded_true]
  exact laws_toRootS_from hl hq hd 0 (Nat.zero_le _) _ (by simp [List.length_flatten])
theorem t_laws_toRoot {c : Fl true} {ls : List (Leaf false)} (h : IsRoot ls) : tL ls ≤ 1048576 → Dd F.laws_toRoot [.agg (reL (fl c) ls)] [] = some (.agg (reL (fl fNew) ls), []) := by
  cases h with
  | mk i0 s1 h1 =>
    intro hb
    apply dd_of rfl
    simp only [reL, reF]
    rw [run_d_laws_toRoot]
    try simp []
theorem t_laws_toRootS {c : Fl true} {es : List (List (Leaf false))} (hb : es.length + tE es ≤ 1048576) (hq : ∀ e ∈ es, IsRoot e) : Dd F.laws_toRootS [.leaf (.sl c (reE (fl c) es))] [] = some (.leaf (.sl fNew (reE (fl fNew) es)), []) := t_laws_toRootS_of (by omega) hq fun e he => t_laws_toRoot (hq e he) (by have := tE_mem he; omega)
theorem laws_toDefS_from {c : Fl true} {es : List (List (Leaf false))} (hl : es.length ≤ 1048576) (hq : ∀ e ∈ es, IsDef e) (hd : ∀ e ∈ es, Dd F.laws_toDef [.agg (reL (fl c) e)] [] = some (.agg (reL (fl fNew) e), [])) : ∀ i : Nat, i ≤ es.length → ∀ z : List (SV true), z.length = (es.length - i) * 11 →
    d_laws_toDefS_A Dd (d_laws_toDefS_0 c (reE (fl c) es) es.length i (rowAt (reE (fl fNew) es) i z)) = some (.leaf (.sl fNew (reE (fl fNew) es)), []) := by
  have hall : ∀ e ∈ reE (fl fNew) es, e.length = 11 := reE_all fun e he => (hq e he).len
  have hN : (reE (fl fNew) es).length = es.length := reE_length es
  have hC : (reE (fl c) es).length = es.length := reE_length es
  have hml : (1048576 : Nat) ≤ maxLen := by decide
  refine upto_ind ?_ ?_
  · intro z hz
    have g1 := row_full (z := z) hall
    have g2 := chunks_flatten hall
    have g3 := rowAt_len (z := z) hall (Nat.le_refl _)
    rw [hN] at g1 g2 g3
    try rw [Nat.mul_one] at g1
    rw [d_laws_toDefS_0_eq]
    simp [g1, g2, g3, hC, SV.flatT, SV.flat, Fl.new]
  · intro i hi ih z hz
    have g3 := rowAt_len (z := z) hall (i := i) (by omega)
    have hp := putAt_row (z := z) hall (i := i) (by omega)
    rw [d_laws_toDefS_0_eq]
    have hci := hd _ (List.getElem_mem hi)
    obtain ⟨i0, b1, s2, s3, e4, e5, e6, e7, e8, b9, e10, he, h2, h3, h4, q4, h5, q5, h6, q6, h7, q7, h8, q8, h10, q10⟩ := (hq _ (List.getElem_mem hi)).ex
    rw [reE_get, he] at hp
    simp only [reL, reF, List.map_cons, List.map_nil] at hp
    simp only [Int.ofNat_lt, hi, hC, decide_true, branch_true, Int.natCast_nonneg, Bool.and_true, Int.toNat_natCast, guarded_true, wrap_upL (Nat.lt_of_lt_of_le hi (Nat.le_trans hl hml)), sized_all (reE_all (φ := fl c) fun e he => (hq e he).len), reE_getD hi]
    rw [he] at hci ⊢
    simp only [reL, reF] at hci
    simp only [reL, reF, bindE_eq, atK_zero, atK_succ, intK_int, strK_str, boolK_bool, slK_sl, hci, Option.bind_some, svAggK_agg, List.length_cons, List.length_nil, beq_self_eq_true, Nat.reduceAdd, Nat.reduceBEq, guarded_true]
    have hd' : (i + 1) * 11 ≤ es.length * 11 := Nat.mul_le_mul_right 11 hi
    have hg : (0 + i) * 11 + 11 ≤ (rowAt (reE (fl fNew) es) i z).length := by rw [g3, hz, Nat.sub_mul]; omega
    simp only [hg, decide_true, guarded_true]
    rw [Nat.zero_add, hp]
    exact ih _ (by rw [List.length_drop, hz, Nat.sub_mul, Nat.sub_mul]; omega)
theorem t_laws_toDefS_of {c : Fl true} {es : List (List (Leaf false))} (hl : es.length ≤ 1048576) (hq : ∀ e ∈ es, IsDef e) (hd : ∀ e ∈ es, Dd F.laws_toDef [.agg (reL (fl c) e)] [] = some (.agg (reL (fl fNew) e), [])) : Dd F.laws_toDefS [.leaf (.sl c (reE (fl c) es))] [] = some (.leaf (.sl fNew (reE (fl fNew) es)), []) := by
  apply dd_of rfl
  have hb : maxBytes = 140737488355328 := rfl
  rw [run_d_laws_toDefS]
  have hs : decide (es.length ≤ maxBytes) = true := decide_eq_true (by omega)
  have hs2 : decide (es.length * 200 ≤ maxBytes) = true := decide_eq_true (by omega)
  simp only [reE_length, Int.natCast_nonneg, Int.toNat_natCast, beq_self_eq_true, hs, hs2, decide_true, Bool.and_true, Bool.true_and, guarded_true]
  exact laws_toDefS_from hl hq hd 0 (Nat.zero_le _) _ (by simp [List.length_flatten])
theorem t_laws_toDef {c : Fl true} {ls : List (Leaf false)} (h : IsDef ls) : tL ls ≤ 1048576 → Dd F.laws_toDef [.agg (reL (fl c) ls)] [] = some (.agg (reL (fl fNew) ls), []) := by
  cases h with
  | mk i0 b1 s2 s3 e4 e5 e6 e7 e8 b9 e10 h2 h3 h4 q4 h5 q5 h6 q6 h7 q7 h8 q8 h10 q10 =>
    intro hb
    apply dd_of rfl
    simp only [reL, reF]
    rw [run_d_laws_toDef]
    have c4 := t_laws_toStringS (c := c) (show e4.length ≤ 1048576 by simp only [tL, tF] at hb; omega) q4
    have c5 := t_laws_toFieldDefS (c := c) (show e5.length + tE e5 ≤ 1048576 by simp only [tL, tF] at hb; omega) q5
    have c6 := t_laws_toInDefS (c := c) (show e6.length + tE e6 ≤ 1048576 by simp only [tL, tF] at hb; omega) q6
    have c7 := t_laws_toEnumDefS (c := c) (show e7.length + tE e7 ≤ 1048576 by simp only [tL, tF] at hb; omega) q7
    have c8 := t_laws_toRootS (c := c) (show e8.length + tE e8 ≤ 1048576 by simp only [tL, tF] at hb; omega) q8
    have c10 := t_laws_toDirS (c := c) (show e10.length + tE e10 ≤ 1048576 by simp only [tL, tF] at hb; omega) q10
    try simp [c4, c5, c6, c7, c8, c10]
theorem t_laws_toDefS {c : Fl true} {es : List (List (Leaf false))} (hb : es.length + tE es ≤ 1048576) (hq : ∀ e ∈ es, IsDef e) : Dd F.laws_toDefS [.leaf (.sl c (reE (fl c) es))] [] = some (.leaf (.sl fNew (reE (fl fNew) es)), []) := t_laws_toDefS_of (by omega) hq fun e he => t_laws_toDef (hq e he) (by have := tE_mem he; omega)
theorem t_laws_toSchema {c : Fl true} {ls : List (Leaf false)} (h : IsSchema ls) : tL ls ≤ 1048576 → Dd F.laws_toSchema [.agg (reL (fl c) ls)] [] = some (.agg (reL (fl fNew) ls), []) := by
  cases h with
  | mk e0 e1 e2 h0 q0 h1 q1 h2 q2 =>
    intro hb
    apply dd_of rfl
    simp only [reL, reF]
    rw [run_d_laws_toSchema]
    have c0 := t_laws_toDefS (c := c) (show e0.length + tE e0 ≤ 1048576 by simp only [tL, tF] at hb; omega) q0
    have c1 := t_laws_toDefS (c := c) (show e1.length + tE e1 ≤ 1048576 by simp only [tL, tF] at hb; omega) q1
    have c2 := t_laws_toRootS (c := c) (show e2.length + tE e2 ≤ 1048576 by simp only [tL, tF] at hb; omega) q2
    try simp [c0, c1, c2]

end Go.Vs
end
section
open Go Go.Vs Go.Proofs
set_option linter.unusedVariables false
set_option linter.unusedSimpArgs false
namespace Go.Vs
theorem wrap_le {x : Int} (h : 0 ≤ x) : IntKind.i64.wrap x ≤ x := by
  have e : IntKind.i64.wrap x = if x % 18446744073709551616 ≥ 9223372036854775808 then x % 18446744073709551616 - 18446744073709551616 else x % 18446744073709551616 := by
    simp [IntKind.wrap, IntKind.signed, IntKind.bits]
  rw [e]
  split <;> omega
theorem markText_from : ∀ (n : Nat) (i0 : Int) (s3 : ByteArray), i0 < 10 ^ n → s3.size + n + 1 ≤ 140737488355328 → ∃ s : ByteArray, laws_markText_A Dn (laws_markText_0 i0 s3) = some (.leaf (.str s), [])
  | 0, i0, s3, h, hs => by
    have h0 : ¬ i0 > 0 := by simp at h; omega
    rw [laws_markText_0_eq]
    have h1 : (ByteArray.mk #[109]).size + s3.size ≤ 140737488355328 := by have : (ByteArray.mk #[109]).size = 1 := rfl; omega
    simp only [h0, decide_false, branch_false, h1, decide_true, guarded_true]
    exact ⟨_, rfl⟩
  | n + 1, i0, s3, h, hs => by
    rw [laws_markText_0_eq]
    by_cases h0 : i0 > 0
    · have hz : ∀ x : UInt8, (ByteArray.mk #[x]).size = 1 := fun _ => rfl
      have h2 : IntKind.i64.wrap (i0.tdiv 10) < 10 ^ n := by
        have h3 : 0 ≤ i0.tdiv 10 := Int.tdiv_nonneg (by omega) (by omega)
        have h4 := wrap_le h3
        have h5 : i0.tdiv 10 < 10 ^ n := by
          rw [Int.tdiv_eq_ediv_of_nonneg (by omega)]
          rw [Int.pow_succ] at h
          omega
        omega
      simp only [h0, decide_true, branch_true, List.map_cons, List.map_nil, hz, show 1 + s3.size ≤ 140737488355328 by omega, guarded_true]
      exact markText_from n _ _ h2 (by rw [ByteArray.size_append, hz]; omega)
    · have h1 : (ByteArray.mk #[109]).size + s3.size ≤ 140737488355328 := by have : (ByteArray.mk #[109]).size = 1 := rfl; omega
      simp only [h0, decide_false, branch_false, h1, decide_true, guarded_true]
      exact ⟨_, rfl⟩
theorem markText_ex (k : Int) : ∃ s : ByteArray, Dn F.laws_markText [vint k] [] = some (.leaf (.str s), []) := by
  have key : ∃ s : ByteArray, run2V Go.Proofs.Tryz.prog Dn Hs limR F.laws_markText [vint k] [] = some (.leaf (.str s), []) := by
    rw [run_laws_markText]
    by_cases h : k ≤ 0
    · simp only [h, decide_true, branch_true]; exact ⟨_, rfl⟩
    · obtain ⟨n, hn⟩ : ∃ n : Nat, k < 10 ^ n ∧ n ≤ k.toNat := ⟨k.toNat, by
        have : (k.toNat : Int) < 10 ^ k.toNat := by exact_mod_cast (Nat.lt_pow_self (by omega) : k.toNat < 10 ^ k.toNat)
        omega, Nat.le_refl _⟩
      simp only [h, decide_false, branch_false]
      -- the first round brings it below the bound of the kind
      rw [laws_markText_0_eq]
      have hz : ∀ x : UInt8, (ByteArray.mk #[x]).size = 1 := fun _ => rfl
      have h0 : k > 0 := by omega
      have he : (ByteArray.mk #[]).size = 0 := rfl
      simp only [h0, decide_true, branch_true, List.map_cons, List.map_nil, hz, he, show 1 + 0 ≤ 140737488355328 by omega, guarded_true]
      refine markText_from 19 _ _ ?_ (by rw [ByteArray.size_append, hz, he]; omega)
      have e : ∀ x : Int, IntKind.i64.wrap x < 10 ^ 19 := fun x => by
        have e : IntKind.i64.wrap x = if x % 18446744073709551616 ≥ 9223372036854775808 then x % 18446744073709551616 - 18446744073709551616 else x % 18446744073709551616 := by
          simp [IntKind.wrap, IntKind.signed, IntKind.bits]
        rw [e]
        split <;> omega
      exact e _
  obtain ⟨s, hs⟩ := key
  exact ⟨s, den_of hs⟩
/-- The text of a mark. -/
noncomputable def mtx (k : Int) : ByteArray := Classical.choose (markText_ex k)
theorem d_markText (k : Int) : Dn F.laws_markText [vint k] [] = some (.leaf (.str (mtx k)), []) := Classical.choose_spec (markText_ex k)
end Go.Vs
end
section
open Go Go.Vs Go.Proofs
set_option linter.unusedVariables false
set_option linter.unusedSimpArgs false
namespace Go.Vs
theorem t_markText (k : Int) : Dd F.laws_markText [.leaf (.int .i64 k)] [] = some (.leaf (.str (mtx k)), []) :=
  dd_told rfl (d_markText k) rfl rfl rfl
theorem laws_markStringS_from {es : List (List (Leaf false))} (hl : es.length ≤ maxLen) (hq : ∀ e ∈ es, IsStr e) : ∀ i : Nat, i ≤ es.length → ∀ k : Int,
    d_laws_markStringS_A Dd (d_laws_markStringS_0 fSoft (soE es) k i) = some (.leaf (.int .i64 (mkE (es.drop i) k)), []) := by
  have hC : (soE es).length = es.length := soE_length es
  refine upto_ind ?_ ?_
  · intro k; rw [d_laws_markStringS_0_eq]; simp [hC, mkE]
  · intro i hi ih k
    obtain ⟨s, he, hs⟩ := (hq _ (List.getElem_mem hi))
    rw [d_laws_markStringS_0_eq, drop_at hi]
    simp only [Int.ofNat_lt, hi, hC, decide_true, branch_true, Int.natCast_nonneg, Bool.and_true, Int.toNat_natCast, guarded_true, wrap_upL (Nat.lt_of_lt_of_le hi hl), sized_all (soE_all fun e he => (hq e he).len), soE_getD hi, t_markText, Option.bind_some, svLeafK_leaf, strK_str]
    rw [he]
    simp only [soL, soF, atK_zero, atK_succ, slK_sl, softAt, List.getElem?_cons_zero, List.getElem?_cons_succ, soft_isSoft, St.eval, List.getD_cons_zero, List.getD_cons_succ, SV.plain, sizeT3, sizeT4, sizeT9, and_self, ite_true, if_true, ite_yes, true_and, and_true, t_markText, Option.bind_some, svLeafK_leaf, strK_str, intK_int, ih]
    simp only [mkE, mkL, mkF]
theorem t_laws_markStringS {es : List (List (Leaf false))} (hl : es.length ≤ maxLen) (hq : ∀ e ∈ es, IsStr e) (k : Int) : Dd F.laws_markStringS [.leaf (.sl fSoft (soE es)), .leaf (.int .i64 k)] [] = some (.leaf (.int .i64 (mkE es k)), []) := by
  apply dd_of rfl
  rw [run_d_laws_markStringS]
  have := laws_markStringS_from hl hq 0 (Nat.zero_le _) k
  simpa using this
def MkValue (ls : List (Leaf false)) : Prop := ∀ (i0 : Int) (s1 : ByteArray) (e2 : List (List (Leaf false))) (e3 : List (List (Leaf false))), ls = [.int .i64 i0, .str s1, .sl fP e2, .sl fP e3] → (∀ k : Int, Dd F.laws_markValueS [.leaf (.sl fSoft (soE e2)), .leaf (.int .i64 k)] [] = some (.leaf (.int .i64 (mkE e2 k)), []))
theorem laws_markValueS_from {es : List (List (Leaf false))} (hl : es.length ≤ maxLen) (hq : ∀ e ∈ es, IsValue e) (hd : ∀ e ∈ es, MkValue e) : ∀ i : Nat, i ≤ es.length → ∀ k : Int,
    d_laws_markValueS_A Dd (d_laws_markValueS_0 fSoft (soE es) k i) = some (.leaf (.int .i64 (mkE (es.drop i) k)), []) := by
  have hC : (soE es).length = es.length := soE_length es
  refine upto_ind ?_ ?_
  · intro k; rw [d_laws_markValueS_0_eq]; simp [hC, mkE]
  · intro i hi ih k
    have hci := hd _ (List.getElem_mem hi)
    obtain ⟨i0, s1, e2, e3, he, h1, h2, q2, h3, q3⟩ := (hq _ (List.getElem_mem hi)).ex
    rw [d_laws_markValueS_0_eq, drop_at hi]
    simp only [Int.ofNat_lt, hi, hC, decide_true, branch_true, Int.natCast_nonneg, Bool.and_true, Int.toNat_natCast, guarded_true, wrap_upL (Nat.lt_of_lt_of_le hi hl), sized_all (soE_all fun e he => (hq e he).len), soE_getD hi, t_markText, Option.bind_some, svLeafK_leaf, strK_str]
    rw [he]
    have c2 := hci i0 s1 e2 e3 he
    have c3 := t_laws_markStringS h3 q3
    simp only [soL, soF, atK_zero, atK_succ, slK_sl, softAt, List.getElem?_cons_zero, List.getElem?_cons_succ, soft_isSoft, St.eval, List.getD_cons_zero, List.getD_cons_succ, SV.plain, sizeT3, sizeT4, sizeT9, and_self, ite_true, if_true, ite_yes, true_and, and_true, c2, c3, t_markText, Option.bind_some, svLeafK_leaf, strK_str, intK_int, ih]
    simp only [mkE, mkL, mkF]
theorem t_laws_markValueS_of {es : List (List (Leaf false))} (hl : es.length ≤ maxLen) (hq : ∀ e ∈ es, IsValue e) (hd : ∀ e ∈ es, MkValue e) (k : Int) : Dd F.laws_markValueS [.leaf (.sl fSoft (soE es)), .leaf (.int .i64 k)] [] = some (.leaf (.int .i64 (mkE es k)), []) := by
  apply dd_of rfl
  rw [run_d_laws_markValueS]
  have := laws_markValueS_from hl hq hd 0 (Nat.zero_le _) k
  simpa using this
theorem mkValue {ls : List (Leaf false)} (h : IsValue ls) : MkValue ls := by
  induction h with
  | mk i0 s1 e2 e3 h1 h2 q2 h3 q3 ih2 =>
    intro y0 y1 y2 y3 heq
    simp only [List.cons.injEq, Leaf.int.injEq, Leaf.str.injEq, Leaf.sl.injEq, and_true, true_and] at heq
    obtain ⟨rfl, rfl, rfl, rfl⟩ := heq
    exact t_laws_markValueS_of h2 q2 ih2
theorem t_laws_markValueS {es : List (List (Leaf false))} (hl : es.length ≤ maxLen) (hq : ∀ e ∈ es, IsValue e) (k : Int) : Dd F.laws_markValueS [.leaf (.sl fSoft (soE es)), .leaf (.int .i64 k)] [] = some (.leaf (.int .i64 (mkE es k)), []) := t_laws_markValueS_of hl hq (fun e he => mkValue (hq e he)) k
theorem laws_markArgS_from {es : List (List (Leaf false))} (hl : es.length ≤ maxLen) (hq : ∀ e ∈ es, IsArg e) : ∀ i : Nat, i ≤ es.length → ∀ k : Int,
    d_laws_markArgS_A Dd (d_laws_markArgS_0 fSoft (soE es) k i) = some (.leaf (.int .i64 (mkE (es.drop i) k)), []) := by
  have hC : (soE es).length = es.length := soE_length es
  refine upto_ind ?_ ?_
  · intro k; rw [d_laws_markArgS_0_eq]; simp [hC, mkE]
  · intro i hi ih k
    obtain ⟨s0, i1, s2, e3, e4, he, h0, h2, h3, q3, h4, q4⟩ := (hq _ (List.getElem_mem hi)).ex
    rw [d_laws_markArgS_0_eq, drop_at hi]
    simp only [Int.ofNat_lt, hi, hC, decide_true, branch_true, Int.natCast_nonneg, Bool.and_true, Int.toNat_natCast, guarded_true, wrap_upL (Nat.lt_of_lt_of_le hi hl), sized_all (soE_all fun e he => (hq e he).len), soE_getD hi, t_markText, Option.bind_some, svLeafK_leaf, strK_str]
    rw [he]
    have c3 := t_laws_markValueS h3 q3
    have c4 := t_laws_markStringS h4 q4
    simp only [soL, soF, atK_zero, atK_succ, slK_sl, softAt, List.getElem?_cons_zero, List.getElem?_cons_succ, soft_isSoft, St.eval, List.getD_cons_zero, List.getD_cons_succ, SV.plain, sizeT3, sizeT4, sizeT9, and_self, ite_true, if_true, ite_yes, true_and, and_true, c3, c4, t_markText, Option.bind_some, svLeafK_leaf, strK_str, intK_int, ih]
    simp only [mkE, mkL, mkF]
theorem t_laws_markArgS {es : List (List (Leaf false))} (hl : es.length ≤ maxLen) (hq : ∀ e ∈ es, IsArg e) (k : Int) : Dd F.laws_markArgS [.leaf (.sl fSoft (soE es)), .leaf (.int .i64 k)] [] = some (.leaf (.int .i64 (mkE es k)), []) := by
  apply dd_of rfl
  rw [run_d_laws_markArgS]
  have := laws_markArgS_from hl hq 0 (Nat.zero_le _) k
  simpa using this
theorem laws_markDirS_from {es : List (List (Leaf false))} (hl : es.length ≤ maxLen) (hq : ∀ e ∈ es, IsDir e) : ∀ i : Nat, i ≤ es.length → ∀ k : Int,
    d_laws_markDirS_A Dd (d_laws_markDirS_0 fSoft (soE es) k i) = some (.leaf (.int .i64 (mkE (es.drop i) k)), []) := by
  have hC : (soE es).length = es.length := soE_length es
  refine upto_ind ?_ ?_
  · intro k; rw [d_laws_markDirS_0_eq]; simp [hC, mkE]
  · intro i hi ih k
    obtain ⟨s0, e1, he, h0, h1, q1⟩ := (hq _ (List.getElem_mem hi)).ex
    rw [d_laws_markDirS_0_eq, drop_at hi]
    simp only [Int.ofNat_lt, hi, hC, decide_true, branch_true, Int.natCast_nonneg, Bool.and_true, Int.toNat_natCast, guarded_true, wrap_upL (Nat.lt_of_lt_of_le hi hl), sized_all (soE_all fun e he => (hq e he).len), soE_getD hi, t_markText, Option.bind_some, svLeafK_leaf, strK_str]
    rw [he]
    have c1 := t_laws_markArgS h1 q1
    simp only [soL, soF, atK_zero, atK_succ, slK_sl, softAt, List.getElem?_cons_zero, List.getElem?_cons_succ, soft_isSoft, St.eval, List.getD_cons_zero, List.getD_cons_succ, SV.plain, sizeT3, sizeT4, sizeT9, and_self, ite_true, if_true, ite_yes, true_and, and_true, c1, t_markText, Option.bind_some, svLeafK_leaf, strK_str, intK_int, ih]
    simp only [mkE, mkL, mkF]
theorem t_laws_markDirS {es : List (List (Leaf false))} (hl : es.length ≤ maxLen) (hq : ∀ e ∈ es, IsDir e) (k : Int) : Dd F.laws_markDirS [.leaf (.sl fSoft (soE es)), .leaf (.int .i64 k)] [] = some (.leaf (.int .i64 (mkE es k)), []) := by
  apply dd_of rfl
  rw [run_d_laws_markDirS]
  have := laws_markDirS_from hl hq 0 (Nat.zero_le _) k
  simpa using this
theorem laws_markInDefS_from {es : List (List (Leaf false))} (hl : es.length ≤ maxLen) (hq : ∀ e ∈ es, IsInDef e) : ∀ i : Nat, i ≤ es.length → ∀ k : Int,
    d_laws_markInDefS_A Dd (d_laws_markInDefS_0 fSoft (soE es) k i) = some (.leaf (.int .i64 (mkE (es.drop i) k)), []) := by
  have hC : (soE es).length = es.length := soE_length es
  refine upto_ind ?_ ?_
  · intro k; rw [d_laws_markInDefS_0_eq]; simp [hC, mkE]
  · intro i hi ih k
    obtain ⟨s0, s1, s2, s3, b4, i5, s6, e7, e8, e9, he, h0, h1, h2, h3, h6, h7, q7, h8, q8, h9, q9⟩ := (hq _ (List.getElem_mem hi)).ex
    rw [d_laws_markInDefS_0_eq, drop_at hi]
    simp only [Int.ofNat_lt, hi, hC, decide_true, branch_true, Int.natCast_nonneg, Bool.and_true, Int.toNat_natCast, guarded_true, wrap_upL (Nat.lt_of_lt_of_le hi hl), sized_all (soE_all fun e he => (hq e he).len), soE_getD hi, t_markText, Option.bind_some, svLeafK_leaf, strK_str]
    rw [he]
    have c7 := t_laws_markValueS h7 q7
    have c8 := t_laws_markStringS h8 q8
    have c9 := t_laws_markDirS h9 q9
    simp only [soL, soF, atK_zero, atK_succ, slK_sl, softAt, List.getElem?_cons_zero, List.getElem?_cons_succ, soft_isSoft, St.eval, List.getD_cons_zero, List.getD_cons_succ, SV.plain, sizeT3, sizeT4, sizeT9, and_self, ite_true, if_true, ite_yes, true_and, and_true, c7, c8, c9, t_markText, Option.bind_some, svLeafK_leaf, strK_str, intK_int, ih]
    simp only [mkE, mkL, mkF]
theorem t_laws_markInDefS {es : List (List (Leaf false))} (hl : es.length ≤ maxLen) (hq : ∀ e ∈ es, IsInDef e) (k : Int) : Dd F.laws_markInDefS [.leaf (.sl fSoft (soE es)), .leaf (.int .i64 k)] [] = some (.leaf (.int .i64 (mkE es k)), []) := by
  apply dd_of rfl
  rw [run_d_laws_markInDefS]
  have := laws_markInDefS_from hl hq 0 (Nat.zero_le _) k
  simpa using this
theorem laws_markFieldDefS_from {es : List (List (Leaf false))} (hl : es.length ≤ maxLen) (hq : ∀ e ∈ es, IsFieldDef e) : ∀ i : Nat, i ≤ es.length → ∀ k : Int,
    d_laws_markFieldDefS_A Dd (d_laws_markFieldDefS_0 fSoft (soE es) k i) = some (.leaf (.int .i64 (mkE (es.drop i) k)), []) := by
  have hC : (soE es).length = es.length := soE_length es
  refine upto_ind ?_ ?_
  · intro k; rw [d_laws_markFieldDefS_0_eq]; simp [hC, mkE]
  · intro i hi ih k
    obtain ⟨s0, s1, e2, s3, s4, e5, he, h0, h1, h2, q2, h3, h4, h5, q5⟩ := (hq _ (List.getElem_mem hi)).ex
    rw [d_laws_markFieldDefS_0_eq, drop_at hi]
    simp only [Int.ofNat_lt, hi, hC, decide_true, branch_true, Int.natCast_nonneg, Bool.and_true, Int.toNat_natCast, guarded_true, wrap_upL (Nat.lt_of_lt_of_le hi hl), sized_all (soE_all fun e he => (hq e he).len), soE_getD hi, t_markText, Option.bind_some, svLeafK_leaf, strK_str]
    rw [he]
    have c2 := t_laws_markInDefS h2 q2
    have c5 := t_laws_markDirS h5 q5
    simp only [soL, soF, atK_zero, atK_succ, slK_sl, softAt, List.getElem?_cons_zero, List.getElem?_cons_succ, soft_isSoft, St.eval, List.getD_cons_zero, List.getD_cons_succ, SV.plain, sizeT3, sizeT4, sizeT9, and_self, ite_true, if_true, ite_yes, true_and, and_true, c2, c5, t_markText, Option.bind_some, svLeafK_leaf, strK_str, intK_int, ih]
    simp only [mkE, mkL, mkF]
theorem t_laws_markFieldDefS {es : List (List (Leaf false))} (hl : es.length ≤ maxLen) (hq : ∀ e ∈ es, IsFieldDef e) (k : Int) : Dd F.laws_markFieldDefS [.leaf (.sl fSoft (soE es)), .leaf (.int .i64 k)] [] = some (.leaf (.int .i64 (mkE es k)), []) := by
  apply dd_of rfl
  rw [run_d_laws_markFieldDefS]
  have := laws_markFieldDefS_from hl hq 0 (Nat.zero_le _) k
  simpa using this
theorem laws_markEnumDefS_from {es : List (List (Leaf false))} (hl : es.length ≤ maxLen) (hq : ∀ e ∈ es, IsEnumDef e) : ∀ i : Nat, i ≤ es.length → ∀ k : Int,
    d_laws_markEnumDefS_A Dd (d_laws_markEnumDefS_0 fSoft (soE es) k i) = some (.leaf (.int .i64 (mkE (es.drop i) k)), []) := by
  have hC : (soE es).length = es.length := soE_length es
  refine upto_ind ?_ ?_
  · intro k; rw [d_laws_markEnumDefS_0_eq]; simp [hC, mkE]
  · intro i hi ih k
    obtain ⟨s0, s1, e2, he, h0, h1, h2, q2⟩ := (hq _ (List.getElem_mem hi)).ex
    rw [d_laws_markEnumDefS_0_eq, drop_at hi]
    simp only [Int.ofNat_lt, hi, hC, decide_true, branch_true, Int.natCast_nonneg, Bool.and_true, Int.toNat_natCast, guarded_true, wrap_upL (Nat.lt_of_lt_of_le hi hl), sized_all (soE_all fun e he => (hq e he).len), soE_getD hi, t_markText, Option.bind_some, svLeafK_leaf, strK_str]
    rw [he]
    have c2 := t_laws_markDirS h2 q2
    simp only [soL, soF, atK_zero, atK_succ, slK_sl, softAt, List.getElem?_cons_zero, List.getElem?_cons_succ, soft_isSoft, St.eval, List.getD_cons_zero, List.getD_cons_succ, SV.plain, sizeT3, sizeT4, sizeT9, and_self, ite_true, if_true, ite_yes, true_and, and_true, c2, t_markText, Option.bind_some, svLeafK_leaf, strK_str, intK_int, ih]
    simp only [mkE, mkL, mkF]
theorem t_laws_markEnumDefS {es : List (List (Leaf false))} (hl : es.length ≤ maxLen) (hq : ∀ e ∈ es, IsEnumDef e) (k : Int) : Dd F.laws_markEnumDefS [.leaf (.sl fSoft (soE es)), .leaf (.int .i64 k)] [] = some (.leaf (.int .i64 (mkE es k)), []) := by
  apply dd_of rfl
  rw [run_d_laws_markEnumDefS]
  have := laws_markEnumDefS_from hl hq 0 (Nat.zero_le _) k
  simpa using this
theorem laws_markRootS_from {es : List (List (Leaf false))} (hl : es.length ≤ maxLen) (hq : ∀ e ∈ es, IsRoot e) : ∀ i : Nat, i ≤ es.length → ∀ k : Int,
    d_laws_markRootS_A Dd (d_laws_markRootS_0 fSoft (soE es) k i) = some (.leaf (.int .i64 (mkE (es.drop i) k)), []) := by
  have hC : (soE es).length = es.length := soE_length es
  refine upto_ind ?_ ?_
  · intro k; rw [d_laws_markRootS_0_eq]; simp [hC, mkE]
  · intro i hi ih k
    obtain ⟨i0, s1, he, h1⟩ := (hq _ (List.getElem_mem hi)).ex
    rw [d_laws_markRootS_0_eq, drop_at hi]
    simp only [Int.ofNat_lt, hi, hC, decide_true, branch_true, Int.natCast_nonneg, Bool.and_true, Int.toNat_natCast, guarded_true, wrap_upL (Nat.lt_of_lt_of_le hi hl), sized_all (soE_all fun e he => (hq e he).len), soE_getD hi, t_markText, Option.bind_some, svLeafK_leaf, strK_str]
    rw [he]
    simp only [soL, soF, atK_zero, atK_succ, slK_sl, softAt, List.getElem?_cons_zero, List.getElem?_cons_succ, soft_isSoft, St.eval, List.getD_cons_zero, List.getD_cons_succ, SV.plain, sizeT3, sizeT4, sizeT9, and_self, ite_true, if_true, ite_yes, true_and, and_true, t_markText, Option.bind_some, svLeafK_leaf, strK_str, intK_int, ih]
    simp only [mkE, mkL, mkF]
theorem t_laws_markRootS {es : List (List (Leaf false))} (hl : es.length ≤ maxLen) (hq : ∀ e ∈ es, IsRoot e) (k : Int) : Dd F.laws_markRootS [.leaf (.sl fSoft (soE es)), .leaf (.int .i64 k)] [] = some (.leaf (.int .i64 (mkE es k)), []) := by
  apply dd_of rfl
  rw [run_d_laws_markRootS]
  have := laws_markRootS_from hl hq 0 (Nat.zero_le _) k
  simpa using this
theorem laws_markDefS_from {es : List (List (Leaf false))} (hl : es.length ≤ maxLen) (hq : ∀ e ∈ es, IsDef e) : ∀ i : Nat, i ≤ es.length → ∀ k : Int,
    d_laws_markDefS_A Dd (d_laws_markDefS_0 fSoft (soE es) k i) = some (.leaf (.int .i64 (mkE (es.drop i) k)), []) := by
  have hC : (soE es).length = es.length := soE_length es
  refine upto_ind ?_ ?_
  · intro k; rw [d_laws_markDefS_0_eq]; simp [hC, mkE]
  · intro i hi ih k
    obtain ⟨i0, b1, s2, s3, e4, e5, e6, e7, e8, b9, e10, he, h2, h3, h4, q4, h5, q5, h6, q6, h7, q7, h8, q8, h10, q10⟩ := (hq _ (List.getElem_mem hi)).ex
    rw [d_laws_markDefS_0_eq, drop_at hi]
    simp only [Int.ofNat_lt, hi, hC, decide_true, branch_true, Int.natCast_nonneg, Bool.and_true, Int.toNat_natCast, guarded_true, wrap_upL (Nat.lt_of_lt_of_le hi hl), sized_all (soE_all fun e he => (hq e he).len), soE_getD hi, t_markText, Option.bind_some, svLeafK_leaf, strK_str]
    rw [he]
    have c4 := t_laws_markStringS h4 q4
    have c5 := t_laws_markFieldDefS h5 q5
    have c6 := t_laws_markInDefS h6 q6
    have c7 := t_laws_markEnumDefS h7 q7
    have c8 := t_laws_markRootS h8 q8
    have c10 := t_laws_markDirS h10 q10
    simp only [soL, soF, atK_zero, atK_succ, slK_sl, softAt, List.getElem?_cons_zero, List.getElem?_cons_succ, soft_isSoft, St.eval, List.getD_cons_zero, List.getD_cons_succ, SV.plain, sizeT3, sizeT4, sizeT9, and_self, ite_true, if_true, ite_yes, true_and, and_true, c4, c5, c6, c7, c8, c10, t_markText, Option.bind_some, svLeafK_leaf, strK_str, intK_int, ih]
    simp only [mkE, mkL, mkF]
theorem t_laws_markDefS {es : List (List (Leaf false))} (hl : es.length ≤ maxLen) (hq : ∀ e ∈ es, IsDef e) (k : Int) : Dd F.laws_markDefS [.leaf (.sl fSoft (soE es)), .leaf (.int .i64 k)] [] = some (.leaf (.int .i64 (mkE es k)), []) := by
  apply dd_of rfl
  rw [run_d_laws_markDefS]
  have := laws_markDefS_from hl hq 0 (Nat.zero_le _) k
  simpa using this
theorem t_laws_markSchema {ls : List (Leaf false)} (h : IsSchema ls) (k : Int) : Dd F.laws_markSchema [.agg (saL ls), .leaf (.int .i64 k)] [] = some (.leaf (.int .i64 (msL ls k)), []) := by
  cases h with
  | mk e0 e1 e2 h0 q0 h1 q1 h2 q2 =>
    apply dd_of rfl
    simp only [saL, saF]
    rw [run_d_laws_markSchema]
    simp only [t_laws_markDefS h0 q0, t_laws_markDefS h1 q1, t_laws_markRootS h2 q2, Option.bind_some, svLeafK_leaf, intK_int, msL]

end Go.Vs
end
