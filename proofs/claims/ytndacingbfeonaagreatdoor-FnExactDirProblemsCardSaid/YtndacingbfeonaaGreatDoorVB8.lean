/- What the program's functions compute, read off their text by the shadow runner (ID, ITt, ITm0, ITm, ITr, VsEr, ITz); no condition. -/
import Derived.Test.YtndacingbfeonaaGreatDoorVB7
section
open Go Go.Vs Go.Proofs
set_option maxRecDepth 100000
set_option linter.unusedVariables false
namespace Go.Vs
noncomputable section
variable (D : Oracle true)
def d_laws_toSchema_A := atA D F.laws_toSchema
theorem run_d_laws_toSchema (c0_0 : Fl true) (e0_0 : LT) (c0_1 : Fl true) (e0_1 : LT) (c0_2 : Fl true) (e0_2 : LT) : run2V Tryz.prog D Hs limR F.laws_toSchema [.agg [.sl c0_0 e0_0, .sl c0_1 e0_1, .sl c0_2 e0_2]] [] = (D F.laws_toDefS [.leaf (.sl c0_0 e0_0)] []).bind fun r => svSlK r.fst fun c es => (D F.laws_toDefS [.leaf (.sl c0_1 e0_1)] []).bind fun r => svSlK r.fst fun c_1 es_1 => (D F.laws_toRootS [.leaf (.sl c0_2 e0_2)] []).bind fun r => svSlK r.fst fun c_2 es_2 => some (.agg [.sl c es, .sl c_1 es_1, .sl c_2 es_2], []) := by refine (run_names (J := d_laws_toSchema_A D) (by kernel_rfl) (fun _ _ => rfl) []).trans ?_; generalize d_laws_toSchema_A D = J; revert J; refine id ?_; intro J; kernel_rfl
section
variable (c0 : Fl true) (e0 : LT) (n3 : Nat) (i4 : Int) (vx7 : List (SV true))
def d_laws_toDirS_A := atA D F.laws_toDirS
def d_laws_toDirS_0 : PT := ([1, 1, 0, 1, 0], St.mk ([.leaf (.sl c0 e0), .any, .any, .bsl 7 2 0 n3, .leaf (.int .i64 i4)] ++ anyS 18) (noB 7 ++ [some vx7] ++ noB 15))
theorem d_laws_toDirS_0_eq : d_laws_toDirS_A D (d_laws_toDirS_0 c0 e0 n3 i4 vx7) = branch (decide (i4 < (↑e0.length : Int))) (guarded (decide (0 ≤ i4) && decide (i4 < (↑e0.length : Int)) && sized 2 e0) (bindE (e0.getD i4.toNat []) fun e => atK e 0 fun l => strK l fun s => atK e 1 fun l => slK l fun c es => (D F.laws_toDir [.agg [.str s, .sl c es]] []).bind fun r => svAggK r.fst fun cs => guarded (cs.length == 2) (atK cs 0 fun l => strK l fun s => atK cs 1 fun l => slK l fun c es => guarded (decide (0 ≤ i4) && decide (i4 < (↑n3 : Int))) (guarded (decide ((0 + i4.toNat) * 2 + 2 ≤ vx7.length)) (d_laws_toDirS_A D (d_laws_toDirS_0 c0 e0 n3 (IntKind.i64.wrap (i4 + 1)) (putAt vx7 ((0 + i4.toNat) * 2) [.leaf (.str s), .leaf (.sl c es)]))))))) ((if n3 * 2 ≤ vx7.length ∧ 0 < 2 then match asLeaves (List.take (n3 * 2) vx7) with | some x => some ((fun l => .leaf (.sl (Fl.new true) (chunks 2 n3 l))) x) | none => none else none).bind fun v => guarded v.flatT (some (v, []))) := by refine (nameF_eq (J := d_laws_toDirS_A D) (fun _ _ => rfl) [[1, 1, 0, 1, 0]] _).trans ?_; generalize d_laws_toDirS_A D = J; revert J; refine id ?_; intro J; kernel_rfl
theorem run_d_laws_toDirS : run2V Tryz.prog D Hs limR F.laws_toDirS [.leaf (.sl c0 e0)] [] = guarded ((↑e0.length : Int) == (↑e0.length : Int) && decide ((↑e0.length : Int).toNat * 40 ≤ maxBytes) && decide ((↑e0.length : Int).toNat ≤ maxBytes)) (d_laws_toDirS_A D (d_laws_toDirS_0 c0 e0 (decide (0 ≤ (↑e0.length : Int)) && (↑e0.length : Int) == (↑e0.length : Int) && decide ((↑e0.length : Int).toNat * Tryz.prog.types[139].bytes ≤ maxBytes) && decide ((↑e0.length : Int).toNat ≤ maxBytes), (Tryz.prog.types[139].size, (↑e0.length : Int).toNat), List.map SV.leaf (List.replicate (↑e0.length : Int).toNat ((fun (x : List (Leaf true)) => .str (ByteArray.mk #[]) :: x) ((fun (x : List (Leaf true)) => .sl (Fl.new true) [] :: x) []))).flatten).snd.fst.snd 0 (decide (0 ≤ (↑e0.length : Int)) && (↑e0.length : Int) == (↑e0.length : Int) && decide ((↑e0.length : Int).toNat * Tryz.prog.types[139].bytes ≤ maxBytes) && decide ((↑e0.length : Int).toNat ≤ maxBytes), (Tryz.prog.types[139].size, (↑e0.length : Int).toNat), List.map SV.leaf (List.replicate (↑e0.length : Int).toNat ((fun (x : List (Leaf true)) => .str (ByteArray.mk #[]) :: x) ((fun (x : List (Leaf true)) => .sl (Fl.new true) [] :: x) []))).flatten).snd.snd)) := by refine (run_names (J := d_laws_toDirS_A D) (by kernel_rfl) (fun _ _ => rfl) [[1, 1, 0, 1, 0]]).trans ?_; generalize d_laws_toDirS_A D = J; revert J; refine id ?_; intro J; kernel_rfl
end
def d_laws_markSchema_A := atA D F.laws_markSchema
theorem run_d_laws_markSchema (c0_0 : Fl true) (e0_0 : LT) (c0_1 : Fl true) (e0_1 : LT) (c0_2 : Fl true) (e0_2 : LT) (i1 : Int) : run2V Tryz.prog D Hs limR F.laws_markSchema [.agg [.sl c0_0 e0_0, .sl c0_1 e0_1, .sl c0_2 e0_2], .leaf (.int .i64 i1)] [] = (D F.laws_markDefS [.leaf (.sl c0_0 e0_0), .leaf (.int .i64 i1)] []).bind fun r => svLeafK r.fst fun l => intK .i64 l fun n => (D F.laws_markDefS [.leaf (.sl c0_1 e0_1), .leaf (.int .i64 n)] []).bind fun r => svLeafK r.fst fun l => intK .i64 l fun n => (D F.laws_markRootS [.leaf (.sl c0_2 e0_2), .leaf (.int .i64 n)] []).bind fun r => svLeafK r.fst fun l => intK .i64 l fun n => some (.leaf (.int .i64 n), []) := by refine (run_names (J := d_laws_markSchema_A D) (by kernel_rfl) (fun _ _ => rfl) []).trans ?_; generalize d_laws_markSchema_A D = J; revert J; refine id ?_; intro J; kernel_rfl
section
variable (c0 : Fl true) (e0 : LT) (i1 i5 : Int)
def d_laws_markDirS_A := atA D F.laws_markDirS
def d_laws_markDirS_0 : PT := ([1, 0, 1, 0], St.mk ([.leaf (.sl c0 e0), .leaf (.int .i64 i1), .any, .any, .any, .leaf (.int .i64 i5)] ++ anyS 22) (noB 28))
theorem d_laws_markDirS_0_eq : d_laws_markDirS_A D (d_laws_markDirS_0 c0 e0 i1 i5) = branch (decide (i5 < (↑e0.length : Int))) ((D F.laws_markText [.leaf (.int .i64 i1)] []).bind fun r => svLeafK r.fst fun l => strK l fun s => guarded (decide (0 ≤ i5) && decide (i5 < (↑e0.length : Int)) && sized 2 e0) (if (c0.isSoft = true ∧ softAt (e0.getD i5.toNat []) 0 = true) ∧ ((.leaf (.str s) : SV true)).plain = true ∧ sizeT Tryz.prog 9 = some 1 then guarded (decide (0 ≤ i5) && decide (i5 < (↑e0.length : Int)) && sized 2 e0) (atK (e0.getD i5.toNat []) 1 fun l => slK l fun c es => (D F.laws_markArgS [.leaf (.sl c es), .leaf (.int .i64 (IntKind.i64.wrap (i1 + 1)))] []).bind fun r => svLeafK r.fst fun l => intK .i64 l fun n => d_laws_markDirS_A D (d_laws_markDirS_0 c0 e0 n (IntKind.i64.wrap (i5 + 1)))) else none)) (some (.leaf (.int .i64 i1), [])) := by refine (nameF_eq (J := d_laws_markDirS_A D) (fun _ _ => rfl) [[1, 0, 1, 0]] _).trans ?_; generalize d_laws_markDirS_A D = J; revert J; refine id ?_; intro J; kernel_rfl
theorem run_d_laws_markDirS : run2V Tryz.prog D Hs limR F.laws_markDirS [.leaf (.sl c0 e0), .leaf (.int .i64 i1)] [] = d_laws_markDirS_A D (d_laws_markDirS_0 c0 e0 i1 0) := by refine (run_names (J := d_laws_markDirS_A D) (by kernel_rfl) (fun _ _ => rfl) [[1, 0, 1, 0]]).trans ?_; generalize d_laws_markDirS_A D = J; revert J; refine id ?_; intro J; kernel_rfl
end
section
variable (c0 : Fl true) (e0 : LT) (n3 : Nat) (i4 : Int) (vx7 : List (SV true))
def d_laws_toDefS_A := atA D F.laws_toDefS
def d_laws_toDefS_0 : PT := ([1, 1, 0, 1, 0], St.mk ([.leaf (.sl c0 e0), .any, .any, .bsl 7 11 0 n3, .leaf (.int .i64 i4)] ++ anyS 18) (noB 7 ++ [some vx7] ++ noB 15))
theorem d_laws_toDefS_0_eq : d_laws_toDefS_A D (d_laws_toDefS_0 c0 e0 n3 i4 vx7) = branch (decide (i4 < (↑e0.length : Int))) (guarded (decide (0 ≤ i4) && decide (i4 < (↑e0.length : Int)) && sized 11 e0) (bindE (e0.getD i4.toNat []) fun e => atK e 0 fun l => intK .i64 l fun n => atK e 1 fun l => boolK l fun b => atK e 2 fun l => strK l fun s => atK e 3 fun l => strK l fun s_1 => atK e 4 fun l => slK l fun c es => atK e 5 fun l => slK l fun c_1 es_1 => atK e 6 fun l => slK l fun c_2 es_2 => atK e 7 fun l => slK l fun c_3 es_3 => atK e 8 fun l => slK l fun c_4 es_4 => atK e 9 fun l => boolK l fun b_1 => atK e 10 fun l => slK l fun c_5 es_5 => (D F.laws_toDef [.agg [.int .i64 n, .bool b, .str s, .str s_1, .sl c es, .sl c_1 es_1, .sl c_2 es_2, .sl c_3 es_3, .sl c_4 es_4, .bool b_1, .sl c_5 es_5]] []).bind fun r => svAggK r.fst fun cs => guarded (cs.length == 11) (atK cs 0 fun l => intK .i64 l fun n => atK cs 1 fun l => boolK l fun b => atK cs 2 fun l => strK l fun s => atK cs 3 fun l => strK l fun s_2 => atK cs 4 fun l => slK l fun c es => atK cs 5 fun l => slK l fun c_6 es_6 => atK cs 6 fun l => slK l fun c_7 es_7 => atK cs 7 fun l => slK l fun c_8 es_8 => atK cs 8 fun l => slK l fun c_9 es_9 => atK cs 9 fun l => boolK l fun b_2 => atK cs 10 fun l => slK l fun c_10 es_10 => guarded (decide (0 ≤ i4) && decide (i4 < (↑n3 : Int))) (guarded (decide ((0 + i4.toNat) * 11 + 11 ≤ vx7.length)) (d_laws_toDefS_A D (d_laws_toDefS_0 c0 e0 n3 (IntKind.i64.wrap (i4 + 1)) (putAt vx7 ((0 + i4.toNat) * 11) [.leaf (.int .i64 n), .leaf (.bool b), .leaf (.str s), .leaf (.str s_2), .leaf (.sl c es), .leaf (.sl c_6 es_6), .leaf (.sl c_7 es_7), .leaf (.sl c_8 es_8), .leaf (.sl c_9 es_9), .leaf (.bool b_2), .leaf (.sl c_10 es_10)]))))))) ((if n3 * 11 ≤ vx7.length ∧ 0 < 11 then match asLeaves (List.take (n3 * 11) vx7) with | some x => some ((fun l => .leaf (.sl (Fl.new true) (chunks 11 n3 l))) x) | none => none else none).bind fun v => guarded v.flatT (some (v, []))) := by refine (nameF_eq (J := d_laws_toDefS_A D) (fun _ _ => rfl) [[1, 1, 0, 1, 0]] _).trans ?_; generalize d_laws_toDefS_A D = J; revert J; refine id ?_; intro J; kernel_rfl
theorem run_d_laws_toDefS : run2V Tryz.prog D Hs limR F.laws_toDefS [.leaf (.sl c0 e0)] [] = guarded ((↑e0.length : Int) == (↑e0.length : Int) && decide ((↑e0.length : Int).toNat * 200 ≤ maxBytes) && decide ((↑e0.length : Int).toNat ≤ maxBytes)) (d_laws_toDefS_A D (d_laws_toDefS_0 c0 e0 (decide (0 ≤ (↑e0.length : Int)) && (↑e0.length : Int) == (↑e0.length : Int) && decide ((↑e0.length : Int).toNat * Tryz.prog.types[71].bytes ≤ maxBytes) && decide ((↑e0.length : Int).toNat ≤ maxBytes), (Tryz.prog.types[71].size, (↑e0.length : Int).toNat), List.map SV.leaf (List.replicate (↑e0.length : Int).toNat ((fun (x : List (Leaf true)) => .int .i64 0 :: x) ((fun (x : List (Leaf true)) => .bool false :: x) ((fun (x : List (Leaf true)) => .str (ByteArray.mk #[]) :: x) ((fun (x : List (Leaf true)) => .str (ByteArray.mk #[]) :: x) ((fun (x : List (Leaf true)) => .sl (Fl.new true) [] :: x) ((fun (x : List (Leaf true)) => .sl (Fl.new true) [] :: x) ((fun (x : List (Leaf true)) => .sl (Fl.new true) [] :: x) ((fun (x : List (Leaf true)) => .sl (Fl.new true) [] :: x) ((fun (x : List (Leaf true)) => .sl (Fl.new true) [] :: x) ((fun (x : List (Leaf true)) => .bool false :: x) ((fun (x : List (Leaf true)) => .sl (Fl.new true) [] :: x) [])))))))))))).flatten).snd.fst.snd 0 (decide (0 ≤ (↑e0.length : Int)) && (↑e0.length : Int) == (↑e0.length : Int) && decide ((↑e0.length : Int).toNat * Tryz.prog.types[71].bytes ≤ maxBytes) && decide ((↑e0.length : Int).toNat ≤ maxBytes), (Tryz.prog.types[71].size, (↑e0.length : Int).toNat), List.map SV.leaf (List.replicate (↑e0.length : Int).toNat ((fun (x : List (Leaf true)) => .int .i64 0 :: x) ((fun (x : List (Leaf true)) => .bool false :: x) ((fun (x : List (Leaf true)) => .str (ByteArray.mk #[]) :: x) ((fun (x : List (Leaf true)) => .str (ByteArray.mk #[]) :: x) ((fun (x : List (Leaf true)) => .sl (Fl.new true) [] :: x) ((fun (x : List (Leaf true)) => .sl (Fl.new true) [] :: x) ((fun (x : List (Leaf true)) => .sl (Fl.new true) [] :: x) ((fun (x : List (Leaf true)) => .sl (Fl.new true) [] :: x) ((fun (x : List (Leaf true)) => .sl (Fl.new true) [] :: x) ((fun (x : List (Leaf true)) => .bool false :: x) ((fun (x : List (Leaf true)) => .sl (Fl.new true) [] :: x) [])))))))))))).flatten).snd.snd)) := by refine (run_names (J := d_laws_toDefS_A D) (by kernel_rfl) (fun _ _ => rfl) [[1, 1, 0, 1, 0]]).trans ?_; generalize d_laws_toDefS_A D = J; revert J; refine id ?_; intro J; kernel_rfl
end
section
variable (c0 : Fl true) (e0 : LT) (n3 : Nat) (i4 : Int) (vx7 : List (SV true))
def d_laws_toRootS_A := atA D F.laws_toRootS
def d_laws_toRootS_0 : PT := ([1, 1, 0, 1, 0], St.mk ([.leaf (.sl c0 e0), .any, .any, .bsl 7 2 0 n3, .leaf (.int .i64 i4)] ++ anyS 18) (noB 7 ++ [some vx7] ++ noB 15))
theorem d_laws_toRootS_0_eq : d_laws_toRootS_A D (d_laws_toRootS_0 c0 e0 n3 i4 vx7) = branch (decide (i4 < (↑e0.length : Int))) (guarded (decide (0 ≤ i4) && decide (i4 < (↑e0.length : Int)) && sized 2 e0) (bindE (e0.getD i4.toNat []) fun e => atK e 0 fun l => intK .i64 l fun n => atK e 1 fun l => strK l fun s => (D F.laws_toRoot [.agg [.int .i64 n, .str s]] []).bind fun r => svAggK r.fst fun cs => guarded (cs.length == 2) (atK cs 0 fun l => intK .i64 l fun n => atK cs 1 fun l => strK l fun s => guarded (decide (0 ≤ i4) && decide (i4 < (↑n3 : Int))) (guarded (decide ((0 + i4.toNat) * 2 + 2 ≤ vx7.length)) (d_laws_toRootS_A D (d_laws_toRootS_0 c0 e0 n3 (IntKind.i64.wrap (i4 + 1)) (putAt vx7 ((0 + i4.toNat) * 2) [.leaf (.int .i64 n), .leaf (.str s)]))))))) ((if n3 * 2 ≤ vx7.length ∧ 0 < 2 then match asLeaves (List.take (n3 * 2) vx7) with | some x => some ((fun l => .leaf (.sl (Fl.new true) (chunks 2 n3 l))) x) | none => none else none).bind fun v => guarded v.flatT (some (v, []))) := by refine (nameF_eq (J := d_laws_toRootS_A D) (fun _ _ => rfl) [[1, 1, 0, 1, 0]] _).trans ?_; generalize d_laws_toRootS_A D = J; revert J; refine id ?_; intro J; kernel_rfl
theorem run_d_laws_toRootS : run2V Tryz.prog D Hs limR F.laws_toRootS [.leaf (.sl c0 e0)] [] = guarded ((↑e0.length : Int) == (↑e0.length : Int) && decide ((↑e0.length : Int).toNat * 24 ≤ maxBytes) && decide ((↑e0.length : Int).toNat ≤ maxBytes)) (d_laws_toRootS_A D (d_laws_toRootS_0 c0 e0 (decide (0 ≤ (↑e0.length : Int)) && (↑e0.length : Int) == (↑e0.length : Int) && decide ((↑e0.length : Int).toNat * Tryz.prog.types[185].bytes ≤ maxBytes) && decide ((↑e0.length : Int).toNat ≤ maxBytes), (Tryz.prog.types[185].size, (↑e0.length : Int).toNat), List.map SV.leaf (List.replicate (↑e0.length : Int).toNat ((fun (x : List (Leaf true)) => .int .i64 0 :: x) ((fun (x : List (Leaf true)) => .str (ByteArray.mk #[]) :: x) []))).flatten).snd.fst.snd 0 (decide (0 ≤ (↑e0.length : Int)) && (↑e0.length : Int) == (↑e0.length : Int) && decide ((↑e0.length : Int).toNat * Tryz.prog.types[185].bytes ≤ maxBytes) && decide ((↑e0.length : Int).toNat ≤ maxBytes), (Tryz.prog.types[185].size, (↑e0.length : Int).toNat), List.map SV.leaf (List.replicate (↑e0.length : Int).toNat ((fun (x : List (Leaf true)) => .int .i64 0 :: x) ((fun (x : List (Leaf true)) => .str (ByteArray.mk #[]) :: x) []))).flatten).snd.snd)) := by refine (run_names (J := d_laws_toRootS_A D) (by kernel_rfl) (fun _ _ => rfl) [[1, 1, 0, 1, 0]]).trans ?_; generalize d_laws_toRootS_A D = J; revert J; refine id ?_; intro J; kernel_rfl
end
def d_laws_toDir_A := atA D F.laws_toDir
theorem run_d_laws_toDir (s0_0 : ByteArray) (c0_1 : Fl true) (e0_1 : LT) : run2V Tryz.prog D Hs limR F.laws_toDir [.agg [.str s0_0, .sl c0_1 e0_1]] [] = (D F.laws_toArgS [.leaf (.sl c0_1 e0_1)] []).bind fun r => svSlK r.fst fun c es => some (.agg [.str s0_0, .sl c es], []) := by refine (run_names (J := d_laws_toDir_A D) (by kernel_rfl) (fun _ _ => rfl) []).trans ?_; generalize d_laws_toDir_A D = J; revert J; refine id ?_; intro J; kernel_rfl
section
variable (c0 : Fl true) (e0 : LT) (i1 i5 : Int)
def d_laws_markDefS_A := atA D F.laws_markDefS
def d_laws_markDefS_0 : PT := ([1, 0, 1, 0], St.mk ([.leaf (.sl c0 e0), .leaf (.int .i64 i1), .any, .any, .any, .leaf (.int .i64 i5)] ++ anyS 90) (noB 96))
theorem d_laws_markDefS_0_eq : d_laws_markDefS_A D (d_laws_markDefS_0 c0 e0 i1 i5) = branch (decide (i5 < (↑e0.length : Int))) (guarded (decide (0 ≤ i5) && decide (i5 < (↑e0.length : Int)) && sized 11 e0) (if (c0.isSoft = true ∧ softAt (e0.getD i5.toNat []) 0 = true) ∧ ((.leaf (.int .i64 i1) : SV true)).plain = true ∧ sizeT Tryz.prog 3 = some 1 then guarded (decide (0 ≤ i5) && decide (i5 < (↑e0.length : Int)) && sized 11 e0) (if (c0.isSoft = true ∧ softAt (e0.getD i5.toNat []) 1 = true) ∧ ((.leaf (.bool ((IntKind.i64.wrap (i1 + 1)).tmod 3 == 0)) : SV true)).plain = true ∧ sizeT Tryz.prog 4 = some 1 then (D F.laws_markText [.leaf (.int .i64 (IntKind.i64.wrap (IntKind.i64.wrap (i1 + 1) + 1)))] []).bind fun r => svLeafK r.fst fun l => strK l fun s => guarded (decide (0 ≤ i5) && decide (i5 < (↑e0.length : Int)) && sized 11 e0) (if (c0.isSoft = true ∧ softAt (e0.getD i5.toNat []) 2 = true) ∧ ((.leaf (.str s) : SV true)).plain = true ∧ sizeT Tryz.prog 9 = some 1 then (D F.laws_markText [.leaf (.int .i64 (IntKind.i64.wrap (IntKind.i64.wrap (IntKind.i64.wrap (i1 + 1) + 1) + 1)))] []).bind fun r => svLeafK r.fst fun l => strK l fun s => guarded (decide (0 ≤ i5) && decide (i5 < (↑e0.length : Int)) && sized 11 e0) (if (c0.isSoft = true ∧ softAt (e0.getD i5.toNat []) 3 = true) ∧ ((.leaf (.str s) : SV true)).plain = true ∧ sizeT Tryz.prog 9 = some 1 then guarded (decide (0 ≤ i5) && decide (i5 < (↑e0.length : Int)) && sized 11 e0) (atK (e0.getD i5.toNat []) 4 fun l => slK l fun c es => (D F.laws_markStringS [.leaf (.sl c es), .leaf (.int .i64 (IntKind.i64.wrap (IntKind.i64.wrap (IntKind.i64.wrap (IntKind.i64.wrap (i1 + 1) + 1) + 1) + 1)))] []).bind fun r => svLeafK r.fst fun l => intK .i64 l fun n => guarded (decide (0 ≤ i5) && decide (i5 < (↑e0.length : Int)) && sized 11 e0) (atK (e0.getD i5.toNat []) 5 fun l => slK l fun c es => (D F.laws_markFieldDefS [.leaf (.sl c es), .leaf (.int .i64 n)] []).bind fun r => svLeafK r.fst fun l => intK .i64 l fun n => guarded (decide (0 ≤ i5) && decide (i5 < (↑e0.length : Int)) && sized 11 e0) (atK (e0.getD i5.toNat []) 6 fun l => slK l fun c es => (D F.laws_markInDefS [.leaf (.sl c es), .leaf (.int .i64 n)] []).bind fun r => svLeafK r.fst fun l => intK .i64 l fun n => guarded (decide (0 ≤ i5) && decide (i5 < (↑e0.length : Int)) && sized 11 e0) (atK (e0.getD i5.toNat []) 7 fun l => slK l fun c es => (D F.laws_markEnumDefS [.leaf (.sl c es), .leaf (.int .i64 n)] []).bind fun r => svLeafK r.fst fun l => intK .i64 l fun n => guarded (decide (0 ≤ i5) && decide (i5 < (↑e0.length : Int)) && sized 11 e0) (atK (e0.getD i5.toNat []) 8 fun l => slK l fun c es => (D F.laws_markRootS [.leaf (.sl c es), .leaf (.int .i64 n)] []).bind fun r => svLeafK r.fst fun l => intK .i64 l fun n => guarded (decide (0 ≤ i5) && decide (i5 < (↑e0.length : Int)) && sized 11 e0) (if (c0.isSoft = true ∧ softAt (e0.getD i5.toNat []) 9 = true) ∧ ((.leaf (.bool (n.tmod 3 == 0)) : SV true)).plain = true ∧ sizeT Tryz.prog 4 = some 1 then guarded (decide (0 ≤ i5) && decide (i5 < (↑e0.length : Int)) && sized 11 e0) (atK (e0.getD i5.toNat []) 10 fun l => slK l fun c es => (D F.laws_markDirS [.leaf (.sl c es), .leaf (.int .i64 (IntKind.i64.wrap (n + 1)))] []).bind fun r => svLeafK r.fst fun l => intK .i64 l fun n => d_laws_markDefS_A D (d_laws_markDefS_0 c0 e0 n (IntKind.i64.wrap (i5 + 1)))) else none)))))) else none) else none) else none) else none)) (some (.leaf (.int .i64 i1), [])) := by refine (nameF_eq (J := d_laws_markDefS_A D) (fun _ _ => rfl) [[1, 0, 1, 0]] _).trans ?_; generalize d_laws_markDefS_A D = J; revert J; refine id ?_; intro J; kernel_rfl
theorem run_d_laws_markDefS : run2V Tryz.prog D Hs limR F.laws_markDefS [.leaf (.sl c0 e0), .leaf (.int .i64 i1)] [] = d_laws_markDefS_A D (d_laws_markDefS_0 c0 e0 i1 0) := by refine (run_names (J := d_laws_markDefS_A D) (by kernel_rfl) (fun _ _ => rfl) [[1, 0, 1, 0]]).trans ?_; generalize d_laws_markDefS_A D = J; revert J; refine id ?_; intro J; kernel_rfl
end
section
variable (c0 : Fl true) (e0 : LT) (i1 i5 : Int)
def d_laws_markRootS_A := atA D F.laws_markRootS
def d_laws_markRootS_0 : PT := ([1, 0, 1, 0], St.mk ([.leaf (.sl c0 e0), .leaf (.int .i64 i1), .any, .any, .any, .leaf (.int .i64 i5)] ++ anyS 22) (noB 28))
theorem d_laws_markRootS_0_eq : d_laws_markRootS_A D (d_laws_markRootS_0 c0 e0 i1 i5) = branch (decide (i5 < (↑e0.length : Int))) (guarded (decide (0 ≤ i5) && decide (i5 < (↑e0.length : Int)) && sized 2 e0) (if (c0.isSoft = true ∧ softAt (e0.getD i5.toNat []) 0 = true) ∧ ((.leaf (.int .i64 i1) : SV true)).plain = true ∧ sizeT Tryz.prog 3 = some 1 then (D F.laws_markText [.leaf (.int .i64 (IntKind.i64.wrap (i1 + 1)))] []).bind fun r => svLeafK r.fst fun l => strK l fun s => guarded (decide (0 ≤ i5) && decide (i5 < (↑e0.length : Int)) && sized 2 e0) (if (c0.isSoft = true ∧ softAt (e0.getD i5.toNat []) 1 = true) ∧ ((.leaf (.str s) : SV true)).plain = true ∧ sizeT Tryz.prog 9 = some 1 then d_laws_markRootS_A D (d_laws_markRootS_0 c0 e0 (IntKind.i64.wrap (IntKind.i64.wrap (i1 + 1) + 1)) (IntKind.i64.wrap (i5 + 1))) else none) else none)) (some (.leaf (.int .i64 i1), [])) := by refine (nameF_eq (J := d_laws_markRootS_A D) (fun _ _ => rfl) [[1, 0, 1, 0]] _).trans ?_; generalize d_laws_markRootS_A D = J; revert J; refine id ?_; intro J; kernel_rfl
theorem run_d_laws_markRootS : run2V Tryz.prog D Hs limR F.laws_markRootS [.leaf (.sl c0 e0), .leaf (.int .i64 i1)] [] = d_laws_markRootS_A D (d_laws_markRootS_0 c0 e0 i1 0) := by refine (run_names (J := d_laws_markRootS_A D) (by kernel_rfl) (fun _ _ => rfl) [[1, 0, 1, 0]]).trans ?_; generalize d_laws_markRootS_A D = J; revert J; refine id ?_; intro J; kernel_rfl
end
section
variable (c0 : Fl true) (e0 : LT) (i1 i5 : Int)
def d_laws_markArgS_A := atA D F.laws_markArgS
def d_laws_markArgS_0 : PT := ([1, 0, 1, 0], St.mk ([.leaf (.sl c0 e0), .leaf (.int .i64 i1), .any, .any, .any, .leaf (.int .i64 i5)] ++ anyS 48) (noB 54))
theorem d_laws_markArgS_0_eq : d_laws_markArgS_A D (d_laws_markArgS_0 c0 e0 i1 i5) = branch (decide (i5 < (↑e0.length : Int))) ((D F.laws_markText [.leaf (.int .i64 i1)] []).bind fun r => svLeafK r.fst fun l => strK l fun s => guarded (decide (0 ≤ i5) && decide (i5 < (↑e0.length : Int)) && sized 5 e0) (if (c0.isSoft = true ∧ softAt (e0.getD i5.toNat []) 0 = true) ∧ ((.leaf (.str s) : SV true)).plain = true ∧ sizeT Tryz.prog 9 = some 1 then guarded (decide (0 ≤ i5) && decide (i5 < (↑e0.length : Int)) && sized 5 e0) (if (c0.isSoft = true ∧ softAt (e0.getD i5.toNat []) 1 = true) ∧ ((.leaf (.int .i64 (IntKind.i64.wrap (i1 + 1))) : SV true)).plain = true ∧ sizeT Tryz.prog 3 = some 1 then (D F.laws_markText [.leaf (.int .i64 (IntKind.i64.wrap (IntKind.i64.wrap (i1 + 1) + 1)))] []).bind fun r => svLeafK r.fst fun l => strK l fun s => guarded (decide (0 ≤ i5) && decide (i5 < (↑e0.length : Int)) && sized 5 e0) (if (c0.isSoft = true ∧ softAt (e0.getD i5.toNat []) 2 = true) ∧ ((.leaf (.str s) : SV true)).plain = true ∧ sizeT Tryz.prog 9 = some 1 then guarded (decide (0 ≤ i5) && decide (i5 < (↑e0.length : Int)) && sized 5 e0) (atK (e0.getD i5.toNat []) 3 fun l => slK l fun c es => (D F.laws_markValueS [.leaf (.sl c es), .leaf (.int .i64 (IntKind.i64.wrap (IntKind.i64.wrap (IntKind.i64.wrap (i1 + 1) + 1) + 1)))] []).bind fun r => svLeafK r.fst fun l => intK .i64 l fun n => guarded (decide (0 ≤ i5) && decide (i5 < (↑e0.length : Int)) && sized 5 e0) (atK (e0.getD i5.toNat []) 4 fun l => slK l fun c es => (D F.laws_markStringS [.leaf (.sl c es), .leaf (.int .i64 n)] []).bind fun r => svLeafK r.fst fun l => intK .i64 l fun n => d_laws_markArgS_A D (d_laws_markArgS_0 c0 e0 n (IntKind.i64.wrap (i5 + 1))))) else none) else none) else none)) (some (.leaf (.int .i64 i1), [])) := by refine (nameF_eq (J := d_laws_markArgS_A D) (fun _ _ => rfl) [[1, 0, 1, 0]] _).trans ?_; generalize d_laws_markArgS_A D = J; revert J; refine id ?_; intro J; kernel_rfl
theorem run_d_laws_markArgS : run2V Tryz.prog D Hs limR F.laws_markArgS [.leaf (.sl c0 e0), .leaf (.int .i64 i1)] [] = d_laws_markArgS_A D (d_laws_markArgS_0 c0 e0 i1 0) := by refine (run_names (J := d_laws_markArgS_A D) (by kernel_rfl) (fun _ _ => rfl) [[1, 0, 1, 0]]).trans ?_; generalize d_laws_markArgS_A D = J; revert J; refine id ?_; intro J; kernel_rfl
end
def d_laws_toDef_A := atA D F.laws_toDef
theorem run_d_laws_toDef (i0_0 : Int) (b0_1 : Bool) (s0_2 s0_3 : ByteArray) (c0_4 : Fl true) (e0_4 : LT) (c0_5 : Fl true) (e0_5 : LT) (c0_6 : Fl true) (e0_6 : LT) (c0_7 : Fl true) (e0_7 : LT) (c0_8 : Fl true) (e0_8 : LT) (b0_9 : Bool) (c0_10 : Fl true) (e0_10 : LT) : run2V Tryz.prog D Hs limR F.laws_toDef [.agg [.int .i64 i0_0, .bool b0_1, .str s0_2, .str s0_3, .sl c0_4 e0_4, .sl c0_5 e0_5, .sl c0_6 e0_6, .sl c0_7 e0_7, .sl c0_8 e0_8, .bool b0_9, .sl c0_10 e0_10]] [] = (D F.laws_toStringS [.leaf (.sl c0_4 e0_4)] []).bind fun r => svSlK r.fst fun c es => (D F.laws_toFieldDefS [.leaf (.sl c0_5 e0_5)] []).bind fun r => svSlK r.fst fun c_1 es_1 => (D F.laws_toInDefS [.leaf (.sl c0_6 e0_6)] []).bind fun r => svSlK r.fst fun c_2 es_2 => (D F.laws_toEnumDefS [.leaf (.sl c0_7 e0_7)] []).bind fun r => svSlK r.fst fun c_3 es_3 => (D F.laws_toRootS [.leaf (.sl c0_8 e0_8)] []).bind fun r => svSlK r.fst fun c_4 es_4 => (D F.laws_toDirS [.leaf (.sl c0_10 e0_10)] []).bind fun r => svSlK r.fst fun c_5 es_5 => some (.agg [.int .i64 i0_0, .bool b0_1, .str s0_2, .str s0_3, .sl c es, .sl c_1 es_1, .sl c_2 es_2, .sl c_3 es_3, .sl c_4 es_4, .bool b0_9, .sl c_5 es_5], []) := by refine (run_names (J := d_laws_toDef_A D) (by kernel_rfl) (fun _ _ => rfl) []).trans ?_; generalize d_laws_toDef_A D = J; revert J; refine id ?_; intro J; kernel_rfl
def d_laws_toRoot_A := atA D F.laws_toRoot
theorem run_d_laws_toRoot (i0_0 : Int) (s0_1 : ByteArray) : run2V Tryz.prog D Hs limR F.laws_toRoot [.agg [.int .i64 i0_0, .str s0_1]] [] = some (.agg [.int .i64 i0_0, .str s0_1], []) := by refine (run_names (J := d_laws_toRoot_A D) (by kernel_rfl) (fun _ _ => rfl) []).trans ?_; generalize d_laws_toRoot_A D = J; revert J; refine id ?_; intro J; kernel_rfl
section
variable (c0 : Fl true) (e0 : LT) (n3 : Nat) (i4 : Int) (vx7 : List (SV true))
def d_laws_toArgS_A := atA D F.laws_toArgS
def d_laws_toArgS_0 : PT := ([1, 1, 0, 1, 0], St.mk ([.leaf (.sl c0 e0), .any, .any, .bsl 7 5 0 n3, .leaf (.int .i64 i4)] ++ anyS 18) (noB 7 ++ [some vx7] ++ noB 15))
theorem d_laws_toArgS_0_eq : d_laws_toArgS_A D (d_laws_toArgS_0 c0 e0 n3 i4 vx7) = branch (decide (i4 < (↑e0.length : Int))) (guarded (decide (0 ≤ i4) && decide (i4 < (↑e0.length : Int)) && sized 5 e0) (bindE (e0.getD i4.toNat []) fun e => atK e 0 fun l => strK l fun s => atK e 1 fun l => intK .i64 l fun n => atK e 2 fun l => strK l fun s_1 => atK e 3 fun l => slK l fun c es => atK e 4 fun l => slK l fun c_1 es_1 => (D F.laws_toArg [.agg [.str s, .int .i64 n, .str s_1, .sl c es, .sl c_1 es_1]] []).bind fun r => svAggK r.fst fun cs => guarded (cs.length == 5) (atK cs 0 fun l => strK l fun s => atK cs 1 fun l => intK .i64 l fun n => atK cs 2 fun l => strK l fun s_2 => atK cs 3 fun l => slK l fun c es => atK cs 4 fun l => slK l fun c_2 es_2 => guarded (decide (0 ≤ i4) && decide (i4 < (↑n3 : Int))) (guarded (decide ((0 + i4.toNat) * 5 + 5 ≤ vx7.length)) (d_laws_toArgS_A D (d_laws_toArgS_0 c0 e0 n3 (IntKind.i64.wrap (i4 + 1)) (putAt vx7 ((0 + i4.toNat) * 5) [.leaf (.str s), .leaf (.int .i64 n), .leaf (.str s_2), .leaf (.sl c es), .leaf (.sl c_2 es_2)]))))))) ((if n3 * 5 ≤ vx7.length ∧ 0 < 5 then match asLeaves (List.take (n3 * 5) vx7) with | some x => some ((fun l => .leaf (.sl (Fl.new true) (chunks 5 n3 l))) x) | none => none else none).bind fun v => guarded v.flatT (some (v, []))) := by refine (nameF_eq (J := d_laws_toArgS_A D) (fun _ _ => rfl) [[1, 1, 0, 1, 0]] _).trans ?_; generalize d_laws_toArgS_A D = J; revert J; refine id ?_; intro J; kernel_rfl
theorem run_d_laws_toArgS : run2V Tryz.prog D Hs limR F.laws_toArgS [.leaf (.sl c0 e0)] [] = guarded ((↑e0.length : Int) == (↑e0.length : Int) && decide ((↑e0.length : Int).toNat * 88 ≤ maxBytes) && decide ((↑e0.length : Int).toNat ≤ maxBytes)) (d_laws_toArgS_A D (d_laws_toArgS_0 c0 e0 (decide (0 ≤ (↑e0.length : Int)) && (↑e0.length : Int) == (↑e0.length : Int) && decide ((↑e0.length : Int).toNat * Tryz.prog.types[105].bytes ≤ maxBytes) && decide ((↑e0.length : Int).toNat ≤ maxBytes), (Tryz.prog.types[105].size, (↑e0.length : Int).toNat), List.map SV.leaf (List.replicate (↑e0.length : Int).toNat ((fun (x : List (Leaf true)) => .str (ByteArray.mk #[]) :: x) ((fun (x : List (Leaf true)) => .int .i64 0 :: x) ((fun (x : List (Leaf true)) => .str (ByteArray.mk #[]) :: x) ((fun (x : List (Leaf true)) => .sl (Fl.new true) [] :: x) ((fun (x : List (Leaf true)) => .sl (Fl.new true) [] :: x) [])))))).flatten).snd.fst.snd 0 (decide (0 ≤ (↑e0.length : Int)) && (↑e0.length : Int) == (↑e0.length : Int) && decide ((↑e0.length : Int).toNat * Tryz.prog.types[105].bytes ≤ maxBytes) && decide ((↑e0.length : Int).toNat ≤ maxBytes), (Tryz.prog.types[105].size, (↑e0.length : Int).toNat), List.map SV.leaf (List.replicate (↑e0.length : Int).toNat ((fun (x : List (Leaf true)) => .str (ByteArray.mk #[]) :: x) ((fun (x : List (Leaf true)) => .int .i64 0 :: x) ((fun (x : List (Leaf true)) => .str (ByteArray.mk #[]) :: x) ((fun (x : List (Leaf true)) => .sl (Fl.new true) [] :: x) ((fun (x : List (Leaf true)) => .sl (Fl.new true) [] :: x) [])))))).flatten).snd.snd)) := by refine (run_names (J := d_laws_toArgS_A D) (by kernel_rfl) (fun _ _ => rfl) [[1, 1, 0, 1, 0]]).trans ?_; generalize d_laws_toArgS_A D = J; revert J; refine id ?_; intro J; kernel_rfl
end
section
variable (c0 : Fl true) (e0 : LT) (i1 i5 : Int)
def d_laws_markStringS_A := atA D F.laws_markStringS
def d_laws_markStringS_0 : PT := ([1, 0, 1, 0], St.mk ([.leaf (.sl c0 e0), .leaf (.int .i64 i1), .any, .any, .any, .leaf (.int .i64 i5)] ++ anyS 14) (noB 20))
theorem d_laws_markStringS_0_eq : d_laws_markStringS_A D (d_laws_markStringS_0 c0 e0 i1 i5) = branch (decide (i5 < (↑e0.length : Int))) ((D F.laws_markText [.leaf (.int .i64 i1)] []).bind fun r => svLeafK r.fst fun l => strK l fun s => guarded (decide (0 ≤ i5) && decide (i5 < (↑e0.length : Int)) && sized 1 e0) (if (c0.isSoft = true ∧ softAt (e0.getD i5.toNat []) 0 = true) ∧ ((.leaf (.str s) : SV true)).plain = true ∧ sizeT Tryz.prog 9 = some 1 then d_laws_markStringS_A D (d_laws_markStringS_0 c0 e0 (IntKind.i64.wrap (i1 + 1)) (IntKind.i64.wrap (i5 + 1))) else none)) (some (.leaf (.int .i64 i1), [])) := by refine (nameF_eq (J := d_laws_markStringS_A D) (fun _ _ => rfl) [[1, 0, 1, 0]] _).trans ?_; generalize d_laws_markStringS_A D = J; revert J; refine id ?_; intro J; kernel_rfl
theorem run_d_laws_markStringS : run2V Tryz.prog D Hs limR F.laws_markStringS [.leaf (.sl c0 e0), .leaf (.int .i64 i1)] [] = d_laws_markStringS_A D (d_laws_markStringS_0 c0 e0 i1 0) := by refine (run_names (J := d_laws_markStringS_A D) (by kernel_rfl) (fun _ _ => rfl) [[1, 0, 1, 0]]).trans ?_; generalize d_laws_markStringS_A D = J; revert J; refine id ?_; intro J; kernel_rfl
end
section
variable (c0 : Fl true) (e0 : LT) (i1 i5 : Int)
def d_laws_markFieldDefS_A := atA D F.laws_markFieldDefS
def d_laws_markFieldDefS_0 : PT := ([1, 0, 1, 0], St.mk ([.leaf (.sl c0 e0), .leaf (.int .i64 i1), .any, .any, .any, .leaf (.int .i64 i5)] ++ anyS 55) (noB 61))
theorem d_laws_markFieldDefS_0_eq : d_laws_markFieldDefS_A D (d_laws_markFieldDefS_0 c0 e0 i1 i5) = branch (decide (i5 < (↑e0.length : Int))) ((D F.laws_markText [.leaf (.int .i64 i1)] []).bind fun r => svLeafK r.fst fun l => strK l fun s => guarded (decide (0 ≤ i5) && decide (i5 < (↑e0.length : Int)) && sized 6 e0) (if (c0.isSoft = true ∧ softAt (e0.getD i5.toNat []) 0 = true) ∧ ((.leaf (.str s) : SV true)).plain = true ∧ sizeT Tryz.prog 9 = some 1 then (D F.laws_markText [.leaf (.int .i64 (IntKind.i64.wrap (i1 + 1)))] []).bind fun r => svLeafK r.fst fun l => strK l fun s => guarded (decide (0 ≤ i5) && decide (i5 < (↑e0.length : Int)) && sized 6 e0) (if (c0.isSoft = true ∧ softAt (e0.getD i5.toNat []) 1 = true) ∧ ((.leaf (.str s) : SV true)).plain = true ∧ sizeT Tryz.prog 9 = some 1 then guarded (decide (0 ≤ i5) && decide (i5 < (↑e0.length : Int)) && sized 6 e0) (atK (e0.getD i5.toNat []) 2 fun l => slK l fun c es => (D F.laws_markInDefS [.leaf (.sl c es), .leaf (.int .i64 (IntKind.i64.wrap (IntKind.i64.wrap (i1 + 1) + 1)))] []).bind fun r => svLeafK r.fst fun l => intK .i64 l fun n => (D F.laws_markText [.leaf (.int .i64 n)] []).bind fun r => svLeafK r.fst fun l => strK l fun s => guarded (decide (0 ≤ i5) && decide (i5 < (↑e0.length : Int)) && sized 6 e0) (if (c0.isSoft = true ∧ softAt (e0.getD i5.toNat []) 3 = true) ∧ ((.leaf (.str s) : SV true)).plain = true ∧ sizeT Tryz.prog 9 = some 1 then (D F.laws_markText [.leaf (.int .i64 (IntKind.i64.wrap (n + 1)))] []).bind fun r => svLeafK r.fst fun l => strK l fun s => guarded (decide (0 ≤ i5) && decide (i5 < (↑e0.length : Int)) && sized 6 e0) (if (c0.isSoft = true ∧ softAt (e0.getD i5.toNat []) 4 = true) ∧ ((.leaf (.str s) : SV true)).plain = true ∧ sizeT Tryz.prog 9 = some 1 then guarded (decide (0 ≤ i5) && decide (i5 < (↑e0.length : Int)) && sized 6 e0) (atK (e0.getD i5.toNat []) 5 fun l => slK l fun c es => (D F.laws_markDirS [.leaf (.sl c es), .leaf (.int .i64 (IntKind.i64.wrap (IntKind.i64.wrap (n + 1) + 1)))] []).bind fun r => svLeafK r.fst fun l => intK .i64 l fun n => d_laws_markFieldDefS_A D (d_laws_markFieldDefS_0 c0 e0 n (IntKind.i64.wrap (i5 + 1)))) else none) else none)) else none) else none)) (some (.leaf (.int .i64 i1), [])) := by refine (nameF_eq (J := d_laws_markFieldDefS_A D) (fun _ _ => rfl) [[1, 0, 1, 0]] _).trans ?_; generalize d_laws_markFieldDefS_A D = J; revert J; refine id ?_; intro J; kernel_rfl
theorem run_d_laws_markFieldDefS : run2V Tryz.prog D Hs limR F.laws_markFieldDefS [.leaf (.sl c0 e0), .leaf (.int .i64 i1)] [] = d_laws_markFieldDefS_A D (d_laws_markFieldDefS_0 c0 e0 i1 0) := by refine (run_names (J := d_laws_markFieldDefS_A D) (by kernel_rfl) (fun _ _ => rfl) [[1, 0, 1, 0]]).trans ?_; generalize d_laws_markFieldDefS_A D = J; revert J; refine id ?_; intro J; kernel_rfl
end
section
variable (c0 : Fl true) (e0 : LT) (i1 i5 : Int)
def d_laws_markInDefS_A := atA D F.laws_markInDefS
def d_laws_markInDefS_0 : PT := ([1, 0, 1, 0], St.mk ([.leaf (.sl c0 e0), .leaf (.int .i64 i1), .any, .any, .any, .leaf (.int .i64 i5)] ++ anyS 90) (noB 96))
theorem d_laws_markInDefS_0_eq : d_laws_markInDefS_A D (d_laws_markInDefS_0 c0 e0 i1 i5) = branch (decide (i5 < (↑e0.length : Int))) ((D F.laws_markText [.leaf (.int .i64 i1)] []).bind fun r => svLeafK r.fst fun l => strK l fun s => guarded (decide (0 ≤ i5) && decide (i5 < (↑e0.length : Int)) && sized 10 e0) (if (c0.isSoft = true ∧ softAt (e0.getD i5.toNat []) 0 = true) ∧ ((.leaf (.str s) : SV true)).plain = true ∧ sizeT Tryz.prog 9 = some 1 then (D F.laws_markText [.leaf (.int .i64 (IntKind.i64.wrap (i1 + 1)))] []).bind fun r => svLeafK r.fst fun l => strK l fun s => guarded (decide (0 ≤ i5) && decide (i5 < (↑e0.length : Int)) && sized 10 e0) (if (c0.isSoft = true ∧ softAt (e0.getD i5.toNat []) 1 = true) ∧ ((.leaf (.str s) : SV true)).plain = true ∧ sizeT Tryz.prog 9 = some 1 then (D F.laws_markText [.leaf (.int .i64 (IntKind.i64.wrap (IntKind.i64.wrap (i1 + 1) + 1)))] []).bind fun r => svLeafK r.fst fun l => strK l fun s => guarded (decide (0 ≤ i5) && decide (i5 < (↑e0.length : Int)) && sized 10 e0) (if (c0.isSoft = true ∧ softAt (e0.getD i5.toNat []) 2 = true) ∧ ((.leaf (.str s) : SV true)).plain = true ∧ sizeT Tryz.prog 9 = some 1 then (D F.laws_markText [.leaf (.int .i64 (IntKind.i64.wrap (IntKind.i64.wrap (IntKind.i64.wrap (i1 + 1) + 1) + 1)))] []).bind fun r => svLeafK r.fst fun l => strK l fun s => guarded (decide (0 ≤ i5) && decide (i5 < (↑e0.length : Int)) && sized 10 e0) (if (c0.isSoft = true ∧ softAt (e0.getD i5.toNat []) 3 = true) ∧ ((.leaf (.str s) : SV true)).plain = true ∧ sizeT Tryz.prog 9 = some 1 then guarded (decide (0 ≤ i5) && decide (i5 < (↑e0.length : Int)) && sized 10 e0) (if (c0.isSoft = true ∧ softAt (e0.getD i5.toNat []) 4 = true) ∧ ((.leaf (.bool ((IntKind.i64.wrap (IntKind.i64.wrap (IntKind.i64.wrap (IntKind.i64.wrap (i1 + 1) + 1) + 1) + 1)).tmod 3 == 0)) : SV true)).plain = true ∧ sizeT Tryz.prog 4 = some 1 then guarded (decide (0 ≤ i5) && decide (i5 < (↑e0.length : Int)) && sized 10 e0) (if (c0.isSoft = true ∧ softAt (e0.getD i5.toNat []) 5 = true) ∧ ((.leaf (.int .i64 (IntKind.i64.wrap (IntKind.i64.wrap (IntKind.i64.wrap (IntKind.i64.wrap (IntKind.i64.wrap (i1 + 1) + 1) + 1) + 1) + 1))) : SV true)).plain = true ∧ sizeT Tryz.prog 3 = some 1 then (D F.laws_markText [.leaf (.int .i64 (IntKind.i64.wrap (IntKind.i64.wrap (IntKind.i64.wrap (IntKind.i64.wrap (IntKind.i64.wrap (IntKind.i64.wrap (i1 + 1) + 1) + 1) + 1) + 1) + 1)))] []).bind fun r => svLeafK r.fst fun l => strK l fun s => guarded (decide (0 ≤ i5) && decide (i5 < (↑e0.length : Int)) && sized 10 e0) (if (c0.isSoft = true ∧ softAt (e0.getD i5.toNat []) 6 = true) ∧ ((.leaf (.str s) : SV true)).plain = true ∧ sizeT Tryz.prog 9 = some 1 then guarded (decide (0 ≤ i5) && decide (i5 < (↑e0.length : Int)) && sized 10 e0) (atK (e0.getD i5.toNat []) 7 fun l => slK l fun c es => (D F.laws_markValueS [.leaf (.sl c es), .leaf (.int .i64 (IntKind.i64.wrap (IntKind.i64.wrap (IntKind.i64.wrap (IntKind.i64.wrap (IntKind.i64.wrap (IntKind.i64.wrap (IntKind.i64.wrap (i1 + 1) + 1) + 1) + 1) + 1) + 1) + 1)))] []).bind fun r => svLeafK r.fst fun l => intK .i64 l fun n => guarded (decide (0 ≤ i5) && decide (i5 < (↑e0.length : Int)) && sized 10 e0) (atK (e0.getD i5.toNat []) 8 fun l => slK l fun c es => (D F.laws_markStringS [.leaf (.sl c es), .leaf (.int .i64 n)] []).bind fun r => svLeafK r.fst fun l => intK .i64 l fun n => guarded (decide (0 ≤ i5) && decide (i5 < (↑e0.length : Int)) && sized 10 e0) (atK (e0.getD i5.toNat []) 9 fun l => slK l fun c es => (D F.laws_markDirS [.leaf (.sl c es), .leaf (.int .i64 n)] []).bind fun r => svLeafK r.fst fun l => intK .i64 l fun n => d_laws_markInDefS_A D (d_laws_markInDefS_0 c0 e0 n (IntKind.i64.wrap (i5 + 1)))))) else none) else none) else none) else none) else none) else none) else none)) (some (.leaf (.int .i64 i1), [])) := by refine (nameF_eq (J := d_laws_markInDefS_A D) (fun _ _ => rfl) [[1, 0, 1, 0]] _).trans ?_; generalize d_laws_markInDefS_A D = J; revert J; refine id ?_; intro J; kernel_rfl
theorem run_d_laws_markInDefS : run2V Tryz.prog D Hs limR F.laws_markInDefS [.leaf (.sl c0 e0), .leaf (.int .i64 i1)] [] = d_laws_markInDefS_A D (d_laws_markInDefS_0 c0 e0 i1 0) := by refine (run_names (J := d_laws_markInDefS_A D) (by kernel_rfl) (fun _ _ => rfl) [[1, 0, 1, 0]]).trans ?_; generalize d_laws_markInDefS_A D = J; revert J; refine id ?_; intro J; kernel_rfl
end
section
variable (c0 : Fl true) (e0 : LT) (i1 i5 : Int)
def d_laws_markEnumDefS_A := atA D F.laws_markEnumDefS
def d_laws_markEnumDefS_0 : PT := ([1, 0, 1, 0], St.mk ([.leaf (.sl c0 e0), .leaf (.int .i64 i1), .any, .any, .any, .leaf (.int .i64 i5)] ++ anyS 30) (noB 36))
theorem d_laws_markEnumDefS_0_eq : d_laws_markEnumDefS_A D (d_laws_markEnumDefS_0 c0 e0 i1 i5) = branch (decide (i5 < (↑e0.length : Int))) ((D F.laws_markText [.leaf (.int .i64 i1)] []).bind fun r => svLeafK r.fst fun l => strK l fun s => guarded (decide (0 ≤ i5) && decide (i5 < (↑e0.length : Int)) && sized 3 e0) (if (c0.isSoft = true ∧ softAt (e0.getD i5.toNat []) 0 = true) ∧ ((.leaf (.str s) : SV true)).plain = true ∧ sizeT Tryz.prog 9 = some 1 then (D F.laws_markText [.leaf (.int .i64 (IntKind.i64.wrap (i1 + 1)))] []).bind fun r => svLeafK r.fst fun l => strK l fun s => guarded (decide (0 ≤ i5) && decide (i5 < (↑e0.length : Int)) && sized 3 e0) (if (c0.isSoft = true ∧ softAt (e0.getD i5.toNat []) 1 = true) ∧ ((.leaf (.str s) : SV true)).plain = true ∧ sizeT Tryz.prog 9 = some 1 then guarded (decide (0 ≤ i5) && decide (i5 < (↑e0.length : Int)) && sized 3 e0) (atK (e0.getD i5.toNat []) 2 fun l => slK l fun c es => (D F.laws_markDirS [.leaf (.sl c es), .leaf (.int .i64 (IntKind.i64.wrap (IntKind.i64.wrap (i1 + 1) + 1)))] []).bind fun r => svLeafK r.fst fun l => intK .i64 l fun n => d_laws_markEnumDefS_A D (d_laws_markEnumDefS_0 c0 e0 n (IntKind.i64.wrap (i5 + 1)))) else none) else none)) (some (.leaf (.int .i64 i1), [])) := by refine (nameF_eq (J := d_laws_markEnumDefS_A D) (fun _ _ => rfl) [[1, 0, 1, 0]] _).trans ?_; generalize d_laws_markEnumDefS_A D = J; revert J; refine id ?_; intro J; kernel_rfl
theorem run_d_laws_markEnumDefS : run2V Tryz.prog D Hs limR F.laws_markEnumDefS [.leaf (.sl c0 e0), .leaf (.int .i64 i1)] [] = d_laws_markEnumDefS_A D (d_laws_markEnumDefS_0 c0 e0 i1 0) := by refine (run_names (J := d_laws_markEnumDefS_A D) (by kernel_rfl) (fun _ _ => rfl) [[1, 0, 1, 0]]).trans ?_; generalize d_laws_markEnumDefS_A D = J; revert J; refine id ?_; intro J; kernel_rfl
end
section
variable (c0 : Fl true) (e0 : LT) (i1 i5 : Int)
def d_laws_markValueS_A := atA D F.laws_markValueS
def d_laws_markValueS_0 : PT := ([1, 0, 1, 0], St.mk ([.leaf (.sl c0 e0), .leaf (.int .i64 i1), .any, .any, .any, .leaf (.int .i64 i5)] ++ anyS 36) (noB 42))
theorem d_laws_markValueS_0_eq : d_laws_markValueS_A D (d_laws_markValueS_0 c0 e0 i1 i5) = branch (decide (i5 < (↑e0.length : Int))) (guarded (decide (0 ≤ i5) && decide (i5 < (↑e0.length : Int)) && sized 4 e0) (if (c0.isSoft = true ∧ softAt (e0.getD i5.toNat []) 0 = true) ∧ ((.leaf (.int .i64 i1) : SV true)).plain = true ∧ sizeT Tryz.prog 3 = some 1 then (D F.laws_markText [.leaf (.int .i64 (IntKind.i64.wrap (i1 + 1)))] []).bind fun r => svLeafK r.fst fun l => strK l fun s => guarded (decide (0 ≤ i5) && decide (i5 < (↑e0.length : Int)) && sized 4 e0) (if (c0.isSoft = true ∧ softAt (e0.getD i5.toNat []) 1 = true) ∧ ((.leaf (.str s) : SV true)).plain = true ∧ sizeT Tryz.prog 9 = some 1 then guarded (decide (0 ≤ i5) && decide (i5 < (↑e0.length : Int)) && sized 4 e0) (atK (e0.getD i5.toNat []) 2 fun l => slK l fun c es => (D F.laws_markValueS [.leaf (.sl c es), .leaf (.int .i64 (IntKind.i64.wrap (IntKind.i64.wrap (i1 + 1) + 1)))] []).bind fun r => svLeafK r.fst fun l => intK .i64 l fun n => guarded (decide (0 ≤ i5) && decide (i5 < (↑e0.length : Int)) && sized 4 e0) (atK (e0.getD i5.toNat []) 3 fun l => slK l fun c es => (D F.laws_markStringS [.leaf (.sl c es), .leaf (.int .i64 n)] []).bind fun r => svLeafK r.fst fun l => intK .i64 l fun n => d_laws_markValueS_A D (d_laws_markValueS_0 c0 e0 n (IntKind.i64.wrap (i5 + 1))))) else none) else none)) (some (.leaf (.int .i64 i1), [])) := by refine (nameF_eq (J := d_laws_markValueS_A D) (fun _ _ => rfl) [[1, 0, 1, 0]] _).trans ?_; generalize d_laws_markValueS_A D = J; revert J; refine id ?_; intro J; kernel_rfl
theorem run_d_laws_markValueS : run2V Tryz.prog D Hs limR F.laws_markValueS [.leaf (.sl c0 e0), .leaf (.int .i64 i1)] [] = d_laws_markValueS_A D (d_laws_markValueS_0 c0 e0 i1 0) := by refine (run_names (J := d_laws_markValueS_A D) (by kernel_rfl) (fun _ _ => rfl) [[1, 0, 1, 0]]).trans ?_; generalize d_laws_markValueS_A D = J; revert J; refine id ?_; intro J; kernel_rfl
end
section
variable (c0 : Fl true) (e0 : LT) (n3 : Nat) (i4 : Int) (vx7 : List (SV true))
def d_laws_toStringS_A := atA D F.laws_toStringS
def d_laws_toStringS_0 : PT := ([1, 1, 0, 1, 0], St.mk ([.leaf (.sl c0 e0), .any, .any, .bsl 7 1 0 n3, .leaf (.int .i64 i4)] ++ anyS 17) (noB 7 ++ [some vx7] ++ noB 14))
theorem d_laws_toStringS_0_eq : d_laws_toStringS_A D (d_laws_toStringS_0 c0 e0 n3 i4 vx7) = branch (decide (i4 < (↑e0.length : Int))) (guarded (decide (0 ≤ i4) && decide (i4 < (↑e0.length : Int)) && sized 1 e0) (atK (e0.getD i4.toNat []) 0 fun l => strK l fun s => guarded (decide (0 ≤ i4) && decide (i4 < (↑n3 : Int))) (guarded (decide ((0 + i4.toNat) * 1 + 1 ≤ vx7.length)) (d_laws_toStringS_A D (d_laws_toStringS_0 c0 e0 n3 (IntKind.i64.wrap (i4 + 1)) (putAt vx7 ((0 + i4.toNat) * 1) [.leaf (.str s)])))))) ((if n3 * 1 ≤ vx7.length ∧ 0 < 1 then match asLeaves (List.take (n3 * 1) vx7) with | some x => some ((fun l => .leaf (.sl (Fl.new true) (chunks 1 n3 l))) x) | none => none else none).bind fun v => guarded v.flatT (some (v, []))) := by refine (nameF_eq (J := d_laws_toStringS_A D) (fun _ _ => rfl) [[1, 1, 0, 1, 0]] _).trans ?_; generalize d_laws_toStringS_A D = J; revert J; refine id ?_; intro J; kernel_rfl
theorem run_d_laws_toStringS : run2V Tryz.prog D Hs limR F.laws_toStringS [.leaf (.sl c0 e0)] [] = guarded ((↑e0.length : Int) == (↑e0.length : Int) && decide ((↑e0.length : Int).toNat * 16 ≤ maxBytes) && decide ((↑e0.length : Int).toNat ≤ maxBytes)) (d_laws_toStringS_A D (d_laws_toStringS_0 c0 e0 (decide (0 ≤ (↑e0.length : Int)) && (↑e0.length : Int) == (↑e0.length : Int) && decide ((↑e0.length : Int).toNat * Tryz.prog.types[9].bytes ≤ maxBytes) && decide ((↑e0.length : Int).toNat ≤ maxBytes), (Tryz.prog.types[9].size, (↑e0.length : Int).toNat), List.map SV.leaf (List.replicate (↑e0.length : Int).toNat ((fun (x : List (Leaf true)) => .str (ByteArray.mk #[]) :: x) [])).flatten).snd.fst.snd 0 (decide (0 ≤ (↑e0.length : Int)) && (↑e0.length : Int) == (↑e0.length : Int) && decide ((↑e0.length : Int).toNat * Tryz.prog.types[9].bytes ≤ maxBytes) && decide ((↑e0.length : Int).toNat ≤ maxBytes), (Tryz.prog.types[9].size, (↑e0.length : Int).toNat), List.map SV.leaf (List.replicate (↑e0.length : Int).toNat ((fun (x : List (Leaf true)) => .str (ByteArray.mk #[]) :: x) [])).flatten).snd.snd)) := by refine (run_names (J := d_laws_toStringS_A D) (by kernel_rfl) (fun _ _ => rfl) [[1, 1, 0, 1, 0]]).trans ?_; generalize d_laws_toStringS_A D = J; revert J; refine id ?_; intro J; kernel_rfl
end
section
variable (c0 : Fl true) (e0 : LT) (n3 : Nat) (i4 : Int) (vx7 : List (SV true))
def d_laws_toFieldDefS_A := atA D F.laws_toFieldDefS
def d_laws_toFieldDefS_0 : PT := ([1, 1, 0, 1, 0], St.mk ([.leaf (.sl c0 e0), .any, .any, .bsl 7 6 0 n3, .leaf (.int .i64 i4)] ++ anyS 18) (noB 7 ++ [some vx7] ++ noB 15))
theorem d_laws_toFieldDefS_0_eq : d_laws_toFieldDefS_A D (d_laws_toFieldDefS_0 c0 e0 n3 i4 vx7) = branch (decide (i4 < (↑e0.length : Int))) (guarded (decide (0 ≤ i4) && decide (i4 < (↑e0.length : Int)) && sized 6 e0) (bindE (e0.getD i4.toNat []) fun e => atK e 0 fun l => strK l fun s => atK e 1 fun l => strK l fun s_1 => atK e 2 fun l => slK l fun c es => atK e 3 fun l => strK l fun s_2 => atK e 4 fun l => strK l fun s_3 => atK e 5 fun l => slK l fun c_1 es_1 => (D F.laws_toFieldDef [.agg [.str s, .str s_1, .sl c es, .str s_2, .str s_3, .sl c_1 es_1]] []).bind fun r => svAggK r.fst fun cs => guarded (cs.length == 6) (atK cs 0 fun l => strK l fun s => atK cs 1 fun l => strK l fun s_4 => atK cs 2 fun l => slK l fun c es => atK cs 3 fun l => strK l fun s_5 => atK cs 4 fun l => strK l fun s_6 => atK cs 5 fun l => slK l fun c_2 es_2 => guarded (decide (0 ≤ i4) && decide (i4 < (↑n3 : Int))) (guarded (decide ((0 + i4.toNat) * 6 + 6 ≤ vx7.length)) (d_laws_toFieldDefS_A D (d_laws_toFieldDefS_0 c0 e0 n3 (IntKind.i64.wrap (i4 + 1)) (putAt vx7 ((0 + i4.toNat) * 6) [.leaf (.str s), .leaf (.str s_4), .leaf (.sl c es), .leaf (.str s_5), .leaf (.str s_6), .leaf (.sl c_2 es_2)]))))))) ((if n3 * 6 ≤ vx7.length ∧ 0 < 6 then match asLeaves (List.take (n3 * 6) vx7) with | some x => some ((fun l => .leaf (.sl (Fl.new true) (chunks 6 n3 l))) x) | none => none else none).bind fun v => guarded v.flatT (some (v, []))) := by refine (nameF_eq (J := d_laws_toFieldDefS_A D) (fun _ _ => rfl) [[1, 1, 0, 1, 0]] _).trans ?_; generalize d_laws_toFieldDefS_A D = J; revert J; refine id ?_; intro J; kernel_rfl
theorem run_d_laws_toFieldDefS : run2V Tryz.prog D Hs limR F.laws_toFieldDefS [.leaf (.sl c0 e0)] [] = guarded ((↑e0.length : Int) == (↑e0.length : Int) && decide ((↑e0.length : Int).toNat * 112 ≤ maxBytes) && decide ((↑e0.length : Int).toNat ≤ maxBytes)) (d_laws_toFieldDefS_A D (d_laws_toFieldDefS_0 c0 e0 (decide (0 ≤ (↑e0.length : Int)) && (↑e0.length : Int) == (↑e0.length : Int) && decide ((↑e0.length : Int).toNat * Tryz.prog.types[176].bytes ≤ maxBytes) && decide ((↑e0.length : Int).toNat ≤ maxBytes), (Tryz.prog.types[176].size, (↑e0.length : Int).toNat), List.map SV.leaf (List.replicate (↑e0.length : Int).toNat ((fun (x : List (Leaf true)) => .str (ByteArray.mk #[]) :: x) ((fun (x : List (Leaf true)) => .str (ByteArray.mk #[]) :: x) ((fun (x : List (Leaf true)) => .sl (Fl.new true) [] :: x) ((fun (x : List (Leaf true)) => .str (ByteArray.mk #[]) :: x) ((fun (x : List (Leaf true)) => .str (ByteArray.mk #[]) :: x) ((fun (x : List (Leaf true)) => .sl (Fl.new true) [] :: x) []))))))).flatten).snd.fst.snd 0 (decide (0 ≤ (↑e0.length : Int)) && (↑e0.length : Int) == (↑e0.length : Int) && decide ((↑e0.length : Int).toNat * Tryz.prog.types[176].bytes ≤ maxBytes) && decide ((↑e0.length : Int).toNat ≤ maxBytes), (Tryz.prog.types[176].size, (↑e0.length : Int).toNat), List.map SV.leaf (List.replicate (↑e0.length : Int).toNat ((fun (x : List (Leaf true)) => .str (ByteArray.mk #[]) :: x) ((fun (x : List (Leaf true)) => .str (ByteArray.mk #[]) :: x) ((fun (x : List (Leaf true)) => .sl (Fl.new true) [] :: x) ((fun (x : List (Leaf true)) => .str (ByteArray.mk #[]) :: x) ((fun (x : List (Leaf true)) => .str (ByteArray.mk #[]) :: x) ((fun (x : List (Leaf true)) => .sl (Fl.new true) [] :: x) []))))))).flatten).snd.snd)) := by refine (run_names (J := d_laws_toFieldDefS_A D) (by kernel_rfl) (fun _ _ => rfl) [[1, 1, 0, 1, 0]]).trans ?_; generalize d_laws_toFieldDefS_A D = J; revert J; refine id ?_; intro J; kernel_rfl
end
section
variable (c0 : Fl true) (e0 : LT) (n3 : Nat) (i4 : Int) (vx7 : List (SV true))
def d_laws_toInDefS_A := atA D F.laws_toInDefS
def d_laws_toInDefS_0 : PT := ([1, 1, 0, 1, 0], St.mk ([.leaf (.sl c0 e0), .any, .any, .bsl 7 10 0 n3, .leaf (.int .i64 i4)] ++ anyS 18) (noB 7 ++ [some vx7] ++ noB 15))
theorem d_laws_toInDefS_0_eq : d_laws_toInDefS_A D (d_laws_toInDefS_0 c0 e0 n3 i4 vx7) = branch (decide (i4 < (↑e0.length : Int))) (guarded (decide (0 ≤ i4) && decide (i4 < (↑e0.length : Int)) && sized 10 e0) (bindE (e0.getD i4.toNat []) fun e => atK e 0 fun l => strK l fun s => atK e 1 fun l => strK l fun s_1 => atK e 2 fun l => strK l fun s_2 => atK e 3 fun l => strK l fun s_3 => atK e 4 fun l => boolK l fun b => atK e 5 fun l => intK .i64 l fun n => atK e 6 fun l => strK l fun s_4 => atK e 7 fun l => slK l fun c es => atK e 8 fun l => slK l fun c_1 es_1 => atK e 9 fun l => slK l fun c_2 es_2 => (D F.laws_toInDef [.agg [.str s, .str s_1, .str s_2, .str s_3, .bool b, .int .i64 n, .str s_4, .sl c es, .sl c_1 es_1, .sl c_2 es_2]] []).bind fun r => svAggK r.fst fun cs => guarded (cs.length == 10) (atK cs 0 fun l => strK l fun s => atK cs 1 fun l => strK l fun s_5 => atK cs 2 fun l => strK l fun s_6 => atK cs 3 fun l => strK l fun s_7 => atK cs 4 fun l => boolK l fun b => atK cs 5 fun l => intK .i64 l fun n => atK cs 6 fun l => strK l fun s_8 => atK cs 7 fun l => slK l fun c es => atK cs 8 fun l => slK l fun c_3 es_3 => atK cs 9 fun l => slK l fun c_4 es_4 => guarded (decide (0 ≤ i4) && decide (i4 < (↑n3 : Int))) (guarded (decide ((0 + i4.toNat) * 10 + 10 ≤ vx7.length)) (d_laws_toInDefS_A D (d_laws_toInDefS_0 c0 e0 n3 (IntKind.i64.wrap (i4 + 1)) (putAt vx7 ((0 + i4.toNat) * 10) [.leaf (.str s), .leaf (.str s_5), .leaf (.str s_6), .leaf (.str s_7), .leaf (.bool b), .leaf (.int .i64 n), .leaf (.str s_8), .leaf (.sl c es), .leaf (.sl c_3 es_3), .leaf (.sl c_4 es_4)]))))))) ((if n3 * 10 ≤ vx7.length ∧ 0 < 10 then match asLeaves (List.take (n3 * 10) vx7) with | some x => some ((fun l => .leaf (.sl (Fl.new true) (chunks 10 n3 l))) x) | none => none else none).bind fun v => guarded v.flatT (some (v, []))) := by refine (nameF_eq (J := d_laws_toInDefS_A D) (fun _ _ => rfl) [[1, 1, 0, 1, 0]] _).trans ?_; generalize d_laws_toInDefS_A D = J; revert J; refine id ?_; intro J; kernel_rfl
theorem run_d_laws_toInDefS : run2V Tryz.prog D Hs limR F.laws_toInDefS [.leaf (.sl c0 e0)] [] = guarded ((↑e0.length : Int) == (↑e0.length : Int) && decide ((↑e0.length : Int).toNat * 168 ≤ maxBytes) && decide ((↑e0.length : Int).toNat ≤ maxBytes)) (d_laws_toInDefS_A D (d_laws_toInDefS_0 c0 e0 (decide (0 ≤ (↑e0.length : Int)) && (↑e0.length : Int) == (↑e0.length : Int) && decide ((↑e0.length : Int).toNat * Tryz.prog.types[111].bytes ≤ maxBytes) && decide ((↑e0.length : Int).toNat ≤ maxBytes), (Tryz.prog.types[111].size, (↑e0.length : Int).toNat), List.map SV.leaf (List.replicate (↑e0.length : Int).toNat ((fun (x : List (Leaf true)) => .str (ByteArray.mk #[]) :: x) ((fun (x : List (Leaf true)) => .str (ByteArray.mk #[]) :: x) ((fun (x : List (Leaf true)) => .str (ByteArray.mk #[]) :: x) ((fun (x : List (Leaf true)) => .str (ByteArray.mk #[]) :: x) ((fun (x : List (Leaf true)) => .bool false :: x) ((fun (x : List (Leaf true)) => .int .i64 0 :: x) ((fun (x : List (Leaf true)) => .str (ByteArray.mk #[]) :: x) ((fun (x : List (Leaf true)) => .sl (Fl.new true) [] :: x) ((fun (x : List (Leaf true)) => .sl (Fl.new true) [] :: x) ((fun (x : List (Leaf true)) => .sl (Fl.new true) [] :: x) []))))))))))).flatten).snd.fst.snd 0 (decide (0 ≤ (↑e0.length : Int)) && (↑e0.length : Int) == (↑e0.length : Int) && decide ((↑e0.length : Int).toNat * Tryz.prog.types[111].bytes ≤ maxBytes) && decide ((↑e0.length : Int).toNat ≤ maxBytes), (Tryz.prog.types[111].size, (↑e0.length : Int).toNat), List.map SV.leaf (List.replicate (↑e0.length : Int).toNat ((fun (x : List (Leaf true)) => .str (ByteArray.mk #[]) :: x) ((fun (x : List (Leaf true)) => .str (ByteArray.mk #[]) :: x) ((fun (x : List (Leaf true)) => .str (ByteArray.mk #[]) :: x) ((fun (x : List (Leaf true)) => .str (ByteArray.mk #[]) :: x) ((fun (x : List (Leaf true)) => .bool false :: x) ((fun (x : List (Leaf true)) => .int .i64 0 :: x) ((fun (x : List (Leaf true)) => .str (ByteArray.mk #[]) :: x) ((fun (x : List (Leaf true)) => .sl (Fl.new true) [] :: x) ((fun (x : List (Leaf true)) => .sl (Fl.new true) [] :: x) ((fun (x : List (Leaf true)) => .sl (Fl.new true) [] :: x) []))))))))))).flatten).snd.snd)) := by refine (run_names (J := d_laws_toInDefS_A D) (by kernel_rfl) (fun _ _ => rfl) [[1, 1, 0, 1, 0]]).trans ?_; generalize d_laws_toInDefS_A D = J; revert J; refine id ?_; intro J; kernel_rfl
end
section
variable (c0 : Fl true) (e0 : LT) (n3 : Nat) (i4 : Int) (vx7 : List (SV true))
def d_laws_toEnumDefS_A := atA D F.laws_toEnumDefS
def d_laws_toEnumDefS_0 : PT := ([1, 1, 0, 1, 0], St.mk ([.leaf (.sl c0 e0), .any, .any, .bsl 7 3 0 n3, .leaf (.int .i64 i4)] ++ anyS 18) (noB 7 ++ [some vx7] ++ noB 15))
theorem d_laws_toEnumDefS_0_eq : d_laws_toEnumDefS_A D (d_laws_toEnumDefS_0 c0 e0 n3 i4 vx7) = branch (decide (i4 < (↑e0.length : Int))) (guarded (decide (0 ≤ i4) && decide (i4 < (↑e0.length : Int)) && sized 3 e0) (bindE (e0.getD i4.toNat []) fun e => atK e 0 fun l => strK l fun s => atK e 1 fun l => strK l fun s_1 => atK e 2 fun l => slK l fun c es => (D F.laws_toEnumDef [.agg [.str s, .str s_1, .sl c es]] []).bind fun r => svAggK r.fst fun cs => guarded (cs.length == 3) (atK cs 0 fun l => strK l fun s => atK cs 1 fun l => strK l fun s_2 => atK cs 2 fun l => slK l fun c es => guarded (decide (0 ≤ i4) && decide (i4 < (↑n3 : Int))) (guarded (decide ((0 + i4.toNat) * 3 + 3 ≤ vx7.length)) (d_laws_toEnumDefS_A D (d_laws_toEnumDefS_0 c0 e0 n3 (IntKind.i64.wrap (i4 + 1)) (putAt vx7 ((0 + i4.toNat) * 3) [.leaf (.str s), .leaf (.str s_2), .leaf (.sl c es)]))))))) ((if n3 * 3 ≤ vx7.length ∧ 0 < 3 then match asLeaves (List.take (n3 * 3) vx7) with | some x => some ((fun l => .leaf (.sl (Fl.new true) (chunks 3 n3 l))) x) | none => none else none).bind fun v => guarded v.flatT (some (v, []))) := by refine (nameF_eq (J := d_laws_toEnumDefS_A D) (fun _ _ => rfl) [[1, 1, 0, 1, 0]] _).trans ?_; generalize d_laws_toEnumDefS_A D = J; revert J; refine id ?_; intro J; kernel_rfl
theorem run_d_laws_toEnumDefS : run2V Tryz.prog D Hs limR F.laws_toEnumDefS [.leaf (.sl c0 e0)] [] = guarded ((↑e0.length : Int) == (↑e0.length : Int) && decide ((↑e0.length : Int).toNat * 56 ≤ maxBytes) && decide ((↑e0.length : Int).toNat ≤ maxBytes)) (d_laws_toEnumDefS_A D (d_laws_toEnumDefS_0 c0 e0 (decide (0 ≤ (↑e0.length : Int)) && (↑e0.length : Int) == (↑e0.length : Int) && decide ((↑e0.length : Int).toNat * Tryz.prog.types[157].bytes ≤ maxBytes) && decide ((↑e0.length : Int).toNat ≤ maxBytes), (Tryz.prog.types[157].size, (↑e0.length : Int).toNat), List.map SV.leaf (List.replicate (↑e0.length : Int).toNat ((fun (x : List (Leaf true)) => .str (ByteArray.mk #[]) :: x) ((fun (x : List (Leaf true)) => .str (ByteArray.mk #[]) :: x) ((fun (x : List (Leaf true)) => .sl (Fl.new true) [] :: x) [])))).flatten).snd.fst.snd 0 (decide (0 ≤ (↑e0.length : Int)) && (↑e0.length : Int) == (↑e0.length : Int) && decide ((↑e0.length : Int).toNat * Tryz.prog.types[157].bytes ≤ maxBytes) && decide ((↑e0.length : Int).toNat ≤ maxBytes), (Tryz.prog.types[157].size, (↑e0.length : Int).toNat), List.map SV.leaf (List.replicate (↑e0.length : Int).toNat ((fun (x : List (Leaf true)) => .str (ByteArray.mk #[]) :: x) ((fun (x : List (Leaf true)) => .str (ByteArray.mk #[]) :: x) ((fun (x : List (Leaf true)) => .sl (Fl.new true) [] :: x) [])))).flatten).snd.snd)) := by refine (run_names (J := d_laws_toEnumDefS_A D) (by kernel_rfl) (fun _ _ => rfl) [[1, 1, 0, 1, 0]]).trans ?_; generalize d_laws_toEnumDefS_A D = J; revert J; refine id ?_; intro J; kernel_rfl
end
def d_laws_toArg_A := atA D F.laws_toArg
theorem run_d_laws_toArg (s0_0 : ByteArray) (i0_1 : Int) (s0_2 : ByteArray) (c0_3 : Fl true) (e0_3 : LT) (c0_4 : Fl true) (e0_4 : LT) : run2V Tryz.prog D Hs limR F.laws_toArg [.agg [.str s0_0, .int .i64 i0_1, .str s0_2, .sl c0_3 e0_3, .sl c0_4 e0_4]] [] = (D F.laws_toValue [.agg [.int .i64 i0_1, .str s0_2, .sl c0_3 e0_3, .sl c0_4 e0_4]] []).bind fun r => svAggK r.fst fun cs => guarded (cs.length == 4) (atK cs 0 fun l => intK .i64 l fun n => atK cs 1 fun l => strK l fun s => atK cs 2 fun l => slK l fun c es => atK cs 3 fun l => slK l fun c_1 es_1 => some (.agg [.str s0_0, .int .i64 n, .str s, .sl c es, .sl c_1 es_1], [])) := by refine (run_names (J := d_laws_toArg_A D) (by kernel_rfl) (fun _ _ => rfl) []).trans ?_; generalize d_laws_toArg_A D = J; revert J; refine id ?_; intro J; kernel_rfl
def d_laws_toFieldDef_A := atA D F.laws_toFieldDef
theorem run_d_laws_toFieldDef (s0_0 s0_1 : ByteArray) (c0_2 : Fl true) (e0_2 : LT) (s0_3 s0_4 : ByteArray) (c0_5 : Fl true) (e0_5 : LT) : run2V Tryz.prog D Hs limR F.laws_toFieldDef [.agg [.str s0_0, .str s0_1, .sl c0_2 e0_2, .str s0_3, .str s0_4, .sl c0_5 e0_5]] [] = (D F.laws_toInDefS [.leaf (.sl c0_2 e0_2)] []).bind fun r => svSlK r.fst fun c es => (D F.laws_toType [.agg [.str s0_3, .str s0_4]] []).bind fun r => svAggK r.fst fun cs => guarded (cs.length == 2) (atK cs 0 fun l => strK l fun s => atK cs 1 fun l => strK l fun s_1 => (D F.laws_toDirS [.leaf (.sl c0_5 e0_5)] []).bind fun r => svSlK r.fst fun c_1 es_1 => some (.agg [.str s0_0, .str s0_1, .sl c es, .str s, .str s_1, .sl c_1 es_1], [])) := by refine (run_names (J := d_laws_toFieldDef_A D) (by kernel_rfl) (fun _ _ => rfl) []).trans ?_; generalize d_laws_toFieldDef_A D = J; revert J; refine id ?_; intro J; kernel_rfl
def d_laws_toInDef_A := atA D F.laws_toInDef
theorem run_d_laws_toInDef (s0_0 s0_1 s0_2 s0_3 : ByteArray) (b0_4 : Bool) (i0_5 : Int) (s0_6 : ByteArray) (c0_7 : Fl true) (e0_7 : LT) (c0_8 : Fl true) (e0_8 : LT) (c0_9 : Fl true) (e0_9 : LT) : run2V Tryz.prog D Hs limR F.laws_toInDef [.agg [.str s0_0, .str s0_1, .str s0_2, .str s0_3, .bool b0_4, .int .i64 i0_5, .str s0_6, .sl c0_7 e0_7, .sl c0_8 e0_8, .sl c0_9 e0_9]] [] = (D F.laws_toType [.agg [.str s0_2, .str s0_3]] []).bind fun r => svAggK r.fst fun cs => guarded (cs.length == 2) (atK cs 0 fun l => strK l fun s => atK cs 1 fun l => strK l fun s_1 => (D F.laws_toValue [.agg [.int .i64 i0_5, .str s0_6, .sl c0_7 e0_7, .sl c0_8 e0_8]] []).bind fun r => svAggK r.fst fun cs => guarded (cs.length == 4) (atK cs 0 fun l => intK .i64 l fun n => atK cs 1 fun l => strK l fun s_2 => atK cs 2 fun l => slK l fun c es => atK cs 3 fun l => slK l fun c_1 es_1 => (D F.laws_toDirS [.leaf (.sl c0_9 e0_9)] []).bind fun r => svSlK r.fst fun c_2 es_2 => some (.agg [.str s0_0, .str s0_1, .str s, .str s_1, .bool b0_4, .int .i64 n, .str s_2, .sl c es, .sl c_1 es_1, .sl c_2 es_2], []))) := by refine (run_names (J := d_laws_toInDef_A D) (by kernel_rfl) (fun _ _ => rfl) []).trans ?_; generalize d_laws_toInDef_A D = J; revert J; refine id ?_; intro J; kernel_rfl
def d_laws_toEnumDef_A := atA D F.laws_toEnumDef
theorem run_d_laws_toEnumDef (s0_0 s0_1 : ByteArray) (c0_2 : Fl true) (e0_2 : LT) : run2V Tryz.prog D Hs limR F.laws_toEnumDef [.agg [.str s0_0, .str s0_1, .sl c0_2 e0_2]] [] = (D F.laws_toDirS [.leaf (.sl c0_2 e0_2)] []).bind fun r => svSlK r.fst fun c es => some (.agg [.str s0_0, .str s0_1, .sl c es], []) := by refine (run_names (J := d_laws_toEnumDef_A D) (by kernel_rfl) (fun _ _ => rfl) []).trans ?_; generalize d_laws_toEnumDef_A D = J; revert J; refine id ?_; intro J; kernel_rfl
def d_laws_toValue_A := atA D F.laws_toValue
theorem run_d_laws_toValue (i0_0 : Int) (s0_1 : ByteArray) (c0_2 : Fl true) (e0_2 : LT) (c0_3 : Fl true) (e0_3 : LT) : run2V Tryz.prog D Hs limR F.laws_toValue [.agg [.int .i64 i0_0, .str s0_1, .sl c0_2 e0_2, .sl c0_3 e0_3]] [] = (D F.laws_toValueS [.leaf (.sl c0_2 e0_2)] []).bind fun r => svSlK r.fst fun c es => (D F.laws_toStringS [.leaf (.sl c0_3 e0_3)] []).bind fun r => svSlK r.fst fun c_1 es_1 => some (.agg [.int .i64 i0_0, .str s0_1, .sl c es, .sl c_1 es_1], []) := by refine (run_names (J := d_laws_toValue_A D) (by kernel_rfl) (fun _ _ => rfl) []).trans ?_; generalize d_laws_toValue_A D = J; revert J; refine id ?_; intro J; kernel_rfl
def d_laws_toType_A := atA D F.laws_toType
theorem run_d_laws_toType (s0_0 s0_1 : ByteArray) : run2V Tryz.prog D Hs limR F.laws_toType [.agg [.str s0_0, .str s0_1]] [] = some (.agg [.str s0_0, .str s0_1], []) := by refine (run_names (J := d_laws_toType_A D) (by kernel_rfl) (fun _ _ => rfl) []).trans ?_; generalize d_laws_toType_A D = J; revert J; refine id ?_; intro J; kernel_rfl
section
variable (c0 : Fl true) (e0 : LT) (n3 : Nat) (i4 : Int) (vx7 : List (SV true))
def d_laws_toValueS_A := atA D F.laws_toValueS
def d_laws_toValueS_0 : PT := ([1, 1, 0, 1, 0], St.mk ([.leaf (.sl c0 e0), .any, .any, .bsl 7 4 0 n3, .leaf (.int .i64 i4)] ++ anyS 18) (noB 7 ++ [some vx7] ++ noB 15))
theorem d_laws_toValueS_0_eq : d_laws_toValueS_A D (d_laws_toValueS_0 c0 e0 n3 i4 vx7) = branch (decide (i4 < (↑e0.length : Int))) (guarded (decide (0 ≤ i4) && decide (i4 < (↑e0.length : Int)) && sized 4 e0) (bindE (e0.getD i4.toNat []) fun e => atK e 0 fun l => intK .i64 l fun n => atK e 1 fun l => strK l fun s => atK e 2 fun l => slK l fun c es => atK e 3 fun l => slK l fun c_1 es_1 => (D F.laws_toValue [.agg [.int .i64 n, .str s, .sl c es, .sl c_1 es_1]] []).bind fun r => svAggK r.fst fun cs => guarded (cs.length == 4) (atK cs 0 fun l => intK .i64 l fun n => atK cs 1 fun l => strK l fun s => atK cs 2 fun l => slK l fun c es => atK cs 3 fun l => slK l fun c_2 es_2 => guarded (decide (0 ≤ i4) && decide (i4 < (↑n3 : Int))) (guarded (decide ((0 + i4.toNat) * 4 + 4 ≤ vx7.length)) (d_laws_toValueS_A D (d_laws_toValueS_0 c0 e0 n3 (IntKind.i64.wrap (i4 + 1)) (putAt vx7 ((0 + i4.toNat) * 4) [.leaf (.int .i64 n), .leaf (.str s), .leaf (.sl c es), .leaf (.sl c_2 es_2)]))))))) ((if n3 * 4 ≤ vx7.length ∧ 0 < 4 then match asLeaves (List.take (n3 * 4) vx7) with | some x => some ((fun l => .leaf (.sl (Fl.new true) (chunks 4 n3 l))) x) | none => none else none).bind fun v => guarded v.flatT (some (v, []))) := by refine (nameF_eq (J := d_laws_toValueS_A D) (fun _ _ => rfl) [[1, 1, 0, 1, 0]] _).trans ?_; generalize d_laws_toValueS_A D = J; revert J; refine id ?_; intro J; kernel_rfl
theorem run_d_laws_toValueS : run2V Tryz.prog D Hs limR F.laws_toValueS [.leaf (.sl c0 e0)] [] = guarded ((↑e0.length : Int) == (↑e0.length : Int) && decide ((↑e0.length : Int).toNat * 72 ≤ maxBytes) && decide ((↑e0.length : Int).toNat ≤ maxBytes)) (d_laws_toValueS_A D (d_laws_toValueS_0 c0 e0 (decide (0 ≤ (↑e0.length : Int)) && (↑e0.length : Int) == (↑e0.length : Int) && decide ((↑e0.length : Int).toNat * Tryz.prog.types[103].bytes ≤ maxBytes) && decide ((↑e0.length : Int).toNat ≤ maxBytes), (Tryz.prog.types[103].size, (↑e0.length : Int).toNat), List.map SV.leaf (List.replicate (↑e0.length : Int).toNat ((fun (x : List (Leaf true)) => .int .i64 0 :: x) ((fun (x : List (Leaf true)) => .str (ByteArray.mk #[]) :: x) ((fun (x : List (Leaf true)) => .sl (Fl.new true) [] :: x) ((fun (x : List (Leaf true)) => .sl (Fl.new true) [] :: x) []))))).flatten).snd.fst.snd 0 (decide (0 ≤ (↑e0.length : Int)) && (↑e0.length : Int) == (↑e0.length : Int) && decide ((↑e0.length : Int).toNat * Tryz.prog.types[103].bytes ≤ maxBytes) && decide ((↑e0.length : Int).toNat ≤ maxBytes), (Tryz.prog.types[103].size, (↑e0.length : Int).toNat), List.map SV.leaf (List.replicate (↑e0.length : Int).toNat ((fun (x : List (Leaf true)) => .int .i64 0 :: x) ((fun (x : List (Leaf true)) => .str (ByteArray.mk #[]) :: x) ((fun (x : List (Leaf true)) => .sl (Fl.new true) [] :: x) ((fun (x : List (Leaf true)) => .sl (Fl.new true) [] :: x) []))))).flatten).snd.snd)) := by refine (run_names (J := d_laws_toValueS_A D) (by kernel_rfl) (fun _ _ => rfl) [[1, 1, 0, 1, 0]]).trans ?_; generalize d_laws_toValueS_A D = J; revert J; refine id ?_; intro J; kernel_rfl
end
end
end Go.Vs
end
section
open Go Go.Vs Go.Proofs
set_option linter.unusedVariables false
set_option linter.unusedSimpArgs false
namespace Go.Vs
/-- The functions whose text is read in the deep mode; of the others the plain mode tells. -/
def keep : FuncId → Bool := fun f => [F.laws_markArgS, F.laws_markDefS, F.laws_markDirS, F.laws_markEnumDefS, F.laws_markFieldDefS, F.laws_markInDefS, F.laws_markRootS, F.laws_markSchema, F.laws_markStringS, F.laws_markValueS, F.laws_toArg, F.laws_toArgS, F.laws_toDef, F.laws_toDefS, F.laws_toDir, F.laws_toDirS, F.laws_toEnumDef, F.laws_toEnumDefS, F.laws_toFieldDef, F.laws_toFieldDefS, F.laws_toInDef, F.laws_toInDefS, F.laws_toRoot, F.laws_toRootS, F.laws_toSchema, F.laws_toStringS, F.laws_toType, F.laws_toValue, F.laws_toValueS].contains f
noncomputable abbrev Dd : Oracle true := den Go.Proofs.Tryz.prog (liftT Dn keep) Hs
theorem dd_of {f : FuncId} {a : List (SV true)} {b : List (List (SV true))} {r : SV true × List (List (SV true))} (hk : keep f = true) (h : run2V Go.Proofs.Tryz.prog Dd Hs limR f a b = some r) : Dd f a b = some r :=
  den_fast (by simp only [liftT, hk]) h
theorem dd_told {f : FuncId} (hk : keep f = false) {a : List (SV true)} {b : List (List (SV true))} {a' : List (SV false)} {b' : List (List (SV false))} {r' : SV false × List (List (SV false))} {r : SV true × List (List (SV true))}
    (h : Dn f a' b' = some r') (ha : a.map (reS er) = a') (hb : b.map (List.map (reS er)) = b') (hr : (reS li r'.1, r'.2.map (List.map (reS li))) = r) : Dd f a b = some r := lift_told hk h ha hb hr
theorem sizeT3 : sizeT Tryz.prog 3 = some 1 := by kernel_rfl
theorem sizeT4 : sizeT Tryz.prog 4 = some 1 := by kernel_rfl
theorem sizeT9 : sizeT Tryz.prog 9 = some 1 := by kernel_rfl
theorem laws_toStringS_from {c : Fl true} {es : List (List (Leaf false))} (hl : es.length ≤ 1048576) (hq : ∀ e ∈ es, IsStr e) : ∀ i : Nat, i ≤ es.length → ∀ z : List (SV true), z.length = (es.length - i) * 1 →
    d_laws_toStringS_A Dd (d_laws_toStringS_0 c (reE (fl c) es) es.length i (rowAt (reE (fl fNew) es) i z)) = some (.leaf (.sl fNew (reE (fl fNew) es)), []) := by
  have hall : ∀ e ∈ reE (fl fNew) es, e.length = 1 := reE_all fun e he => (hq e he).len
  have hN : (reE (fl fNew) es).length = es.length := reE_length es
  have hC : (reE (fl c) es).length = es.length := reE_length es
  have hml : (1048576 : Nat) ≤ maxLen := by decide
  refine upto_ind ?_ ?_
  · intro z hz
    have g1 := row_full (z := z) hall
    have g2 := chunks_flatten hall
    have g3 := rowAt_len (z := z) hall (Nat.le_refl _)
    rw [hN] at g1 g2 g3
    try rw [Nat.mul_one] at g1
    rw [d_laws_toStringS_0_eq]
    simp [g1, g2, g3, hC, SV.flatT, SV.flat, Fl.new]
  · intro i hi ih z hz
    have g3 := rowAt_len (z := z) hall (i := i) (by omega)
    have hp := putAt_row (z := z) hall (i := i) (by omega)
    rw [d_laws_toStringS_0_eq]
    obtain ⟨s, he, hs⟩ := hq _ (List.getElem_mem hi)
    rw [reE_get, he] at hp
    simp only [reL, reF, List.map_cons, List.map_nil] at hp
    simp only [Int.ofNat_lt, hi, hC, decide_true, branch_true, Int.natCast_nonneg, Bool.and_true, Int.toNat_natCast, guarded_true, wrap_upL (Nat.lt_of_lt_of_le hi (Nat.le_trans hl hml)), sized_all (reE_all (φ := fl c) fun e he => (hq e he).len), reE_getD hi]
    rw [he]
    simp only [reL, reF, atK_zero, strK_str]
    have hd' : (i + 1) * 1 ≤ es.length * 1 := Nat.mul_le_mul_right 1 hi
    have hg : (0 + i) * 1 + 1 ≤ (rowAt (reE (fl fNew) es) i z).length := by rw [g3, hz, Nat.sub_mul]; omega
    simp only [hg, decide_true, guarded_true]
    rw [Nat.zero_add, hp]
    exact ih _ (by rw [List.length_drop, hz, Nat.sub_mul, Nat.sub_mul]; omega)
theorem t_laws_toStringS {c : Fl true} {es : List (List (Leaf false))} (hl : es.length ≤ 1048576) (hq : ∀ e ∈ es, IsStr e) : Dd F.laws_toStringS [.leaf (.sl c (reE (fl c) es))] [] = some (.leaf (.sl fNew (reE (fl fNew) es)), []) := by
  apply dd_of rfl
  have hb : maxBytes = 140737488355328 := rfl
  rw [run_d_laws_toStringS]
  have hs : decide (es.length ≤ maxBytes) = true := decide_eq_true (by omega)
  have hs2 : decide (es.length * 16 ≤ maxBytes) = true := decide_eq_true (by omega)
  simp only [reE_length, Int.natCast_nonneg, Int.toNat_natCast, beq_self_eq_true, hs, hs2, decide_true, Bool.and_true, Bool.true_and, guarded_true]
  exact laws_toStringS_from hl hq 0 (Nat.zero_le _) _ (by simp [List.length_flatten])
theorem t_laws_toType {c : Fl true} {ls : List (Leaf false)} (h : IsType ls) : tL ls ≤ 1048576 → Dd F.laws_toType [.agg (reL (fl c) ls)] [] = some (.agg (reL (fl fNew) ls), []) := by
  cases h with
  | mk s0 s1 h0 h1 =>
    intro hb
    apply dd_of rfl
    simp only [reL, reF]
    rw [run_d_laws_toType]
    try simp []
theorem laws_toValueS_from {c : Fl true} {es : List (List (Leaf false))} (hl : es.length ≤ 1048576) (hq : ∀ e ∈ es, IsValue e) (hd : ∀ e ∈ es, Dd F.laws_toValue [.agg (reL (fl c) e)] [] = some (.agg (reL (fl fNew) e), [])) : ∀ i : Nat, i ≤ es.length → ∀ z : List (SV true), z.length = (es.length - i) * 4 →
    d_laws_toValueS_A Dd (d_laws_toValueS_0 c (reE (fl c) es) es.length i (rowAt (reE (fl fNew) es) i z)) = some (.leaf (.sl fNew (reE (fl fNew) es)), []) := by
  have hall : ∀ e ∈ reE (fl fNew) es, e.length = 4 := reE_all fun e he => (hq e he).len
  have hN : (reE (fl fNew) es).length = es.length := reE_length es
  have hC : (reE (fl c) es).length = es.length := reE_length es
  have hml : (1048576 : Nat) ≤ maxLen := by decide
  refine upto_ind ?_ ?_
  · intro z hz
    have g1 := row_full (z := z) hall
    have g2 := chunks_flatten hall
    have g3 := rowAt_len (z := z) hall (Nat.le_refl _)
    rw [hN] at g1 g2 g3
    try rw [Nat.mul_one] at g1
    rw [d_laws_toValueS_0_eq]
    simp [g1, g2, g3, hC, SV.flatT, SV.flat, Fl.new]
  · intro i hi ih z hz
    have g3 := rowAt_len (z := z) hall (i := i) (by omega)
    have hp := putAt_row (z := z) hall (i := i) (by omega)
    rw [d_laws_toValueS_0_eq]
    have hci := hd _ (List.getElem_mem hi)
    obtain ⟨i0, s1, e2, e3, he, h1, h2, q2, h3, q3⟩ := (hq _ (List.getElem_mem hi)).ex
    rw [reE_get, he] at hp
    simp only [reL, reF, List.map_cons, List.map_nil] at hp
    simp only [Int.ofNat_lt, hi, hC, decide_true, branch_true, Int.natCast_nonneg, Bool.and_true, Int.toNat_natCast, guarded_true, wrap_upL (Nat.lt_of_lt_of_le hi (Nat.le_trans hl hml)), sized_all (reE_all (φ := fl c) fun e he => (hq e he).len), reE_getD hi]
    rw [he] at hci ⊢
    simp only [reL, reF] at hci
    simp only [reL, reF, bindE_eq, atK_zero, atK_succ, intK_int, strK_str, boolK_bool, slK_sl, hci, Option.bind_some, svAggK_agg, List.length_cons, List.length_nil, beq_self_eq_true, Nat.reduceAdd, Nat.reduceBEq, guarded_true]
    have hd' : (i + 1) * 4 ≤ es.length * 4 := Nat.mul_le_mul_right 4 hi
    have hg : (0 + i) * 4 + 4 ≤ (rowAt (reE (fl fNew) es) i z).length := by rw [g3, hz, Nat.sub_mul]; omega
    simp only [hg, decide_true, guarded_true]
    rw [Nat.zero_add, hp]
    exact ih _ (by rw [List.length_drop, hz, Nat.sub_mul, Nat.sub_mul]; omega)
theorem t_laws_toValueS_of {c : Fl true} {es : List (List (Leaf false))} (hl : es.length ≤ 1048576) (hq : ∀ e ∈ es, IsValue e) (hd : ∀ e ∈ es, Dd F.laws_toValue [.agg (reL (fl c) e)] [] = some (.agg (reL (fl fNew) e), [])) : Dd F.laws_toValueS [.leaf (.sl c (reE (fl c) es))] [] = some (.leaf (.sl fNew (reE (fl fNew) es)), []) := by
  apply dd_of rfl
  have hb : maxBytes = 140737488355328 := rfl
  rw [run_d_laws_toValueS]
  have hs : decide (es.length ≤ maxBytes) = true := decide_eq_true (by omega)
  have hs2 : decide (es.length * 72 ≤ maxBytes) = true := decide_eq_true (by omega)
  simp only [reE_length, Int.natCast_nonneg, Int.toNat_natCast, beq_self_eq_true, hs, hs2, decide_true, Bool.and_true, Bool.true_and, guarded_true]
  exact laws_toValueS_from hl hq hd 0 (Nat.zero_le _) _ (by simp [List.length_flatten])
theorem t_laws_toValue {c : Fl true} {ls : List (Leaf false)} (h : IsValue ls) : tL ls ≤ 1048576 → Dd F.laws_toValue [.agg (reL (fl c) ls)] [] = some (.agg (reL (fl fNew) ls), []) := by
  induction h with
  | mk i0 s1 e2 e3 h1 h2 q2 h3 q3 ih2 =>
    intro hb
    apply dd_of rfl
    simp only [reL, reF]
    rw [run_d_laws_toValue]
    have c2 := t_laws_toValueS_of (c := c) (show e2.length ≤ 1048576 by simp only [tL, tF] at hb; omega) q2 fun e he => ih2 e he (by have := tE_mem he; simp only [tL, tF] at hb; omega)
    have c3 := t_laws_toStringS (c := c) (show e3.length ≤ 1048576 by simp only [tL, tF] at hb; omega) q3
    try simp [c2, c3]
theorem t_laws_toValueS {c : Fl true} {es : List (List (Leaf false))} (hb : es.length + tE es ≤ 1048576) (hq : ∀ e ∈ es, IsValue e) : Dd F.laws_toValueS [.leaf (.sl c (reE (fl c) es))] [] = some (.leaf (.sl fNew (reE (fl fNew) es)), []) := t_laws_toValueS_of (by omega) hq fun e he => t_laws_toValue (hq e he) (by have := tE_mem he; omega)
theorem laws_toArgS_from {c : Fl true} {es : List (List (Leaf false))} (hl : es.length ≤ 1048576) (hq : ∀ e ∈ es, IsArg e) (hd : ∀ e ∈ es, Dd F.laws_toArg [.agg (reL (fl c) e)] [] = some (.agg (reL (fl fNew) e), [])) : ∀ i : Nat, i ≤ es.length → ∀ z : List (SV true), z.length = (es.length - i) * 5 →
    d_laws_toArgS_A Dd (d_laws_toArgS_0 c (reE (fl c) es) es.length i (rowAt (reE (fl fNew) es) i z)) = some (.leaf (.sl fNew (reE (fl fNew) es)), []) := by
  have hall : ∀ e ∈ reE (fl fNew) es, e.length = 5 := reE_all fun e he => (hq e he).len
  have hN : (reE (fl fNew) es).length = es.length := reE_length es
  have hC : (reE (fl c) es).length = es.length := reE_length es
  have hml : (1048576 : Nat) ≤ maxLen := by decide
  refine upto_ind ?_ ?_
  · intro z hz
    have g1 := row_full (z := z) hall
    have g2 := chunks_flatten hall
    have g3 := rowAt_len (z := z) hall (Nat.le_refl _)
    rw [hN] at g1 g2 g3
    try rw [Nat.mul_one] at g1
    rw [d_laws_toArgS_0_eq]
    simp [g1, g2, g3, hC, SV.flatT, SV.flat, Fl.new]
  · intro i hi ih z hz
    have g3 := rowAt_len (z := z) hall (i := i) (by omega)
    have hp := putAt_row (z := z) hall (i := i) (by omega)
    rw [d_laws_toArgS_0_eq]
    have hci := hd _ (List.getElem_mem hi)
    obtain ⟨s0, i1, s2, e3, e4, he, h0, h2, h3, q3, h4, q4⟩ := (hq _ (List.getElem_mem hi)).ex
    rw [reE_get, he] at hp
    simp only [reL, reF, List.map_cons, List.map_nil] at hp
    simp only [Int.ofNat_lt, hi, hC, decide_true, branch_true, Int.natCast_nonneg, Bool.and_true, Int.toNat_natCast, guarded_true, wrap_upL (Nat.lt_of_lt_of_le hi (Nat.le_trans hl hml)), sized_all (reE_all (φ := fl c) fun e he => (hq e he).len), reE_getD hi]
    rw [he] at hci ⊢
    simp only [reL, reF] at hci
    simp only [reL, reF, bindE_eq, atK_zero, atK_succ, intK_int, strK_str, boolK_bool, slK_sl, hci, Option.bind_some, svAggK_agg, List.length_cons, List.length_nil, beq_self_eq_true, Nat.reduceAdd, Nat.reduceBEq, guarded_true]
    have hd' : (i + 1) * 5 ≤ es.length * 5 := Nat.mul_le_mul_right 5 hi
    have hg : (0 + i) * 5 + 5 ≤ (rowAt (reE (fl fNew) es) i z).length := by rw [g3, hz, Nat.sub_mul]; omega
    simp only [hg, decide_true, guarded_true]
    rw [Nat.zero_add, hp]
    exact ih _ (by rw [List.length_drop, hz, Nat.sub_mul, Nat.sub_mul]; omega)
theorem t_laws_toArgS_of {c : Fl true} {es : List (List (Leaf false))} (hl : es.length ≤ 1048576) (hq : ∀ e ∈ es, IsArg e) (hd : ∀ e ∈ es, Dd F.laws_toArg [.agg (reL (fl c) e)] [] = some (.agg (reL (fl fNew) e), [])) : Dd F.laws_toArgS [.leaf (.sl c (reE (fl c) es))] [] = some (.leaf (.sl fNew (reE (fl fNew) es)), []) := by
  apply dd_of rfl
  have hb : maxBytes = 140737488355328 := rfl
  rw [run_d_laws_toArgS]
  have hs : decide (es.length ≤ maxBytes) = true := decide_eq_true (by omega)
  have hs2 : decide (es.length * 88 ≤ maxBytes) = true := decide_eq_true (by omega)
  simp only [reE_length, Int.natCast_nonneg, Int.toNat_natCast, beq_self_eq_true, hs, hs2, decide_true, Bool.and_true, Bool.true_and, guarded_true]
  exact laws_toArgS_from hl hq hd 0 (Nat.zero_le _) _ (by simp [List.length_flatten])
theorem t_laws_toArg {c : Fl true} {ls : List (Leaf false)} (h : IsArg ls) : tL ls ≤ 1048576 → Dd F.laws_toArg [.agg (reL (fl c) ls)] [] = some (.agg (reL (fl fNew) ls), []) := by
  cases h with
  | mk s0 i1 s2 e3 e4 h0 h2 h3 q3 h4 q4 =>
    intro hb
    apply dd_of rfl
    simp only [reL, reF]
    rw [run_d_laws_toArg]
    have c1 := t_laws_toValue (c := c) (.mk i1 s2 e3 e4 h2 h3 q3 h4 q4) (by simp only [tL, tF] at hb ⊢; omega)
    simp only [reL, reF] at c1
    try simp [c1]
theorem t_laws_toArgS {c : Fl true} {es : List (List (Leaf false))} (hb : es.length + tE es ≤ 1048576) (hq : ∀ e ∈ es, IsArg e) : Dd F.laws_toArgS [.leaf (.sl c (reE (fl c) es))] [] = some (.leaf (.sl fNew (reE (fl fNew) es)), []) := t_laws_toArgS_of (by omega) hq fun e he => t_laws_toArg (hq e he) (by have := tE_mem he; omega)
theorem laws_toDirS_from {c : Fl true} {es : List (List (Leaf false))} (hl : es.length ≤ 1048576) (hq : ∀ e ∈ es, IsDir e) (hd : ∀ e ∈ es, Dd F.laws_toDir [.agg (reL (fl c) e)] [] = some (.agg (reL (fl fNew) e), [])) : ∀ i : Nat, i ≤ es.length → ∀ z : List (SV true), z.length = (es.length - i) * 2 →
    d_laws_toDirS_A Dd (d_laws_toDirS_0 c (reE (fl c) es) es.length i (rowAt (reE (fl fNew) es) i z)) = some (.leaf (.sl fNew (reE (fl fNew) es)), []) := by
  have hall : ∀ e ∈ reE (fl fNew) es, e.length = 2 := reE_all fun e he => (hq e he).len
  have hN : (reE (fl fNew) es).length = es.length := reE_length es
  have hC : (reE (fl c) es).length = es.length := reE_length es
  have hml : (1048576 : Nat) ≤ maxLen := by decide
  refine upto_ind ?_ ?_
  · intro z hz
    have g1 := row_full (z := z) hall
    have g2 := chunks_flatten hall
    have g3 := rowAt_len (z := z) hall (Nat.le_refl _)
    rw [hN] at g1 g2 g3
    try rw [Nat.mul_one] at g1
    rw [d_laws_toDirS_0_eq]
    simp [g1, g2, g3, hC, SV.flatT, SV.flat, Fl.new]
  · intro i hi ih z hz
    have g3 := rowAt_len (z := z) hall (i := i) (by omega)
    have hp := putAt_row (z := z) hall (i := i) (by omega)
    rw [d_laws_toDirS_0_eq]
    have hci := hd _ (List.getElem_mem hi)
    obtain ⟨s0, e1, he, h0, h1, q1⟩ := (hq _ (List.getElem_mem hi)).ex
    rw [reE_get, he] at hp
    simp only [reL, reF, List.map_cons, List.map_nil] at hp
    simp only [Int.ofNat_lt, hi, hC, decide_true, branch_true, Int.natCast_nonneg, Bool.and_true, Int.toNat_natCast, guarded_true, wrap_upL (Nat.lt_of_lt_of_le hi (Nat.le_trans hl hml)), sized_all (reE_all (φ := fl c) fun e he => (hq e he).len), reE_getD hi]
    rw [he] at hci ⊢
    simp only [reL, reF] at hci
    simp only [reL, reF, bindE_eq, atK_zero, atK_succ, intK_int, strK_str, boolK_bool, slK_sl, hci, Option.bind_some, svAggK_agg, List.length_cons, List.length_nil, beq_self_eq_true, Nat.reduceAdd, Nat.reduceBEq, guarded_true]
    have hd' : (i + 1) * 2 ≤ es.length * 2 := Nat.mul_le_mul_right 2 hi
    have hg : (0 + i) * 2 + 2 ≤ (rowAt (reE (fl fNew) es) i z).length := by rw [g3, hz, Nat.sub_mul]; omega
    simp only [hg, decide_true, guarded_true]
    rw [Nat.zero_add, hp]
    exact ih _ (by rw [List.length_drop, hz, Nat.sub_mul, Nat.sub_mul]; omega)
theorem t_laws_toDirS_of {c : Fl true} {es : List (List (Leaf false))} (hl : es.length ≤ 1048576) (hq : ∀ e ∈ es, IsDir e) (hd : ∀ e ∈ es, Dd F.laws_toDir [.agg (reL (fl c) e)] [] = some (.agg (reL (fl fNew) e), [])) : Dd F.laws_toDirS [.leaf (.sl c (reE (fl c) es))] [] = some (.leaf (.sl fNew (reE (fl fNew) es)), []) := by
  apply dd_of rfl
  have hb : maxBytes = 140737488355328 := rfl
  rw [run_d_laws_toDirS]
  have hs : decide (es.length ≤ maxBytes) = true := decide_eq_true (by omega)
  have hs2 : decide (es.length * 40 ≤ maxBytes) = true := decide_eq_true (by omega)
  simp only [reE_length, Int.natCast_nonneg, Int.toNat_natCast, beq_self_eq_true, hs, hs2, decide_true, Bool.and_true, Bool.true_and, guarded_true]
  exact laws_toDirS_from hl hq hd 0 (Nat.zero_le _) _ (by simp [List.length_flatten])
theorem t_laws_toDir {c : Fl true} {ls : List (Leaf false)} (h : IsDir ls) : tL ls ≤ 1048576 → Dd F.laws_toDir [.agg (reL (fl c) ls)] [] = some (.agg (reL (fl fNew) ls), []) := by
  cases h with
  | mk s0 e1 h0 h1 q1 =>
    intro hb
    apply dd_of rfl
    simp only [reL, reF]
    rw [run_d_laws_toDir]
    have c1 := t_laws_toArgS (c := c) (show e1.length + tE e1 ≤ 1048576 by simp only [tL, tF] at hb; omega) q1
    try simp [c1]
theorem t_laws_toDirS {c : Fl true} {es : List (List (Leaf false))} (hb : es.length + tE es ≤ 1048576) (hq : ∀ e ∈ es, IsDir e) : Dd F.laws_toDirS [.leaf (.sl c (reE (fl c) es))] [] = some (.leaf (.sl fNew (reE (fl fNew) es)), []) := t_laws_toDirS_of (by omega) hq fun e he => t_laws_toDir (hq e he) (by have := tE_mem he; omega)
theorem laws_toInDefS_from {c : Fl true} {es : List (List (Leaf false))} (hl : es.length ≤ 1048576) (hq : ∀ e ∈ es, IsInDef e) (hd : ∀ e ∈ es, Dd F.laws_toInDef [.agg (reL (fl c) e)] [] = some (.agg (reL (fl fNew) e), [])) : ∀ i : Nat, i ≤ es.length → ∀ z : List (SV true), z.length = (es.length - i) * 10 →
    d_laws_toInDefS_A Dd (d_laws_toInDefS_0 c (reE (fl c) es) es.length i (rowAt (reE (fl fNew) es) i z)) = some (.leaf (.sl fNew (reE (fl fNew) es)), []) := by
  have hall : ∀ e ∈ reE (fl fNew) es, e.length = 10 := reE_all fun e he => (hq e he).len
  have hN : (reE (fl fNew) es).length = es.length := reE_length es
  have hC : (reE (fl c) es).length = es.length := reE_length es
  have hml : (1048576 : Nat) ≤ maxLen := by decide
  refine upto_ind ?_ ?_
  · intro z hz
    have g1 := row_full (z := z) hall
    have g2 := chunks_flatten hall
    have g3 := rowAt_len (z := z) hall (Nat.le_refl _)
    rw [hN] at g1 g2 g3
    try rw [Nat.mul_one] at g1
    rw [d_laws_toInDefS_0_eq]
    simp [g1, g2, g3, hC, SV.flatT, SV.flat, Fl.new]
  · intro i hi ih z hz
    have g3 := rowAt_len (z := z) hall (i := i) (by omega)
    have hp := putAt_row (z := z) hall (i := i) (by omega)
    rw [d_laws_toInDefS_0_eq]
    have hci := hd _ (List.getElem_mem hi)
    obtain ⟨s0, s1, s2, s3, b4, i5, s6, e7, e8, e9, he, h0, h1, h2, h3, h6, h7, q7, h8, q8, h9, q9⟩ := (hq _ (List.getElem_mem hi)).ex
    rw [reE_get, he] at hp
    simp only [reL, reF, List.map_cons, List.map_nil] at hp
    simp only [Int.ofNat_lt, hi, hC, decide_true, branch_true, Int.natCast_nonneg, Bool.and_true, Int.toNat_natCast, guarded_true, wrap_upL (Nat.lt_of_lt_of_le hi (Nat.le_trans hl hml)), sized_all (reE_all (φ := fl c) fun e he => (hq e he).len), reE_getD hi]
    rw [he] at hci ⊢
    simp only [reL, reF] at hci
    simp only [reL, reF, bindE_eq, atK_zero, atK_succ, intK_int, strK_str, boolK_bool, slK_sl, hci, Option.bind_some, svAggK_agg, List.length_cons, List.length_nil, beq_self_eq_true, Nat.reduceAdd, Nat.reduceBEq, guarded_true]
    have hd' : (i + 1) * 10 ≤ es.length * 10 := Nat.mul_le_mul_right 10 hi
    have hg : (0 + i) * 10 + 10 ≤ (rowAt (reE (fl fNew) es) i z).length := by rw [g3, hz, Nat.sub_mul]; omega
    simp only [hg, decide_true, guarded_true]
    rw [Nat.zero_add, hp]
    exact ih _ (by rw [List.length_drop, hz, Nat.sub_mul, Nat.sub_mul]; omega)
theorem t_laws_toInDefS_of {c : Fl true} {es : List (List (Leaf false))} (hl : es.length ≤ 1048576) (hq : ∀ e ∈ es, IsInDef e) (hd : ∀ e ∈ es, Dd F.laws_toInDef [.agg (reL (fl c) e)] [] = some (.agg (reL (fl fNew) e), [])) : Dd F.laws_toInDefS [.leaf (.sl c (reE (fl c) es))] [] = some (.leaf (.sl fNew (reE (fl fNew) es)), []) := by
  apply dd_of rfl
  have hb : maxBytes = 140737488355328 := rfl
  rw [run_d_laws_toInDefS]
  have hs : decide (es.length ≤ maxBytes) = true := decide_eq_true (by omega)
  have hs2 : decide (es.length * 168 ≤ maxBytes) = true := decide_eq_true (by omega)
  simp only [reE_length, Int.natCast_nonneg, Int.toNat_natCast, beq_self_eq_true, hs, hs2, decide_true, Bool.and_true, Bool.true_and, guarded_true]
  exact laws_toInDefS_from hl hq hd 0 (Nat.zero_le _) _ (by simp [List.length_flatten])
theorem t_laws_toInDef {c : Fl true} {ls : List (Leaf false)} (h : IsInDef ls) : tL ls ≤ 1048576 → Dd F.laws_toInDef [.agg (reL (fl c) ls)] [] = some (.agg (reL (fl fNew) ls), []) := by
  cases h with
  | mk s0 s1 s2 s3 b4 i5 s6 e7 e8 e9 h0 h1 h2 h3 h6 h7 q7 h8 q8 h9 q9 =>
    intro hb
    apply dd_of rfl
    simp only [reL, reF]
    rw [run_d_laws_toInDef]
    have c2 := t_laws_toType (c := c) (.mk s2 s3 h2 h3) (by simp only [tL, tF] at hb ⊢; omega)
    simp only [reL, reF] at c2
    have c5 := t_laws_toValue (c := c) (.mk i5 s6 e7 e8 h6 h7 q7 h8 q8) (by simp only [tL, tF] at hb ⊢; omega)
    simp only [reL, reF] at c5
    have c9 := t_laws_toDirS (c := c) (show e9.length + tE e9 ≤ 1048576 by simp only [tL, tF] at hb; omega) q9
    try simp [c2, c5, c9]
theorem t_laws_toInDefS {c : Fl true} {es : List (List (Leaf false))} (hb : es.length + tE es ≤ 1048576) (hq : ∀ e ∈ es, IsInDef e) : Dd F.laws_toInDefS [.leaf (.sl c (reE (fl c) es))] [] = some (.leaf (.sl fNew (reE (fl fNew) es)), []) := t_laws_toInDefS_of (by omega) hq fun e he => t_laws_toInDef (hq e he) (by have := tE_mem he; omega)
theorem laws_toFieldDefS_from {c : Fl true} {es : List (List (Leaf false))} (hl : es.length ≤ 1048576) (hq : ∀ e ∈ es, IsFieldDef e) (hd : ∀ e ∈ es, Dd F.laws_toFieldDef [.agg (reL (fl c) e)] [] = some (.agg (reL (fl fNew) e), [])) : ∀ i : Nat, i ≤ es.length → ∀ z : List (SV true), z.length = (es.length - i) * 6 →
    d_laws_toFieldDefS_A Dd (d_laws_toFieldDefS_0 c (reE (fl c) es) es.length i (rowAt (reE (fl fNew) es) i z)) = some (.leaf (.sl fNew (reE (fl fNew) es)), []) := by
  have hall : ∀ e ∈ reE (fl fNew) es, e.length = 6 := reE_all fun e he => (hq e he).len
  have hN : (reE (fl fNew) es).length = es.length := reE_length es
  have hC : (reE (fl c) es).length = es.length := reE_length es
  have hml : (1048576 : Nat) ≤ maxLen := by decide
  refine upto_ind ?_ ?_
  · intro z hz
    have g1 := row_full (z := z) hall
    have g2 := chunks_flatten hall
    have g3 := rowAt_len (z := z) hall (Nat.le_refl _)
    rw [hN] at g1 g2 g3
    try rw [Nat.mul_one] at g1
    rw [d_laws_toFieldDefS_0_eq]
    simp [g1, g2, g3, hC, SV.flatT, SV.flat, Fl.new]
  · intro i hi ih z hz
    have g3 := rowAt_len (z := z) hall (i := i) (by omega)
    have hp := putAt_row (z := z) hall (i := i) (by omega)
    rw [d_laws_toFieldDefS_0_eq]
    have hci := hd _ (List.getElem_mem hi)
    obtain ⟨s0, s1, e2, s3, s4, e5, he, h0, h1, h2, q2, h3, h4, h5, q5⟩ := (hq _ (List.getElem_mem hi)).ex
    rw [reE_get, he] at hp
    simp only [reL, reF, List.map_cons, List.map_nil] at hp
    simp only [Int.ofNat_lt, hi, hC, decide_true, branch_true, Int.natCast_nonneg, Bool.and_true, Int.toNat_natCast, guarded_true, wrap_upL (Nat.lt_of_lt_of_le hi (Nat.le_trans hl hml)), sized_all (reE_all (φ := fl c) fun e he => (hq e he).len), reE_getD hi]
    rw [he] at hci ⊢
    simp only [reL, reF] at hci
    simp only [reL, reF, bindE_eq, atK_zero, atK_succ, intK_int, strK_str, boolK_bool, slK_sl, hci, Option.bind_some, svAggK_agg, List.length_cons, List.length_nil, beq_self_eq_true, Nat.reduceAdd, Nat.reduceBEq, guarded_true]
    have hd' : (i + 1) * 6 ≤ es.length * 6 := Nat.mul_le_mul_right 6 hi
    have hg : (0 + i) * 6 + 6 ≤ (rowAt (reE (fl fNew) es) i z).length := by rw [g3, hz, Nat.sub_mul]; omega
    simp only [hg, decide_true, guarded_true]
    rw [Nat.zero_add, hp]
    exact ih _ (by rw [List.length_drop, hz, Nat.sub_mul, Nat.sub_mul]; omega)
theorem t_laws_toFieldDefS_of {c : Fl true} {es : List (List (Leaf false))} (hl : es.length ≤ 1048576) (hq : ∀ e ∈ es, IsFieldDef e) (hd : ∀ e ∈ es, Dd F.laws_toFieldDef [.agg (reL (fl c) e)] [] = some (.agg (reL (fl fNew) e), [])) : Dd F.laws_toFieldDefS [.leaf (.sl c (reE (fl c) es))] [] = some (.leaf (.sl fNew (reE (fl fNew) es)), []) := by
  apply dd_of rfl
  have hb : maxBytes = 140737488355328 := rfl
  rw [run_d_laws_toFieldDefS]
  have hs : decide (es.length ≤ maxBytes) = true := decide_eq_true (by omega)
  have hs2 : decide (es.length * 112 ≤ maxBytes) = true := decide_eq_true (by omega)
  simp only [reE_length, Int.natCast_nonneg, Int.toNat_natCast, beq_self_eq_true, hs, hs2, decide_true, Bool.and_true, Bool.true_and, guarded_true]
  exact laws_toFieldDefS_from hl hq hd 0 (Nat.zero_le _) _ (by simp [List.length_flatten])
theorem t_laws_toFieldDef {c : Fl true} {ls : List (Leaf false)} (h : IsFieldDef ls) : tL ls ≤ 1048576 → Dd F.laws_toFieldDef [.agg (reL (fl c) ls)] [] = some (.agg (reL (fl fNew) ls), []) := by
  cases h with
  | mk s0 s1 e2 s3 s4 e5 h0 h1 h2 q2 h3 h4 h5 q5 =>
    intro hb
    apply dd_of rfl
    simp only [reL, reF]
    rw [run_d_laws_toFieldDef]
    have c2 := t_laws_toInDefS (c := c) (show e2.length + tE e2 ≤ 1048576 by simp only [tL, tF] at hb; omega) q2
    have c3 := t_laws_toType (c := c) (.mk s3 s4 h3 h4) (by simp only [tL, tF] at hb ⊢; omega)
    simp only [reL, reF] at c3
    have c5 := t_laws_toDirS (c := c) (show e5.length + tE e5 ≤ 1048576 by simp only [tL, tF] at hb; omega) q5
    try simp [c2, c3, c5]
theorem t_laws_toFieldDefS {c : Fl true} {es : List (List (Leaf false))} (hb : es.length + tE es ≤ 1048576) (hq : ∀ e ∈ es, IsFieldDef e) : Dd F.laws_toFieldDefS [.leaf (.sl c (reE (fl c) es))] [] = some (.leaf (.sl fNew (reE (fl fNew) es)), []) := t_laws_toFieldDefS_of (by omega) hq fun e he => t_laws_toFieldDef (hq e he) (by have := tE_mem he; omega)
theorem laws_toEnumDefS_from {c : Fl true} {es : List (List (Leaf false))} (hl : es.length ≤ 1048576) (hq : ∀ e ∈ es, IsEnumDef e) (hd : ∀ e ∈ es, Dd F.laws_toEnumDef [.agg (reL (fl c) e)] [] = some (.agg (reL (fl fNew) e), [])) : ∀ i : Nat, i ≤ es.length → ∀ z : List (SV true), z.length = (es.length - i) * 3 →
    d_laws_toEnumDefS_A Dd (d_laws_toEnumDefS_0 c (reE (fl c) es) es.length i (rowAt (reE (fl fNew) es) i z)) = some (.leaf (.sl fNew (reE (fl fNew) es)), []) := by
  have hall : ∀ e ∈ reE (fl fNew) es, e.length = 3 := reE_all fun e he => (hq e he).len
  have hN : (reE (fl fNew) es).length = es.length := reE_length es
  have hC : (reE (fl c) es).length = es.length := reE_length es
  have hml : (1048576 : Nat) ≤ maxLen := by decide
  refine upto_ind ?_ ?_
  · intro z hz
    have g1 := row_full (z := z) hall
    have g2 := chunks_flatten hall
    have g3 := rowAt_len (z := z) hall (Nat.le_refl _)
    rw [hN] at g1 g2 g3
    try rw [Nat.mul_one] at g1
    rw [d_laws_toEnumDefS_0_eq]
    simp [g1, g2, g3, hC, SV.flatT, SV.flat, Fl.new]
  · intro i hi ih z hz
    have g3 := rowAt_len (z := z) hall (i := i) (by omega)
    have hp := putAt_row (z := z) hall (i := i) (by omega)
    rw [d_laws_toEnumDefS_0_eq]
    have hci := hd _ (List.getElem_mem hi)
    obtain ⟨s0, s1, e2, he, h0, h1, h2, q2⟩ := (hq _ (List.getElem_mem hi)).ex
    rw [reE_get, he] at hp
    simp only [reL, reF, List.map_cons, List.map_nil] at hp
    simp only [Int.ofNat_lt, hi, hC, decide_true, branch_true, Int.natCast_nonneg, Bool.and_true, Int.toNat_natCast, guarded_true, wrap_upL (Nat.lt_of_lt_of_le hi (Nat.le_trans hl hml)), sized_all (reE_all (φ := fl c) fun e he => (hq e he).len), reE_getD hi]
    rw [he] at hci ⊢
    simp only [reL, reF] at hci
    simp only [reL, reF, bindE_eq, atK_zero, atK_succ, intK_int, strK_str, boolK_bool, slK_sl, hci, Option.bind_some, svAggK_agg, List.length_cons, List.length_nil, beq_self_eq_true, Nat.reduceAdd, Nat.reduceBEq, guarded_true]
    have hd' : (i + 1) * 3 ≤ es.length * 3 := Nat.mul_le_mul_right 3 hi
    have hg : (0 + i) * 3 + 3 ≤ (rowAt (reE (fl fNew) es) i z).length := by rw [g3, hz, Nat.sub_mul]; omega
    simp only [hg, decide_true, guarded_true]
    rw [Nat.zero_add, hp]
    exact ih _ (by rw [List.length_drop, hz, Nat.sub_mul, Nat.sub_mul]; omega)
theorem t_laws_toEnumDefS_of {c : Fl true} {es : List (List (Leaf false))} (hl : es.length ≤ 1048576) (hq : ∀ e ∈ es, IsEnumDef e) (hd : ∀ e ∈ es, Dd F.laws_toEnumDef [.agg (reL (fl c) e)] [] = some (.agg (reL (fl fNew) e), [])) : Dd F.laws_toEnumDefS [.leaf (.sl c (reE (fl c) es))] [] = some (.leaf (.sl fNew (reE (fl fNew) es)), []) := by
  apply dd_of rfl
  have hb : maxBytes = 140737488355328 := rfl
  rw [run_d_laws_toEnumDefS]
  have hs : decide (es.length ≤ maxBytes) = true := decide_eq_true (by omega)
  have hs2 : decide (es.length * 56 ≤ maxBytes) = true := decide_eq_true (by omega)
  simp only [reE_length, Int.natCast_nonneg, Int.toNat_natCast, beq_self_eq_true, hs, hs2, decide_true, Bool.and_true, Bool.true_and, guarded_true]
  exact laws_toEnumDefS_from hl hq hd 0 (Nat.zero_le _) _ (by simp [List.length_flatten])
theorem t_laws_toEnumDef {c : Fl true} {ls : List (Leaf false)} (h : IsEnumDef ls) : tL ls ≤ 1048576 → Dd F.laws_toEnumDef [.agg (reL (fl c) ls)] [] = some (.agg (reL (fl fNew) ls), []) := by
  cases h with
  | mk s0 s1 e2 h0 h1 h2 q2 =>
    intro hb
    apply dd_of rfl
    simp only [reL, reF]
    rw [run_d_laws_toEnumDef]
    have c2 := t_laws_toDirS (c := c) (show e2.length + tE e2 ≤ 1048576 by simp only [tL, tF] at hb; omega) q2
    try simp [c2]
theorem t_laws_toEnumDefS {c : Fl true} {es : List (List (Leaf false))} (hb : es.length + tE es ≤ 1048576) (hq : ∀ e ∈ es, IsEnumDef e) : Dd F.laws_toEnumDefS [.leaf (.sl c (reE (fl c) es))] [] = some (.leaf (.sl fNew (reE (fl fNew) es)), []) := t_laws_toEnumDefS_of (by omega) hq fun e he => t_laws_toEnumDef (hq e he) (by have := tE_mem he; omega)
theorem laws_toRootS_from {c : Fl true} {es : List (List (Leaf false))} (hl : es.length ≤ 1048576) (hq : ∀ e ∈ es, IsRoot e) (hd : ∀ e ∈ es, Dd F.laws_toRoot [.agg (reL (fl c) e)] [] = some (.agg (reL (fl fNew) e), [])) : ∀ i : Nat, i ≤ es.length → ∀ z : List (SV true), z.length = (es.length - i) * 2 →
    d_laws_toRootS_A Dd (d_laws_toRootS_0 c (reE (fl c) es) es.length i (rowAt (reE (fl fNew) es) i z)) = some (.leaf (.sl fNew (reE (fl fNew) es)), []) := by
  have hall : ∀ e ∈ reE (fl fNew) es, e.length = 2 := reE_all fun e he => (hq e he).len
  have hN : (reE (fl fNew) es).length = es.length := reE_length es
  have hC : (reE (fl c) es).length = es.length := reE_length es
  have hml : (1048576 : Nat) ≤ maxLen := by decide
  refine upto_ind ?_ ?_
  · intro z hz
    have g1 := row_full (z := z) hall
    have g2 := chunks_flatten hall
    have g3 := rowAt_len (z := z) hall (Nat.le_refl _)
    rw [hN] at g1 g2 g3
    try rw [Nat.mul_one] at g1
    rw [d_laws_toRootS_0_eq]
    simp [g1, g2, g3, hC, SV.flatT, SV.flat, Fl.new]
  · intro i hi ih z hz
    have g3 := rowAt_len (z := z) hall (i := i) (by omega)
    have hp := putAt_row (z := z) hall (i := i) (by omega)
    rw [d_laws_toRootS_0_eq]
    have hci := hd _ (List.getElem_mem hi)
    obtain ⟨i0, s1, he, h1⟩ := (hq _ (List.getElem_mem hi)).ex
    rw [reE_get, he] at hp
    simp only [reL, reF, List.map_cons, List.map_nil] at hp
    simp only [Int.ofNat_lt, hi, hC, decide_true, branch_true, Int.natCast_nonneg, Bool.and_true, Int.toNat_natCast, guarded_true, wrap_upL (Nat.lt_of_lt_of_le hi (Nat.le_trans hl hml)), sized_all (reE_all (φ := fl c) fun e he => (hq e he).len), reE_getD hi]
    rw [he] at hci ⊢
    simp only [reL, reF] at hci
    simp only [reL, reF, bindE_eq, atK_zero, atK_succ, intK_int, strK_str, boolK_bool, slK_sl, hci, Option.bind_some, svAggK_agg, List.length_cons, List.length_nil, beq_self_eq_true, Nat.reduceAdd, Nat.reduceBEq, guarded_true]
    have hd' : (i + 1) * 2 ≤ es.length * 2 := Nat.mul_le_mul_right 2 hi
    have hg : (0 + i) * 2 + 2 ≤ (rowAt (reE (fl fNew) es) i z).length := by rw [g3, hz, Nat.sub_mul]; omega
    simp only [hg, decide_true, guarded_true]
    rw [Nat.zero_add, hp]
    exact ih _ (by rw [List.length_drop, hz, Nat.sub_mul, Nat.sub_mul]; omega)
theorem t_laws_toRootS_of {c : Fl true} {es : List (List (Leaf false))} (hl : es.length ≤ 1048576) (hq : ∀ e ∈ es, IsRoot e) (hd : ∀ e ∈ es, Dd F.laws_toRoot [.agg (reL (fl c) e)] [] = some (.agg (reL (fl fNew) e), [])) : Dd F.laws_toRootS [.leaf (.sl c (reE (fl c) es))] [] = some (.leaf (.sl fNew (reE (fl fNew) es)), []) := by
  apply dd_of rfl
  have hb : maxBytes = 140737488355328 := rfl
  rw [run_d_laws_toRootS]
  have hs : decide (es.length ≤ maxBytes) = true := decide_eq_true (by omega)
  have hs2 : decide (es.length * 24 ≤ maxBytes) = true := decide_eq_true (by omega)
  simp only [reE_length, Int.natCast_nonneg, Int.toNat_natCast, beq_self_eq_true, hs, hs2, decide_true, Bool.and_true, Bool.true_and, guarded_true]
  exact laws_toRootS_from hl hq hd 0 (Nat.zero_le _) _ (by simp [List.length_flatten])
theorem t_laws_toRoot {c : Fl true} {ls : List (Leaf false)} (h : IsRoot ls) : tL ls ≤ 1048576 → Dd F.laws_toRoot [.agg (reL (fl c) ls)] [] = some (.agg (reL (fl fNew) ls), []) := by
  cases h with
  | mk i0 s1 h1 =>
    intro hb
    apply dd_of rfl
    simp only [reL, reF]
    rw [run_d_laws_toRoot]
    try simp []
theorem t_laws_toRootS {c : Fl true} {es : List (List (Leaf false))} (hb : es.length + tE es ≤ 1048576) (hq : ∀ e ∈ es, IsRoot e) : Dd F.laws_toRootS [.leaf (.sl c (reE (fl c) es))] [] = some (.leaf (.sl fNew (reE (fl fNew) es)), []) := t_laws_toRootS_of (by omega) hq fun e he => t_laws_toRoot (hq e he) (by have := tE_mem he; omega)
theorem laws_toDefS_from {c : Fl true} {es : List (List (Leaf false))} (hl : es.length ≤ 1048576) (hq : ∀ e ∈ es, IsDef e) (hd : ∀ e ∈ es, Dd F.laws_toDef [.agg (reL (fl c) e)] [] = some (.agg (reL (fl fNew) e), [])) : ∀ i : Nat, i ≤ es.length → ∀ z : List (SV true), z.length = (es.length - i) * 11 →
    d_laws_toDefS_A Dd (d_laws_toDefS_0 c (reE (fl c) es) es.length i (rowAt (reE (fl fNew) es) i z)) = some (.leaf (.sl fNew (reE (fl fNew) es)), []) := by
  have hall : ∀ e ∈ reE (fl fNew) es, e.length = 11 := reE_all fun e he => (hq e he).len
  have hN : (reE (fl fNew) es).length = es.length := reE_length es
  have hC : (reE (fl c) es).length = es.length := reE_length es
  have hml : (1048576 : Nat) ≤ maxLen := by decide
  refine upto_ind ?_ ?_
  · intro z hz
    have g1 := row_full (z := z) hall
    have g2 := chunks_flatten hall
    have g3 := rowAt_len (z := z) hall (Nat.le_refl _)
    rw [hN] at g1 g2 g3
    try rw [Nat.mul_one] at g1
    rw [d_laws_toDefS_0_eq]
    simp [g1, g2, g3, hC, SV.flatT, SV.flat, Fl.new]
  · intro i hi ih z hz
    have g3 := rowAt_len (z := z) hall (i := i) (by omega)
    have hp := putAt_row (z := z) hall (i := i) (by omega)
    rw [d_laws_toDefS_0_eq]
    have hci := hd _ (List.getElem_mem hi)
    obtain ⟨i0, b1, s2, s3, e4, e5, e6, e7, e8, b9, e10, he, h2, h3, h4, q4, h5, q5, h6, q6, h7, q7, h8, q8, h10, q10⟩ := (hq _ (List.getElem_mem hi)).ex
    rw [reE_get, he] at hp
    simp only [reL, reF, List.map_cons, List.map_nil] at hp
    simp only [Int.ofNat_lt, hi, hC, decide_true, branch_true, Int.natCast_nonneg, Bool.and_true, Int.toNat_natCast, guarded_true, wrap_upL (Nat.lt_of_lt_of_le hi (Nat.le_trans hl hml)), sized_all (reE_all (φ := fl c) fun e he => (hq e he).len), reE_getD hi]
    rw [he] at hci ⊢
    simp only [reL, reF] at hci
    simp only [reL, reF, bindE_eq, atK_zero, atK_succ, intK_int, strK_str, boolK_bool, slK_sl, hci, Option.bind_some, svAggK_agg, List.length_cons, List.length_nil, beq_self_eq_true, Nat.reduceAdd, Nat.reduceBEq, guarded_true]
    have hd' : (i + 1) * 11 ≤ es.length * 11 := Nat.mul_le_mul_right 11 hi
    have hg : (0 + i) * 11 + 11 ≤ (rowAt (reE (fl fNew) es) i z).length := by rw [g3, hz, Nat.sub_mul]; omega
    simp only [hg, decide_true, guarded_true]
    rw [Nat.zero_add, hp]
    exact ih _ (by rw [List.length_drop, hz, Nat.sub_mul, Nat.sub_mul]; omega)
theorem t_laws_toDefS_of {c : Fl true} {es : List (List (Leaf false))} (hl : es.length ≤ 1048576) (hq : ∀ e ∈ es, IsDef e) (hd : ∀ e ∈ es, Dd F.laws_toDef [.agg (reL (fl c) e)] [] = some (.agg (reL (fl fNew) e), [])) : Dd F.laws_toDefS [.leaf (.sl c (reE (fl c) es))] [] = some (.leaf (.sl fNew (reE (fl fNew) es)), []) := by
  apply dd_of rfl
  have hb : maxBytes = 140737488355328 := rfl
  rw [run_d_laws_toDefS]
  have hs : decide (es.length ≤ maxBytes) = true := decide_eq_true (by omega)
  have hs2 : decide (es.length * 200 ≤ maxBytes) = true := decide_eq_true (by omega)
  simp only [reE_length, Int.natCast_nonneg, Int.toNat_natCast, beq_self_eq_true, hs, hs2, decide_true, Bool.and_true, Bool.true_and, guarded_true]
  exact laws_toDefS_from hl hq hd 0 (Nat.zero_le _) _ (by simp [List.length_flatten])
theorem t_laws_toDef {c : Fl true} {ls : List (Leaf false)} (h : IsDef ls) : tL ls ≤ 1048576 → Dd F.laws_toDef [.agg (reL (fl c) ls)] [] = some (.agg (reL (fl fNew) ls), []) := by
  cases h with
  | mk i0 b1 s2 s3 e4 e5 e6 e7 e8 b9 e10 h2 h3 h4 q4 h5 q5 h6 q6 h7 q7 h8 q8 h10 q10 =>
    intro hb
    apply dd_of rfl
    simp only [reL, reF]
    rw [run_d_laws_toDef]
    have c4 := t_laws_toStringS (c := c) (show e4.length ≤ 1048576 by simp only [tL, tF] at hb; omega) q4
    have c5 := t_laws_toFieldDefS (c := c) (show e5.length + tE e5 ≤ 1048576 by simp only [tL, tF] at hb; omega) q5
    have c6 := t_laws_toInDefS (c := c) (show e6.length + tE e6 ≤ 1048576 by simp only [tL, tF] at hb; omega) q6
    have c7 := t_laws_toEnumDefS (c := c) (show e7.length + tE e7 ≤ 1048576 by simp only [tL, tF] at hb; omega) q7
    have c8 := t_laws_toRootS (c := c) (show e8.length + tE e8 ≤ 1048576 by simp only [tL, tF] at hb; omega) q8
    have c10 := t_laws_toDirS (c := c) (show e10.length + tE e10 ≤ 1048576 by simp only [tL, tF] at hb; omega) q10
    try simp [c4, c5, c6, c7, c8, c10]
theorem t_laws_toDefS {c : Fl true} {es : List (List (Leaf false))} (hb : es.length + tE es ≤ 1048576) (hq : ∀ e ∈ es, IsDef e) : Dd F.laws_toDefS [.leaf (.sl c (reE (fl c) es))] [] = some (.leaf (.sl fNew (reE (fl fNew) es)), []) := t_laws_toDefS_of (by omega) hq fun e he => t_laws_toDef (hq e he) (by have := tE_mem he; omega)
theorem t_laws_toSchema {c : Fl true} {ls : List (Leaf false)} (h : IsSchema ls) : tL ls ≤ 1048576 → Dd F.laws_toSchema [.agg (reL (fl c) ls)] [] = some (.agg (reL (fl fNew) ls), []) := by
  cases h with
  | mk e0 e1 e2 h0 q0 h1 q1 h2 q2 =>
    intro hb
    apply dd_of rfl
    simp only [reL, reF]
    rw [run_d_laws_toSchema]
    have c0 := t_laws_toDefS (c := c) (show e0.length + tE e0 ≤ 1048576 by simp only [tL, tF] at hb; omega) q0
    have c1 := t_laws_toDefS (c := c) (show e1.length + tE e1 ≤ 1048576 by simp only [tL, tF] at hb; omega) q1
    have c2 := t_laws_toRootS (c := c) (show e2.length + tE e2 ≤ 1048576 by simp only [tL, tF] at hb; omega) q2
    try simp [c0, c1, c2]

end Go.Vs
end
section
open Go Go.Vs Go.Proofs
set_option linter.unusedVariables false
set_option linter.unusedSimpArgs false
namespace Go.Vs
theorem wrap_le {x : Int} (h : 0 ≤ x) : IntKind.i64.wrap x ≤ x := by
  have e : IntKind.i64.wrap x = if x % 18446744073709551616 ≥ 9223372036854775808 then x % 18446744073709551616 - 18446744073709551616 else x % 18446744073709551616 := by
    simp [IntKind.wrap, IntKind.signed, IntKind.bits]
  rw [e]
  split <;> omega
theorem markText_from : ∀ (n : Nat) (i0 : Int) (s3 : ByteArray), i0 < 10 ^ n → s3.size + n + 1 ≤ 140737488355328 → ∃ s : ByteArray, laws_markText_A Dn (laws_markText_0 i0 s3) = some (.leaf (.str s), [])
  | 0, i0, s3, h, hs => by
    have h0 : ¬ i0 > 0 := by simp at h; omega
    rw [laws_markText_0_eq]
    have h1 : (ByteArray.mk #[109]).size + s3.size ≤ 140737488355328 := by have : (ByteArray.mk #[109]).size = 1 := rfl; omega
    simp only [h0, decide_false, branch_false, h1, decide_true, guarded_true]
    exact ⟨_, rfl⟩
  | n + 1, i0, s3, h, hs => by
    rw [laws_markText_0_eq]
    by_cases h0 : i0 > 0
    · have hz : ∀ x : UInt8, (ByteArray.mk #[x]).size = 1 := fun _ => rfl
      have h2 : IntKind.i64.wrap (i0.tdiv 10) < 10 ^ n := by
        have h3 : 0 ≤ i0.tdiv 10 := Int.tdiv_nonneg (by omega) (by omega)
        have h4 := wrap_le h3
        have h5 : i0.tdiv 10 < 10 ^ n := by
          rw [Int.tdiv_eq_ediv_of_nonneg (by omega)]
          rw [Int.pow_succ] at h
          omega
        omega
      simp only [h0, decide_true, branch_true, List.map_cons, List.map_nil, hz, show 1 + s3.size ≤ 140737488355328 by omega, guarded_true]
      exact markText_from n _ _ h2 (by rw [ByteArray.size_append, hz]; omega)
    · have h1 : (ByteArray.mk #[109]).size + s3.size ≤ 140737488355328 := by have : (ByteArray.mk #[109]).size = 1 := rfl; omega
      simp only [h0, decide_false, branch_false, h1, decide_true, guarded_true]
      exact ⟨_, rfl⟩
theorem markText_ex (k : Int) : ∃ s : ByteArray, Dn F.laws_markText [vint k] [] = some (.leaf (.str s), []) := by
  have key : ∃ s : ByteArray, run2V Go.Proofs.Tryz.prog Dn Hs limR F.laws_markText [vint k] [] = some (.leaf (.str s), []) := by
    rw [run_laws_markText]
    by_cases h : k ≤ 0
    · simp only [h, decide_true, branch_true]; exact ⟨_, rfl⟩
    · obtain ⟨n, hn⟩ : ∃ n : Nat, k < 10 ^ n ∧ n ≤ k.toNat := ⟨k.toNat, by
        have : (k.toNat : Int) < 10 ^ k.toNat := by exact_mod_cast (Nat.lt_pow_self (by omega) : k.toNat < 10 ^ k.toNat)
        omega, Nat.le_refl _⟩
      simp only [h, decide_false, branch_false]
      -- the first round brings it below the bound of the kind
      rw [laws_markText_0_eq]
      have hz : ∀ x : UInt8, (ByteArray.mk #[x]).size = 1 := fun _ => rfl
      have h0 : k > 0 := by omega
      have he : (ByteArray.mk #[]).size = 0 := rfl
      simp only [h0, decide_true, branch_true, List.map_cons, List.map_nil, hz, he, show 1 + 0 ≤ 140737488355328 by omega, guarded_true]
      refine markText_from 19 _ _ ?_ (by rw [ByteArray.size_append, hz, he]; omega)
      have e : ∀ x : Int, IntKind.i64.wrap x < 10 ^ 19 := fun x => by
        have e : IntKind.i64.wrap x = if x % 18446744073709551616 ≥ 9223372036854775808 then x % 18446744073709551616 - 18446744073709551616 else x % 18446744073709551616 := by
          simp [IntKind.wrap, IntKind.signed, IntKind.bits]
        rw [e]
        split <;> omega
      exact e _
  obtain ⟨s, hs⟩ := key
  exact ⟨s, den_of hs⟩
/-- The text of a mark. -/
noncomputable def mtx (k : Int) : ByteArray := Classical.choose (markText_ex k)
theorem d_markText (k : Int) : Dn F.laws_markText [vint k] [] = some (.leaf (.str (mtx k)), []) := Classical.choose_spec (markText_ex k)
end Go.Vs
end
section
open Go Go.Vs Go.Proofs
set_option linter.unusedVariables false
set_option linter.unusedSimpArgs false
namespace Go.Vs
theorem t_markText (k : Int) : Dd F.laws_markText [.leaf (.int .i64 k)] [] = some (.leaf (.str (mtx k)), []) :=
  dd_told rfl (d_markText k) rfl rfl rfl
theorem laws_markStringS_from {es : List (List (Leaf false))} (hl : es.length ≤ maxLen) (hq : ∀ e ∈ es, IsStr e) : ∀ i : Nat, i ≤ es.length → ∀ k : Int,
    d_laws_markStringS_A Dd (d_laws_markStringS_0 fSoft (soE es) k i) = some (.leaf (.int .i64 (mkE (es.drop i) k)), []) := by
  have hC : (soE es).length = es.length := soE_length es
  refine upto_ind ?_ ?_
  · intro k; rw [d_laws_markStringS_0_eq]; simp [hC, mkE]
  · intro i hi ih k
    obtain ⟨s, he, hs⟩ := (hq _ (List.getElem_mem hi))
    rw [d_laws_markStringS_0_eq, drop_at hi]
    simp only [Int.ofNat_lt, hi, hC, decide_true, branch_true, Int.natCast_nonneg, Bool.and_true, Int.toNat_natCast, guarded_true, wrap_upL (Nat.lt_of_lt_of_le hi hl), sized_all (soE_all fun e he => (hq e he).len), soE_getD hi, t_markText, Option.bind_some, svLeafK_leaf, strK_str]
    rw [he]
    simp only [soL, soF, atK_zero, atK_succ, slK_sl, softAt, List.getElem?_cons_zero, List.getElem?_cons_succ, soft_isSoft, St.eval, List.getD_cons_zero, List.getD_cons_succ, SV.plain, sizeT3, sizeT4, sizeT9, and_self, ite_true, if_true, ite_yes, true_and, and_true, t_markText, Option.bind_some, svLeafK_leaf, strK_str, intK_int, ih]
    simp only [mkE, mkL, mkF]
theorem t_laws_markStringS {es : List (List (Leaf false))} (hl : es.length ≤ maxLen) (hq : ∀ e ∈ es, IsStr e) (k : Int) : Dd F.laws_markStringS [.leaf (.sl fSoft (soE es)), .leaf (.int .i64 k)] [] = some (.leaf (.int .i64 (mkE es k)), []) := by
  apply dd_of rfl
  rw [run_d_laws_markStringS]
  have := laws_markStringS_from hl hq 0 (Nat.zero_le _) k
  simpa using this
def MkValue (ls : List (Leaf false)) : Prop := ∀ (i0 : Int) (s1 : ByteArray) (e2 : List (List (Leaf false))) (e3 : List (List (Leaf false))), ls = [.int .i64 i0, .str s1, .sl fP e2, .sl fP e3] → (∀ k : Int, Dd F.laws_markValueS [.leaf (.sl fSoft (soE e2)), .leaf (.int .i64 k)] [] = some (.leaf (.int .i64 (mkE e2 k)), []))
theorem laws_markValueS_from {es : List (List (Leaf false))} (hl : es.length ≤ maxLen) (hq : ∀ e ∈ es, IsValue e) (hd : ∀ e ∈ es, MkValue e) : ∀ i : Nat, i ≤ es.length → ∀ k : Int,
    d_laws_markValueS_A Dd (d_laws_markValueS_0 fSoft (soE es) k i) = some (.leaf (.int .i64 (mkE (es.drop i) k)), []) := by
  have hC : (soE es).length = es.length := soE_length es
  refine upto_ind ?_ ?_
  · intro k; rw [d_laws_markValueS_0_eq]; simp [hC, mkE]
  · intro i hi ih k
    have hci := hd _ (List.getElem_mem hi)
    obtain ⟨i0, s1, e2, e3, he, h1, h2, q2, h3, q3⟩ := (hq _ (List.getElem_mem hi)).ex
    rw [d_laws_markValueS_0_eq, drop_at hi]
    simp only [Int.ofNat_lt, hi, hC, decide_true, branch_true, Int.natCast_nonneg, Bool.and_true, Int.toNat_natCast, guarded_true, wrap_upL (Nat.lt_of_lt_of_le hi hl), sized_all (soE_all fun e he => (hq e he).len), soE_getD hi, t_markText, Option.bind_some, svLeafK_leaf, strK_str]
    rw [he]
    have c2 := hci i0 s1 e2 e3 he
    have c3 := t_laws_markStringS h3 q3
    simp only [soL, soF, atK_zero, atK_succ, slK_sl, softAt, List.getElem?_cons_zero, List.getElem?_cons_succ, soft_isSoft, St.eval, List.getD_cons_zero, List.getD_cons_succ, SV.plain, sizeT3, sizeT4, sizeT9, and_self, ite_true, if_true, ite_yes, true_and, and_true, c2, c3, t_markText, Option.bind_some, svLeafK_leaf, strK_str, intK_int, ih]
    simp only [mkE, mkL, mkF]
theorem t_laws_markValueS_of {es : List (List (Leaf false))} (hl : es.length ≤ maxLen) (hq : ∀ e ∈ es, IsValue e) (hd : ∀ e ∈ es, MkValue e) (k : Int) : Dd F.laws_markValueS [.leaf (.sl fSoft (soE es)), .leaf (.int .i64 k)] [] = some (.leaf (.int .i64 (mkE es k)), []) := by
  apply dd_of rfl
  rw [run_d_laws_markValueS]
  have := laws_markValueS_from hl hq hd 0 (Nat.zero_le _) k
  simpa using this
theorem mkValue {ls : List (Leaf false)} (h : IsValue ls) : MkValue ls := by
  induction h with
  | mk i0 s1 e2 e3 h1 h2 q2 h3 q3 ih2 =>
    intro y0 y1 y2 y3 heq
    simp only [List.cons.injEq, Leaf.int.injEq, Leaf.str.injEq, Leaf.sl.injEq, and_true, true_and] at heq
    obtain ⟨rfl, rfl, rfl, rfl⟩ := heq
    exact t_laws_markValueS_of h2 q2 ih2
theorem t_laws_markValueS {es : List (List (Leaf false))} (hl : es.length ≤ maxLen) (hq : ∀ e ∈ es, IsValue e) (k : Int) : Dd F.laws_markValueS [.leaf (.sl fSoft (soE es)), .leaf (.int .i64 k)] [] = some (.leaf (.int .i64 (mkE es k)), []) := t_laws_markValueS_of hl hq (fun e he => mkValue (hq e he)) k
theorem laws_markArgS_from {es : List (List (Leaf false))} (hl : es.length ≤ maxLen) (hq : ∀ e ∈ es, IsArg e) : ∀ i : Nat, i ≤ es.length → ∀ k : Int,
    d_laws_markArgS_A Dd (d_laws_markArgS_0 fSoft (soE es) k i) = some (.leaf (.int .i64 (mkE (es.drop i) k)), []) := by
  have hC : (soE es).length = es.length := soE_length es
  refine upto_ind ?_ ?_
  · intro k; rw [d_laws_markArgS_0_eq]; simp [hC, mkE]
  · intro i hi ih k
    obtain ⟨s0, i1, s2, e3, e4, he, h0, h2, h3, q3, h4, q4⟩ := (hq _ (List.getElem_mem hi)).ex
    rw [d_laws_markArgS_0_eq, drop_at hi]
    simp only [Int.ofNat_lt, hi, hC, decide_true, branch_true, Int.natCast_nonneg, Bool.and_true, Int.toNat_natCast, guarded_true, wrap_upL (Nat.lt_of_lt_of_le hi hl), sized_all (soE_all fun e he => (hq e he).len), soE_getD hi, t_markText, Option.bind_some, svLeafK_leaf, strK_str]
    rw [he]
    have c3 := t_laws_markValueS h3 q3
    have c4 := t_laws_markStringS h4 q4
    simp only [soL, soF, atK_zero, atK_succ, slK_sl, softAt, List.getElem?_cons_zero, List.getElem?_cons_succ, soft_isSoft, St.eval, List.getD_cons_zero, List.getD_cons_succ, SV.plain, sizeT3, sizeT4, sizeT9, and_self, ite_true, if_true, ite_yes, true_and, and_true, c3, c4, t_markText, Option.bind_some, svLeafK_leaf, strK_str, intK_int, ih]
    simp only [mkE, mkL, mkF]
theorem t_laws_markArgS {es : List (List (Leaf false))} (hl : es.length ≤ maxLen) (hq : ∀ e ∈ es, IsArg e) (k : Int) : Dd F.laws_markArgS [.leaf (.sl fSoft (soE es)), .leaf (.int .i64 k)] [] = some (.leaf (.int .i64 (mkE es k)), []) := by
  apply dd_of rfl
  rw [run_d_laws_markArgS]
  have := laws_markArgS_from hl hq 0 (Nat.zero_le _) k
  simpa using this
theorem laws_markDirS_from {es : List (List (Leaf false))} (hl : es.length ≤ maxLen) (hq : ∀ e ∈ es, IsDir e) : ∀ i : Nat, i ≤ es.length → ∀ k : Int,
    d_laws_markDirS_A Dd (d_laws_markDirS_0 fSoft (soE es) k i) = some (.leaf (.int .i64 (mkE (es.drop i) k)), []) := by
  have hC : (soE es).length = es.length := soE_length es
  refine upto_ind ?_ ?_
  · intro k; rw [d_laws_markDirS_0_eq]; simp [hC, mkE]
  · intro i hi ih k
    obtain ⟨s0, e1, he, h0, h1, q1⟩ := (hq _ (List.getElem_mem hi)).ex
    rw [d_laws_markDirS_0_eq, drop_at hi]
    simp only [Int.ofNat_lt, hi, hC, decide_true, branch_true, Int.natCast_nonneg, Bool.and_true, Int.toNat_natCast, guarded_true, wrap_upL (Nat.lt_of_lt_of_le hi hl), sized_all (soE_all fun e he => (hq e he).len), soE_getD hi, t_markText, Option.bind_some, svLeafK_leaf, strK_str]
    rw [he]
    have c1 := t_laws_markArgS h1 q1
    simp only [soL, soF, atK_zero, atK_succ, slK_sl, softAt, List.getElem?_cons_zero, List.getElem?_cons_succ, soft_isSoft, St.eval, List.getD_cons_zero, List.getD_cons_succ, SV.plain, sizeT3, sizeT4, sizeT9, and_self, ite_true, if_true, ite_yes, true_and, and_true, c1, t_markText, Option.bind_some, svLeafK_leaf, strK_str, intK_int, ih]
    simp only [mkE, mkL, mkF]
theorem t_laws_markDirS {es : List (List (Leaf false))} (hl : es.length ≤ maxLen) (hq : ∀ e ∈ es, IsDir e) (k : Int) : Dd F.laws_markDirS [.leaf (.sl fSoft (soE es)), .leaf (.int .i64 k)] [] = some (.leaf (.int .i64 (mkE es k)), []) := by
  apply dd_of rfl
  rw [run_d_laws_markDirS]
  have := laws_markDirS_from hl hq 0 (Nat.zero_le _) k
  simpa using this
theorem laws_markInDefS_from {es : List (List (Leaf false))} (hl : es.length ≤ maxLen) (hq : ∀ e ∈ es, IsInDef e) : ∀ i : Nat, i ≤ es.length → ∀ k : Int,
    d_laws_markInDefS_A Dd (d_laws_markInDefS_0 fSoft (soE es) k i) = some (.leaf (.int .i64 (mkE (es.drop i) k)), []) := by
  have hC : (soE es).length = es.length := soE_length es
  refine upto_ind ?_ ?_
  · intro k; rw [d_laws_markInDefS_0_eq]; simp [hC, mkE]
  · intro i hi ih k
    obtain ⟨s0, s1, s2, s3, b4, i5, s6, e7, e8, e9, he, h0, h1, h2, h3, h6, h7, q7, h8, q8, h9, q9⟩ := (hq _ (List.getElem_mem hi)).ex
    rw [d_laws_markInDefS_0_eq, drop_at hi]
    simp only [Int.ofNat_lt, hi, hC, decide_true, branch_true, Int.natCast_nonneg, Bool.and_true, Int.toNat_natCast, guarded_true, wrap_upL (Nat.lt_of_lt_of_le hi hl), sized_all (soE_all fun e he => (hq e he).len), soE_getD hi, t_markText, Option.bind_some, svLeafK_leaf, strK_str]
    rw [he]
    have c7 := t_laws_markValueS h7 q7
    have c8 := t_laws_markStringS h8 q8
    have c9 := t_laws_markDirS h9 q9
    simp only [soL, soF, atK_zero, atK_succ, slK_sl, softAt, List.getElem?_cons_zero, List.getElem?_cons_succ, soft_isSoft, St.eval, List.getD_cons_zero, List.getD_cons_succ, SV.plain, sizeT3, sizeT4, sizeT9, and_self, ite_true, if_true, ite_yes, true_and, and_true, c7, c8, c9, t_markText, Option.bind_some, svLeafK_leaf, strK_str, intK_int, ih]
    simp only [mkE, mkL, mkF]
theorem t_laws_markInDefS {es : List (List (Leaf false))} (hl : es.length ≤ maxLen) (hq : ∀ e ∈ es, IsInDef e) (k : Int) : Dd F.laws_markInDefS [.leaf (.sl fSoft (soE es)), .leaf (.int .i64 k)] [] = some (.leaf (.int .i64 (mkE es k)), []) := by
  apply dd_of rfl
  rw [run_d_laws_markInDefS]
  have := laws_markInDefS_from hl hq 0 (Nat.zero_le _) k
  simpa using this
theorem laws_markFieldDefS_from {es : List (List (Leaf false))} (hl : es.length ≤ maxLen) (hq : ∀ e ∈ es, IsFieldDef e) : ∀ i : Nat, i ≤ es.length → ∀ k : Int,
    d_laws_markFieldDefS_A Dd (d_laws_markFieldDefS_0 fSoft (soE es) k i) = some (.leaf (.int .i64 (mkE (es.drop i) k)), []) := by
  have hC : (soE es).length = es.length := soE_length es
  refine upto_ind ?_ ?_
  · intro k; rw [d_laws_markFieldDefS_0_eq]; simp [hC, mkE]
  · intro i hi ih k
    obtain ⟨s0, s1, e2, s3, s4, e5, he, h0, h1, h2, q2, h3, h4, h5, q5⟩ := (hq _ (List.getElem_mem hi)).ex
    rw [d_laws_markFieldDefS_0_eq, drop_at hi]
    simp only [Int.ofNat_lt, hi, hC, decide_true, branch_true, Int.natCast_nonneg, Bool.and_true, Int.toNat_natCast, guarded_true, wrap_upL (Nat.lt_of_lt_of_le hi hl), sized_all (soE_all fun e he => (hq e he).len), soE_getD hi, t_markText, Option.bind_some, svLeafK_leaf, strK_str]
    rw [he]
    have c2 := t_laws_markInDefS h2 q2
    have c5 := t_laws_markDirS h5 q5
    simp only [soL, soF, atK_zero, atK_succ, slK_sl, softAt, List.getElem?_cons_zero, List.getElem?_cons_succ, soft_isSoft, St.eval, List.getD_cons_zero, List.getD_cons_succ, SV.plain, sizeT3, sizeT4, sizeT9, and_self, ite_true, if_true, ite_yes, true_and, and_true, c2, c5, t_markText, Option.bind_some, svLeafK_leaf, strK_str, intK_int, ih]
    simp only [mkE, mkL, mkF]
theorem t_laws_markFieldDefS {es : List (List (Leaf false))} (hl : es.length ≤ maxLen) (hq : ∀ e ∈ es, IsFieldDef e) (k : Int) : Dd F.laws_markFieldDefS [.leaf (.sl fSoft (soE es)), .leaf (.int .i64 k)] [] = some (.leaf (.int .i64 (mkE es k)), []) := by
  apply dd_of rfl
  rw [run_d_laws_markFieldDefS]
  have := laws_markFieldDefS_from hl hq 0 (Nat.zero_le _) k
  simpa using this
theorem laws_markEnumDefS_from {es : List (List (Leaf false))} (hl : es.length ≤ maxLen) (hq : ∀ e ∈ es, IsEnumDef e) : ∀ i : Nat, i ≤ es.length → ∀ k : Int,
    d_laws_markEnumDefS_A Dd (d_laws_markEnumDefS_0 fSoft (soE es) k i) = some (.leaf (.int .i64 (mkE (es.drop i) k)), []) := by
  have hC : (soE es).length = es.length := soE_length es
  refine upto_ind ?_ ?_
  · intro k; rw [d_laws_markEnumDefS_0_eq]; simp [hC, mkE]
  · intro i hi ih k
    obtain ⟨s0, s1, e2, he, h0, h1, h2, q2⟩ := (hq _ (List.getElem_mem hi)).ex
    rw [d_laws_markEnumDefS_0_eq, drop_at hi]
    simp only [Int.ofNat_lt, hi, hC, decide_true, branch_true, Int.natCast_nonneg, Bool.and_true, Int.toNat_natCast, guarded_true, wrap_upL (Nat.lt_of_lt_of_le hi hl), sized_all (soE_all fun e he => (hq e he).len), soE_getD hi, t_markText, Option.bind_some, svLeafK_leaf, strK_str]
    rw [he]
    have c2 := t_laws_markDirS h2 q2
    simp only [soL, soF, atK_zero, atK_succ, slK_sl, softAt, List.getElem?_cons_zero, List.getElem?_cons_succ, soft_isSoft, St.eval, List.getD_cons_zero, List.getD_cons_succ, SV.plain, sizeT3, sizeT4, sizeT9, and_self, ite_true, if_true, ite_yes, true_and, and_true, c2, t_markText, Option.bind_some, svLeafK_leaf, strK_str, intK_int, ih]
    simp only [mkE, mkL, mkF]
theorem t_laws_markEnumDefS {es : List (List (Leaf false))} (hl : es.length ≤ maxLen) (hq : ∀ e ∈ es, IsEnumDef e) (k : Int) : Dd F.laws_markEnumDefS [.leaf (.sl fSoft (soE es)), .leaf (.int .i64 k)] [] = some (.leaf (.int .i64 (mkE es k)), []) := by
  apply dd_of rfl
  rw [run_d_laws_markEnumDefS]
  have := laws_markEnumDefS_from hl hq 0 (Nat.zero_le _) k
  simpa using this
theorem laws_markRootS_from {es : List (List (Leaf false))} (hl : es.length ≤ maxLen) (hq : ∀ e ∈ es, IsRoot e) : ∀ i : Nat, i ≤ es.length → ∀ k : Int,
    d_laws_markRootS_A Dd (d_laws_markRootS_0 fSoft (soE es) k i) = some (.leaf (.int .i64 (mkE (es.drop i) k)), []) := by
  have hC : (soE es).length = es.length := soE_length es
  refine upto_ind ?_ ?_
  · intro k; rw [d_laws_markRootS_0_eq]; simp [hC, mkE]
  · intro i hi ih k
    obtain ⟨i0, s1, he, h1⟩ := (hq _ (List.getElem_mem hi)).ex
    rw [d_laws_markRootS_0_eq, drop_at hi]
    simp only [Int.ofNat_lt, hi, hC, decide_true, branch_true, Int.natCast_nonneg, Bool.and_true, Int.toNat_natCast, guarded_true, wrap_upL (Nat.lt_of_lt_of_le hi hl), sized_all (soE_all fun e he => (hq e he).len), soE_getD hi, t_markText, Option.bind_some, svLeafK_leaf, strK_str]
    rw [he]
    simp only [soL, soF, atK_zero, atK_succ, slK_sl, softAt, List.getElem?_cons_zero, List.getElem?_cons_succ, soft_isSoft, St.eval, List.getD_cons_zero, List.getD_cons_succ, SV.plain, sizeT3, sizeT4, sizeT9, and_self, ite_true, if_true, ite_yes, true_and, and_true, t_markText, Option.bind_some, svLeafK_leaf, strK_str, intK_int, ih]
    simp only [mkE, mkL, mkF]
theorem t_laws_markRootS {es : List (List (Leaf false))} (hl : es.length ≤ maxLen) (hq : ∀ e ∈ es, IsRoot e) (k : Int) : Dd F.laws_markRootS [.leaf (.sl fSoft (soE es)), .leaf (.int .i64 k)] [] = some (.leaf (.int .i64 (mkE es k)), []) := by
  apply dd_of rfl
  rw [run_d_laws_markRootS]
  have := laws_markRootS_from hl hq 0 (Nat.zero_le _) k
  simpa using this
theorem laws_markDefS_from {es : List (List (Leaf false))} (hl : es.length ≤ maxLen) (hq : ∀ e ∈ es, IsDef e) : ∀ i : Nat, i ≤ es.length → ∀ k : Int,
    d_laws_markDefS_A Dd (d_laws_markDefS_0 fSoft (soE es) k i) = some (.leaf (.int .i64 (mkE (es.drop i) k)), []) := by
  have hC : (soE es).length = es.length := soE_length es
  refine upto_ind ?_ ?_
  · intro k; rw [d_laws_markDefS_0_eq]; simp [hC, mkE]
  · intro i hi ih k
    obtain ⟨i0, b1, s2, s3, e4, e5, e6, e7, e8, b9, e10, he, h2, h3, h4, q4, h5, q5, h6, q6, h7, q7, h8, q8, h10, q10⟩ := (hq _ (List.getElem_mem hi)).ex
    rw [d_laws_markDefS_0_eq, drop_at hi]
    simp only [Int.ofNat_lt, hi, hC, decide_true, branch_true, Int.natCast_nonneg, Bool.and_true, Int.toNat_natCast, guarded_true, wrap_upL (Nat.lt_of_lt_of_le hi hl), sized_all (soE_all fun e he => (hq e he).len), soE_getD hi, t_markText, Option.bind_some, svLeafK_leaf, strK_str]
    rw [he]
    have c4 := t_laws_markStringS h4 q4
    have c5 := t_laws_markFieldDefS h5 q5
    have c6 := t_laws_markInDefS h6 q6
    have c7 := t_laws_markEnumDefS h7 q7
    have c8 := t_laws_markRootS h8 q8
    have c10 := t_laws_markDirS h10 q10
    simp only [soL, soF, atK_zero, atK_succ, slK_sl, softAt, List.getElem?_cons_zero, List.getElem?_cons_succ, soft_isSoft, St.eval, List.getD_cons_zero, List.getD_cons_succ, SV.plain, sizeT3, sizeT4, sizeT9, and_self, ite_true, if_true, ite_yes, true_and, and_true, c4, c5, c6, c7, c8, c10, t_markText, Option.bind_some, svLeafK_leaf, strK_str, intK_int, ih]
    simp only [mkE, mkL, mkF]
theorem t_laws_markDefS {es : List (List (Leaf false))} (hl : es.length ≤ maxLen) (hq : ∀ e ∈ es, IsDef e) (k : Int) : Dd F.laws_markDefS [.leaf (.sl fSoft (soE es)), .leaf (.int .i64 k)] [] = some (.leaf (.int .i64 (mkE es k)), []) := by
  apply dd_of rfl
  rw [run_d_laws_markDefS]
  have := laws_markDefS_from hl hq 0 (Nat.zero_le _) k
  simpa using this
theorem t_laws_markSchema {ls : List (Leaf false)} (h : IsSchema ls) (k : Int) : Dd F.laws_markSchema [.agg (saL ls), .leaf (.int .i64 k)] [] = some (.leaf (.int .i64 (msL ls k)), []) := by
  cases h with
  | mk e0 e1 e2 h0 q0 h1 q1 h2 q2 =>
    apply dd_of rfl
    simp only [saL, saF]
    rw [run_d_laws_markSchema]
    simp only [t_laws_markDefS h0 q0, t_laws_markDefS h1 q1, t_laws_markRootS h2 q2, Option.bind_some, svLeafK_leaf, intK_int, msL]

end Go.Vs
end
section
open Go Go.Vs Go.Proofs
set_option linter.unusedVariables false
set_option linter.unusedSimpArgs false
namespace Go.Vs
noncomputable def mkProblem (k : Int) : List (Leaf false) := [.int .i64 (k), .str (mtx (IntKind.i64.wrap (k + 1))), .str (mtx (IntKind.i64.wrap (IntKind.i64.wrap (k + 1) + 1)))]
def nextProblem (k : Int) : Int := IntKind.i64.wrap (IntKind.i64.wrap (IntKind.i64.wrap (k + 1) + 1) + 1)
noncomputable def rowProblem : Nat → Int → List (List (Leaf false))
  | 0, _ => []
  | n + 1, k => mkProblem k :: rowProblem n (nextProblem k)
def endProblem : Nat → Int → Int
  | 0, k => k
  | n + 1, k => endProblem n (nextProblem k)
theorem endProblem_succ : ∀ (n : Nat) (k : Int), endProblem (n + 1) k = nextProblem (endProblem n k)
  | 0, _ => rfl
  | n + 1, k => endProblem_succ n (nextProblem k)
theorem rowProblem_length : ∀ (n : Nat) (k : Int), (rowProblem n k).length = n
  | 0, _ => rfl
  | n + 1, k => by rw [rowProblem, List.length_cons, rowProblem_length n]
theorem rowProblem_all : ∀ (n : Nat) (k : Int), ∀ e ∈ rowProblem n k, e.length = 3
  | 0, _, e, h => by simp [rowProblem] at h
  | n + 1, k, e, h => by
    rcases List.mem_cons.1 h with rfl | h
    · rfl
    · exact rowProblem_all n _ e h
theorem rowProblem_get : ∀ (n : Nat) (k : Int) (i : Nat) (h : i < (rowProblem n k).length), (rowProblem n k)[i] = mkProblem (endProblem i k)
  | 0, _, i, h => by simp [rowProblem] at h
  | n + 1, k, 0, h => rfl
  | n + 1, k, i + 1, h => rowProblem_get n (nextProblem k) i (by simpa [rowProblem] using h)
theorem laws_markProblemS_from {n : Nat} {k : Int} (hl : n ≤ maxLen) : ∀ i : Nat, i ≤ n → ∀ z : List (SV false), z.all SV.flat = true → (n - i) * 3 ≤ z.length →
    laws_markProblemS_r0_A Dn (laws_markProblemS_r0_0 n (endProblem i k) i (rowAt (rowProblem n k) i z)) = some (vint (endProblem n k), [rowAt (rowProblem n k) n (z.drop ((n - i) * 3))]) := by
  have hN := rowProblem_length n k
  have hall := rowProblem_all n k
  refine upto_ind ?_ ?_
  · intro z hz hzl
    rw [laws_markProblemS_r0_0_eq]
    have hf := rowAt_flat (l := rowProblem n k) (i := n) hz
    simp [hf]
  · intro i hi ih z hz hzl
    have hlen := rowAt_len (z := z) hall (i := i) (by omega)
    have hp := putAt_row (z := z) hall (i := i) (by omega)
    rw [rowProblem_get] at hp
    simp only [mkProblem, List.map_cons, List.map_nil] at hp
    have hd : (n - i) * 3 = (n - (i + 1)) * 3 + 3 := by rw [← Nat.succ_mul]; congr 1; omega
    rw [laws_markProblemS_r0_0_eq]
    simp only [Int.ofNat_lt, hi, decide_true, branch_true, Int.natCast_nonneg, Bool.and_true, guarded_true, wrap_upL (Nat.lt_of_lt_of_le hi hl), List.getElem_toArray, List.getElem_cons_zero, List.getElem_cons_succ, Nat.zero_add, Nat.add_zero, Int.toNat_natCast, d_markText, Option.bind_some, svLeafK_leaf, strK_str]
    have b0 : i * 3 + 1 ≤ (rowAt (rowProblem n k) i z).length := by rw [hlen]; omega
    simp only [b0, decide_true, guarded_true]
    have b1 : ∀ l : List (SV false), l.length = 1 → i * 3 + 1 + 1 ≤ (putAt (rowAt (rowProblem n k) i z) (i * 3) l).length := fun l hl0 => by rw [putAt_length (by rw [hl0, hlen]; omega), hlen]; omega
    have j1 : ∀ (l : List (SV false)) (x : SV false), l.length = 1 → putAt (putAt (rowAt (rowProblem n k) i z) (i * 3) l) (i * 3 + 1) [x] = putAt (rowAt (rowProblem n k) i z) (i * 3) (l ++ [x]) := fun l x hl0 => putAt_two (by rw [hl0]) (by rw [hl0, hlen]; simp; omega)
    have b2 : ∀ l : List (SV false), l.length = 2 → i * 3 + 2 + 1 ≤ (putAt (rowAt (rowProblem n k) i z) (i * 3) l).length := fun l hl0 => by rw [putAt_length (by rw [hl0, hlen]; omega), hlen]; omega
    have j2 : ∀ (l : List (SV false)) (x : SV false), l.length = 2 → putAt (putAt (rowAt (rowProblem n k) i z) (i * 3) l) (i * 3 + 2) [x] = putAt (rowAt (rowProblem n k) i z) (i * 3) (l ++ [x]) := fun l x hl0 => putAt_two (by rw [hl0]) (by rw [hl0, hlen]; simp; omega)
    rw [decide_eq_true (b1 _ rfl), guarded_true, j1 _ _ rfl]
    simp only [List.cons_append, List.nil_append]
    rw [decide_eq_true (b2 _ rfl), guarded_true, j2 _ _ rfl]
    simp only [List.cons_append, List.nil_append]
    rw [hp]
    have hz2 : (z.drop 3).all SV.flat = true := List.all_eq_true.2 fun x hx => List.all_eq_true.1 hz x (List.mem_of_mem_drop hx)
    have := ih (z.drop 3) hz2 (by rw [List.length_drop]; omega)
    rw [endProblem_succ] at this
    simp only [nextProblem] at this
    rw [this, List.drop_drop, hd, Nat.add_comm 3]
theorem d_laws_markProblemS_r {n : Nat} {k : Int} (hl : n ≤ maxLen) {z : List (SV false)} (hz : z.all SV.flat = true) (hzl : n * 3 ≤ z.length) :
    Dn F.laws_markProblemS [.bsl 0 3 0 n, vint k] [z] = some (vint (endProblem n k), [rowAt (rowProblem n k) n (z.drop (n * 3))]) := by
  refine den_of ?_
  rw [run_laws_markProblemS_r0]
  have := laws_markProblemS_from (n := n) (k := k) hl 0 (Nat.zero_le _) z hz (by simpa using hzl)
  simpa [rowAt, endProblem] using this
theorem laws_heldProblemS_from {n : Nat} {k : Int} (hl : n ≤ maxLen) {z : List (SV false)} (hz : z.all SV.flat = true) : ∀ i : Nat, i ≤ n →
    laws_heldProblemS_r0_A Dn (laws_heldProblemS_r0_0 n (endProblem i k) i (rowAt (rowProblem n k) n z)) = some (vint (endProblem n k), [rowAt (rowProblem n k) n z]) := by
  have hN := rowProblem_length n k
  have hall := rowProblem_all n k
  have hf := rowAt_flat (l := rowProblem n k) (i := n) hz
  refine upto_ind ?_ ?_
  · rw [laws_heldProblemS_r0_0_eq]
    simp [hf]
  · intro i hi ih
    have hi' : i < (rowProblem n k).length := by omega
    rw [endProblem_succ] at ih
    simp only [nextProblem] at ih
    rw [laws_heldProblemS_r0_0_eq]
    simp only [Int.ofNat_lt, hi, decide_true, branch_true, Int.natCast_nonneg, Bool.and_true, guarded_true, wrap_upL (Nat.lt_of_lt_of_le hi hl), List.getElem_toArray, List.getElem_cons_zero, List.getElem_cons_succ, Nat.zero_add, Nat.add_zero, Int.toNat_natCast, d_markText, Option.bind_some, svLeafK_leaf, strK_str]
    have get : ∀ (o p : Nat) (ho : o < 3) (hp : p = i * 3 + o) (kk : SV false → Res), atSV (rowAt (rowProblem n k) n z) p kk = kk (.leaf ((mkProblem (endProblem i k))[o]'ho)) := fun o p ho hp kk => by
      have := atSV_row (r := z) hall hi' ho hp kk
      rw [hN] at this
      rw [this]
      simp only [rowProblem_get]
      try rfl
    rw [get 0 _ (by omega) (by omega)]
    simp only [mkProblem, List.getElem_cons_zero, List.getElem_cons_succ, SV.drop, svLeafK_leaf, intK_int, strK_str, bne_self_eq_false, beq_self_eq_true, Bool.not_true, branch_false]
    rw [get 1 _ (by omega) (by omega)]
    simp only [mkProblem, List.getElem_cons_zero, List.getElem_cons_succ, SV.drop, svLeafK_leaf, intK_int, strK_str, bne_self_eq_false, beq_self_eq_true, Bool.not_true, branch_false]
    rw [get 2 _ (by omega) (by omega)]
    simp only [mkProblem, List.getElem_cons_zero, List.getElem_cons_succ, SV.drop, svLeafK_leaf, intK_int, strK_str, bne_self_eq_false, beq_self_eq_true, Bool.not_true, branch_false]
    exact ih
theorem d_laws_heldProblemS_r {n : Nat} {k : Int} (hl : n ≤ maxLen) {z : List (SV false)} (hz : z.all SV.flat = true) :
    Dn F.laws_heldProblemS [.bsl 0 3 0 n, vint k] [rowAt (rowProblem n k) n z] = some (vint (endProblem n k), [rowAt (rowProblem n k) n z]) := by
  refine den_of ?_
  rw [run_laws_heldProblemS_r0]
  have := laws_heldProblemS_from (n := n) (k := k) hl hz 0 (Nat.zero_le _)
  simpa [endProblem] using this
theorem d_laws_markProblemS_nil (k : Int) : Dn F.laws_markProblemS [vsl [], vint k] [] = some (vint k, []) := by
  refine den_of ?_
  rw [run_laws_markProblemS, laws_markProblemS_0_eq]
  simp
theorem d_laws_heldProblemS_nil (k : Int) : Dn F.laws_heldProblemS [vsl [], vint k] [] = some (vint k, []) := by
  refine den_of ?_
  rw [run_laws_heldProblemS, laws_heldProblemS_0_eq]
  simp

end Go.Vs
end
section
/- Flags that are had anew and dropped again. -/
namespace Go.Vs
mutual
theorem reF_er (c : Fl true) : ∀ l : Leaf false, reF er (reF (fl c) l) = l
  | .sl _ es => by rw [reF, reF, reE_er c es]; cases ‹Fl false›; rfl
  | .bool _ | .int _ _ | .str _ | .unk | .nl _ => by simp [reF]
theorem reL_er (c : Fl true) : ∀ l : List (Leaf false), reL er (reL (fl c) l) = l
  | [] => by rw [reL, reL]
  | l :: r => by rw [reL, reL, reF_er c l, reL_er c r]
theorem reE_er (c : Fl true) : ∀ l : List (List (Leaf false)), reE er (reE (fl c) l) = l
  | [] => by rw [reE, reE]
  | l :: r => by rw [reE, reE, reL_er c l, reE_er c r]
end
theorem reE_append {m m' : Bool} {φ : Fl m → Fl m'} (a b : List (List (Leaf m))) : reE φ (a ++ b) = reE φ a ++ reE φ b := by rw [reE_map, reE_map, reE_map, List.map_append]
theorem reS_sl (c : Fl true) (es : List (List (Leaf false))) : reS er (.leaf (.sl c (reE (fl c) es))) = vsl es := by
  simp only [reS, reF, reE_er]
theorem reS_agg (c : Fl true) (ls : List (Leaf false)) : reS er (.agg (reL (fl c) ls)) = .agg ls := by
  simp only [reS, reL_er]
end Go.Vs
end
section
open Go Go.Vs Go.Proofs
set_option linter.unusedVariables false
set_option linter.unusedSimpArgs false
set_option maxRecDepth 100000
namespace Go.Vs
theorem dn_sound {N : Env} {ev0 ev1 : Value} (hN : N.K = KOf ev0 ev1) (hE : isErr ev0 ∧ isErr ev1) : DSound Tryz.prog N Dn := den_sound hP hG (told_sound hN hE.1 hE.2) Hs
theorem dd_sound {N : Env} {ev0 ev1 : Value} (hN : N.K = KOf ev0 ev1) (hE : isErr ev0 ∧ isErr ev1) : DSound Tryz.prog N Dd := den_sound hP hG (liftT_sound (dn_sound hN hE) keep) Hs
section
variable {c : Fl true}
theorem reS_er_li {x : SV false} (h : x.flat = true) : reS er (reS li x) = x := by
  have e : ∀ es : List (List (Leaf false)), reE er (reE li es) = es := fun es => reE_er fOld es
  cases x <;> simp [SV.flat] at h <;> simp only [reS]
  · rw [show reF er (reF li _) = _ from reF_er fOld _]
  · rw [e]
  · rw [show reL er (reL li _) = _ from reL_er fOld _]
theorem map_er_li : ∀ {l : List (SV false)}, l.all SV.flat = true → (l.map (reS li)).map (reS er) = l
  | [], _ => rfl
  | x :: l, h => by
    rw [List.all_cons, Bool.and_eq_true] at h
    rw [List.map_cons, List.map_cons, reS_er_li h.1, map_er_li h.2]
theorem map_flat {l : List (SV false)} (h : l.all SV.flat = true) : (l.map (reS li)).all SV.flat = true := by
  rw [List.all_map]
  exact List.all_eq_true.2 fun x hx => reS_flat x (List.all_eq_true.1 h x hx)
/-- A row that has been marked. -/
noncomputable def marked (n k : Nat) : List (SV false) := rowAt (rowProblem n 1) n ((List.replicate k SV.any).drop (n * 3))
theorem any_flat (k : Nat) : (List.replicate k (SV.any (m := false))).all SV.flat = true := by
  rw [List.all_eq_true]; intro x hx; rw [List.eq_of_mem_replicate hx]; rfl
theorem drop_flat {l : List (SV false)} (h : l.all SV.flat = true) (n : Nat) : (l.drop n).all SV.flat = true :=
  List.all_eq_true.2 fun x hx => List.all_eq_true.1 h x (List.mem_of_mem_drop hx)
theorem marked_flat (n k : Nat) : (marked n k).all SV.flat = true := rowAt_flat (drop_flat (any_flat k) _)
theorem t_markProblemS_r {n k : Nat} (hl : n ≤ maxLen) (hk : n * 3 ≤ k) : Dd F.laws_markProblemS [.bsl 0 3 0 n, .leaf (.int .i64 1)] [List.replicate k .any] = some (.leaf (.int .i64 (endProblem n 1)), [(marked n k).map (reS li)]) :=
  dd_told rfl (d_laws_markProblemS_r (k := 1) hl (any_flat k) (by rw [List.length_replicate]; exact hk)) rfl (by rw [List.map_cons, List.map_replicate]; rfl) rfl
theorem t_heldProblemS_r {n k : Nat} (hl : n ≤ maxLen) : Dd F.laws_heldProblemS [.bsl 0 3 0 n, .leaf (.int .i64 1)] [(marked n k).map (reS li)] = some (.leaf (.int .i64 (endProblem n 1)), [(marked n k).map (reS li)]) :=
  dd_told rfl (d_laws_heldProblemS_r (k := 1) hl (drop_flat (any_flat k) _)) rfl (by rw [List.map_cons, map_er_li (marked_flat n k)]; rfl) rfl
theorem endProblem_le : ∀ (n : Nat) (k : Int), 0 ≤ k → k + 3 * n ≤ cap → 0 ≤ endProblem n k
  | 0, k, h, _ => h
  | n + 1, k, h, hc => by
    rw [endProblem]
    have e : nextProblem k = k + 3 := by
      unfold nextProblem
      simp only [cap] at hc
      rw [wrap64 (z := k + 1) (by omega) (by omega), wrap64 (z := k + 1 + 1) (by omega) (by omega), wrap64 (z := k + 1 + 1 + 1) (by omega) (by omega)]; omega
    rw [e]
    exact endProblem_le n _ (by omega) (by omega)
end
end Go.Vs
end
