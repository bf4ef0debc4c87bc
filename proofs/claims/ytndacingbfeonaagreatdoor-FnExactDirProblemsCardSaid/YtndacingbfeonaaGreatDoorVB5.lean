/- What the program's functions compute, read off their text by the shadow runner (IL, VsNames, VsLst, VsFig, VsTold); no condition. -/
import Derived.Laws.Strings
import Derived.Sort.Walk0
import Derived.Lib.ParseIntB
import Derived.Test.YtndacingbfeonaaGreatDoorVB4
section
open Go Go.Vs Go.Proofs
set_option maxRecDepth 100000
set_option linter.unusedVariables false
namespace Go.Vs
def laws_FnExactDirProblems_s0 (c0_0 : Fl true) (e0_0 : LT) (c0_1 : Fl true) (e0_1 : LT) (c0_2 : Fl true) (e0_2 : LT) (s1 : ByteArray) (c2 : Fl true) (e2 : LT) : St true := St.mk [.agg [.sl c0_0 e0_0, .sl c0_1 e0_1, .sl c0_2 e0_2], .leaf (.str s1), .leaf (.sl c2 e2), .any, .any, .any, .any, .any, .any, .any, .any, .any, .any, .any, .any, .any, .any, .any, .any, .any, .any, .any, .any, .any, .any, .any, .any, .any, .any, .any, .any, .any, .any, .any, .any, .any, .any, .any, .any, .any, .any, .any, .any, .any, .any, .any, .any, .any, .any, .any, .any, .any, .any, .any, .any, .any, .any, .any, .any, .any, .any, .any, .any, .any, .any, .any, .any, .any, .any, .any, .any, .any, .any, .any, .any, .any, .any, .any, .any, .any, .any, .any, .any, .any, .any, .any, .any, .any, .any, .any, .any, .any, .any, .any, .any, .any, .any, .any, .any, .any] [none, none, none, none, none, none, none, none, none, none, none, none, none, none, none, none, none, none, none, none, none, none, none, none, none, none, none, none, none, none, none, none, none, none, none, none, none, none, none, none, none, none, none, none, none, none, none, none, none, none, none, none, none, none, none, none, none, none, none, none, none, none, none, none, none, none, none, none, none, none, none, none, none, none, none, none, none, none, none, none, none, none, none, none, none, none, none, none, none, none, none, none, none, none, none, none, none, none, none, none]
theorem laws_FnExactDirProblems_c0 (D : Oracle true) (J : PT → Ret true) (c0_0 : Fl true) (e0_0 : LT) (c0_1 : Fl true) (e0_1 : LT) (c0_2 : Fl true) (e0_2 : LT) (s1 : ByteArray) (c2 : Fl true) (e2 : LT) : nameF Tryz.prog D Hs F.laws_FnExactDirProblems [way 8] 0 J (way 0, laws_FnExactDirProblems_s0 c0_0 e0_0 c0_1 e0_1 c0_2 e0_2 s1 c2 e2) = branch (decide ((↑s1.size : Int) > 1048576)) (some (.leaf (.bool true), [])) ((D F.laws_szSchema [.agg [.sl c0_0 e0_0, .sl c0_1 e0_1, .sl c0_2 e0_2], .leaf (.int .i64 1048576)] []).bind fun r => svLeafK r.fst fun l => intK .i64 l fun n => branch (decide (n < 0)) (some (.leaf (.bool true), [])) ((D F.laws_szDirS [.leaf (.sl c2 e2), .leaf (.int .i64 n)] []).bind fun r => svLeafK r.fst fun l => intK .i64 l fun n => branch (decide (n < 0)) (some (.leaf (.bool true), [])) ((D F.laws_toSchema [.agg [.sl c0_0 e0_0, .sl c0_1 e0_1, .sl c0_2 e0_2]] []).bind fun r => svAggK r.fst fun cs => guarded (cs.length == 3) (atK cs 0 fun l => slK l fun c es => atK cs 1 fun l => slK l fun c_1 es_1 => atK cs 2 fun l => slK l fun c_2 es_2 => (D F.laws_toDirS [.leaf (.sl c2 e2)] []).bind fun r => svSlK r.fst fun c_3 es_3 => (D F.spec_DirProblems [.agg [.sl c es, .sl c_1 es_1, .sl c_2 es_2], .leaf (.str s1), .leaf (.sl c_3 es_3)] []).bind fun r => svOwnK T.impl_Problem r.fst fun es => J (way 8, St.mk [.any, .leaf (.str s1), .leaf (.sl c2 e2), .ptr 3 0, .any, .any, .any, .any, .own (some T.impl_Problem) es, .any, .any, .any, .any, .any, .any, .any, .any, .any, .any, .any, .any, .any, .any, .any, .any, .any, .any, .any, .any, .any, .any, .any, .any, .any, .any, .any, .any, .any, .any, .any, .any, .any, .any, .any, .any, .any, .any, .any, .any, .any, .any, .any, .any, .any, .any, .any, .any, .any, .any, .any, .any, .any, .any, .any, .any, .any, .any, .any, .any, .any, .any, .any, .any, .any, .any, .any, .any, .any, .any, .any, .any, .any, .any, .any, .any, .any, .any, .any, .any, .any, .any, .any, .any, .any, .any, .any, .any, .any, .any, .any] [none, none, none, some [.leaf (.sl c0_0 e0_0), .leaf (.sl c0_1 e0_1), .leaf (.sl c0_2 e0_2)], none, none, none, none, none, none, none, none, none, none, none, none, none, none, none, none, none, none, none, none, none, none, none, none, none, none, none, none, none, none, none, none, none, none, none, none, none, none, none, none, none, none, none, none, none, none, none, none, none, none, none, none, none, none, none, none, none, none, none, none, none, none, none, none, none, none, none, none, none, none, none, none, none, none, none, none, none, none, none, none, none, none, none, none, none, none, none, none, none, none, none, none, none, none, none, none]))))) := by revert J; refine id ?_; intro J; kernel_rfl
def laws_FnExactDirProblems_s1 (s1 : ByteArray) (c2 : Fl true) (e2 : LT) (c3 c3_0 : Fl true) (e3_0 : LT) (c3_1 : Fl true) (e3_1 : LT) (c3_2 : Fl true) (e3_2 : LT) (c8 : Fl true) (e8 : LT) : St true := St.mk [.any, .leaf (.str s1), .leaf (.sl c2 e2), .eptr c3 [.sl c3_0 e3_0, .sl c3_1 e3_1, .sl c3_2 e3_2] 0, .any, .any, .any, .any, .leaf (.sl c8 e8), .any, .any, .any, .any, .any, .any, .any, .any, .any, .any, .any, .any, .any, .any, .any, .any, .any, .any, .any, .any, .any, .any, .any, .any, .any, .any, .any, .any, .any, .any, .any, .any, .any, .any, .any, .any, .any, .any, .any, .any, .any, .any, .any, .any, .any, .any, .any, .any, .any, .any, .any, .any, .any, .any, .any, .any, .any, .any, .any, .any, .any, .any, .any, .any, .any, .any, .any, .any, .any, .any, .any, .any, .any, .any, .any, .any, .any, .any, .any, .any, .any, .any, .any, .any, .any, .any, .any, .any, .any, .any, .any] [none, none, none, none, none, none, none, none, none, none, none, none, none, none, none, none, none, none, none, none, none, none, none, none, none, none, none, none, none, none, none, none, none, none, none, none, none, none, none, none, none, none, none, none, none, none, none, none, none, none, none, none, none, none, none, none, none, none, none, none, none, none, none, none, none, none, none, none, none, none, none, none, none, none, none, none, none, none, none, none, none, none, none, none, none, none, none, none, none, none, none, none, none, none, none, none, none, none, none, none]
theorem laws_FnExactDirProblems_c1 (D : Oracle true) (J : PT → Ret true) (s1 : ByteArray) (c2 : Fl true) (e2 : LT) (c3 : Fl true) (c3_0 : Fl true) (e3_0 : LT) (c3_1 : Fl true) (e3_1 : LT) (c3_2 : Fl true) (e3_2 : LT) (c8 : Fl true) (e8 : LT) : nameF Tryz.prog D Hs F.laws_FnExactDirProblems [way 10] 0 J (way 8, laws_FnExactDirProblems_s1 s1 c2 e2 c3 c3_0 e3_0 c3_1 e3_1 c3_2 e3_2 c8 e8) = (D F.laws_toSchema [.agg [.sl c3_0 e3_0, .sl c3_1 e3_1, .sl c3_2 e3_2]] []).bind fun r => svAggK r.fst fun cs => guarded (cs.length == 3) (atK cs 0 fun l => slK l fun c es => atK cs 1 fun l => slK l fun c_1 es_1 => atK cs 2 fun l => slK l fun c_2 es_2 => (D F.laws_toDirS [.leaf (.sl c2 e2)] []).bind fun r => svSlK r.fst fun c_3 es_3 => J (way 10, St.mk [.any, .leaf (.str s1), .leaf (.sl c2 e2), .eptr c3 [.sl c3_0 e3_0, .sl c3_1 e3_1, .sl c3_2 e3_2] 0, .any, .any, .any, .any, .leaf (.sl c8 e8), .ptr 9 0, .leaf (.sl c_3 es_3), .any, .any, .any, .any, .any, .any, .any, .any, .any, .any, .any, .any, .any, .any, .any, .any, .any, .any, .any, .any, .any, .any, .any, .any, .any, .any, .any, .any, .any, .any, .any, .any, .any, .any, .any, .any, .any, .any, .any, .any, .any, .any, .any, .any, .any, .any, .any, .any, .any, .any, .any, .any, .any, .any, .any, .any, .any, .any, .any, .any, .any, .any, .any, .any, .any, .any, .any, .any, .any, .any, .any, .any, .any, .any, .any, .any, .any, .any, .any, .any, .any, .any, .any, .any, .any, .any, .any, .any, .any] [none, none, none, none, none, none, none, none, none, some [.leaf (.sl c es), .leaf (.sl c_1 es_1), .leaf (.sl c_2 es_2)], none, none, none, none, none, none, none, none, none, none, none, none, none, none, none, none, none, none, none, none, none, none, none, none, none, none, none, none, none, none, none, none, none, none, none, none, none, none, none, none, none, none, none, none, none, none, none, none, none, none, none, none, none, none, none, none, none, none, none, none, none, none, none, none, none, none, none, none, none, none, none, none, none, none, none, none, none, none, none, none, none, none, none, none, none, none, none, none, none, none])) := by revert J; refine id ?_; intro J; kernel_rfl
def laws_FnExactDirProblems_s2 (s1 : ByteArray) (c2 : Fl true) (e2 : LT) (c3 c3_0 : Fl true) (e3_0 : LT) (c3_1 : Fl true) (e3_1 : LT) (c3_2 : Fl true) (e3_2 : LT) (c8 : Fl true) (e8 : LT) (c9 c9_0 : Fl true) (e9_0 : LT) (c9_1 : Fl true) (e9_1 : LT) (c9_2 : Fl true) (e9_2 : LT) (c10 : Fl true) (e10 : LT) : St true := St.mk [.any, .leaf (.str s1), .leaf (.sl c2 e2), .eptr c3 [.sl c3_0 e3_0, .sl c3_1 e3_1, .sl c3_2 e3_2] 0, .any, .any, .any, .any, .leaf (.sl c8 e8), .eptr c9 [.sl c9_0 e9_0, .sl c9_1 e9_1, .sl c9_2 e9_2] 0, .leaf (.sl c10 e10), .any, .any, .any, .any, .any, .any, .any, .any, .any, .any, .any, .any, .any, .any, .any, .any, .any, .any, .any, .any, .any, .any, .any, .any, .any, .any, .any, .any, .any, .any, .any, .any, .any, .any, .any, .any, .any, .any, .any, .any, .any, .any, .any, .any, .any, .any, .any, .any, .any, .any, .any, .any, .any, .any, .any, .any, .any, .any, .any, .any, .any, .any, .any, .any, .any, .any, .any, .any, .any, .any, .any, .any, .any, .any, .any, .any, .any, .any, .any, .any, .any, .any, .any, .any, .any, .any, .any, .any, .any] [none, none, none, none, none, none, none, none, none, none, none, none, none, none, none, none, none, none, none, none, none, none, none, none, none, none, none, none, none, none, none, none, none, none, none, none, none, none, none, none, none, none, none, none, none, none, none, none, none, none, none, none, none, none, none, none, none, none, none, none, none, none, none, none, none, none, none, none, none, none, none, none, none, none, none, none, none, none, none, none, none, none, none, none, none, none, none, none, none, none, none, none, none, none, none, none, none, none, none, none]
theorem laws_FnExactDirProblems_c2 (D : Oracle true) (J : PT → Ret true) (s1 : ByteArray) (c2 : Fl true) (e2 : LT) (c3 : Fl true) (c3_0 : Fl true) (e3_0 : LT) (c3_1 : Fl true) (e3_1 : LT) (c3_2 : Fl true) (e3_2 : LT) (c8 : Fl true) (e8 : LT) (c9 : Fl true) (c9_0 : Fl true) (e9_0 : LT) (c9_1 : Fl true) (e9_1 : LT) (c9_2 : Fl true) (e9_2 : LT) (c10 : Fl true) (e10 : LT) : nameF Tryz.prog D Hs F.laws_FnExactDirProblems [way 14] 0 J (way 10, laws_FnExactDirProblems_s2 s1 c2 e2 c3 c3_0 e3_0 c3_1 e3_1 c3_2 e3_2 c8 e8 c9 c9_0 e9_0 c9_1 e9_1 c9_2 e9_2 c10 e10) = (D F.impl_DirProblems [.agg [.sl c9_0 e9_0, .sl c9_1 e9_1, .sl c9_2 e9_2], .leaf (.str s1), .leaf (.sl c10 e10)] []).bind fun r => svOwnK T.impl_Problem r.fst fun es => (D F.laws_eqProblemS [.leaf (.sl fNew es), .leaf (.sl c8 e8)] []).bind fun r => svLeafK r.fst fun l => boolK l fun b => branch (!b) (some (.leaf (.bool false), [])) ((D F.laws_toSchema [.agg [.sl c3_0 e3_0, .sl c3_1 e3_1, .sl c3_2 e3_2]] []).bind fun r => svAggK r.fst fun cs => guarded (cs.length == 3) (atK cs 0 fun l => slK l fun c es_1 => atK cs 1 fun l => slK l fun c_1 es_2 => atK cs 2 fun l => slK l fun c_2 es_3 => (D F.laws_eqSchema [.agg [.sl c9_0 e9_0, .sl c9_1 e9_1, .sl c9_2 e9_2], .agg [.sl c es_1, .sl c_1 es_2, .sl c_2 es_3]] []).bind fun r => svLeafK r.fst fun l => boolK l fun b => branch (!b) (some (.leaf (.bool false), [])) ((D F.laws_toDirS [.leaf (.sl c2 e2)] []).bind fun r => svSlK r.fst fun c es_4 => (D F.laws_eqDirS [.leaf (.sl c10 e10), .leaf (.sl c es_4)] []).bind fun r => svLeafK r.fst fun l => boolK l fun b => branch (!b) (some (.leaf (.bool false), [])) (J (way 14, St.mk [.any, .leaf (.str s1), .leaf (.sl c2 e2), .eptr c3 [.sl c3_0 e3_0, .sl c3_1 e3_1, .sl c3_2 e3_2] 0, .any, .any, .any, .any, .leaf (.sl c8 e8), .eptr c9 [.sl c9_0 e9_0, .sl c9_1 e9_1, .sl c9_2 e9_2] 0, .leaf (.sl c10 e10), .own (some T.impl_Problem) es, .any, .any, .any, .any, .any, .any, .any, .any, .any, .any, .any, .any, .any, .any, .any, .any, .any, .any, .any, .any, .any, .any, .any, .any, .any, .any, .any, .any, .any, .any, .any, .any, .any, .any, .any, .any, .any, .any, .any, .any, .any, .any, .any, .any, .any, .any, .any, .any, .any, .any, .any, .any, .any, .any, .any, .any, .any, .any, .any, .any, .any, .any, .any, .any, .any, .any, .any, .any, .any, .any, .any, .any, .any, .any, .any, .any, .any, .any, .any, .any, .any, .any, .any, .any, .any, .any, .any, .any] [none, none, none, none, none, none, none, none, none, none, none, none, none, none, none, none, none, none, none, none, none, none, none, none, none, none, none, none, none, none, none, none, none, none, none, none, none, none, none, none, none, none, none, none, none, none, none, none, none, none, none, none, none, none, none, none, none, none, none, none, none, none, none, none, none, none, none, none, none, none, none, none, none, none, none, none, none, none, none, none, none, none, none, none, none, none, none, none, none, none, none, none, none, none, none, none, none, none, none, none]))))) := by revert J; refine id ?_; intro J; kernel_rfl
def laws_FnExactDirProblems_s3 (s1 : ByteArray) (c2 : Fl true) (e2 : LT) (c3 c3_0 : Fl true) (e3_0 : LT) (c3_1 : Fl true) (e3_1 : LT) (c3_2 : Fl true) (e3_2 : LT) (c8 : Fl true) (e8 : LT) (c9 c9_0 : Fl true) (e9_0 : LT) (c9_1 : Fl true) (e9_1 : LT) (c9_2 : Fl true) (e9_2 : LT) (c10 : Fl true) (e10 : LT) (c11 : Fl true) (e11 : LT) : St true := St.mk [.any, .leaf (.str s1), .leaf (.sl c2 e2), .eptr c3 [.sl c3_0 e3_0, .sl c3_1 e3_1, .sl c3_2 e3_2] 0, .any, .any, .any, .any, .leaf (.sl c8 e8), .eptr c9 [.sl c9_0 e9_0, .sl c9_1 e9_1, .sl c9_2 e9_2] 0, .leaf (.sl c10 e10), .leaf (.sl c11 e11), .any, .any, .any, .any, .any, .any, .any, .any, .any, .any, .any, .any, .any, .any, .any, .any, .any, .any, .any, .any, .any, .any, .any, .any, .any, .any, .any, .any, .any, .any, .any, .any, .any, .any, .any, .any, .any, .any, .any, .any, .any, .any, .any, .any, .any, .any, .any, .any, .any, .any, .any, .any, .any, .any, .any, .any, .any, .any, .any, .any, .any, .any, .any, .any, .any, .any, .any, .any, .any, .any, .any, .any, .any, .any, .any, .any, .any, .any, .any, .any, .any, .any, .any, .any, .any, .any, .any, .any] [none, none, none, none, none, none, none, none, none, none, none, none, none, none, none, none, none, none, none, none, none, none, none, none, none, none, none, none, none, none, none, none, none, none, none, none, none, none, none, none, none, none, none, none, none, none, none, none, none, none, none, none, none, none, none, none, none, none, none, none, none, none, none, none, none, none, none, none, none, none, none, none, none, none, none, none, none, none, none, none, none, none, none, none, none, none, none, none, none, none, none, none, none, none, none, none, none, none, none, none]
theorem laws_FnExactDirProblems_c3 (D : Oracle true) (J : PT → Ret true) (s1 : ByteArray) (c2 : Fl true) (e2 : LT) (c3 : Fl true) (c3_0 : Fl true) (e3_0 : LT) (c3_1 : Fl true) (e3_1 : LT) (c3_2 : Fl true) (e3_2 : LT) (c8 : Fl true) (e8 : LT) (c9 : Fl true) (c9_0 : Fl true) (e9_0 : LT) (c9_1 : Fl true) (e9_1 : LT) (c9_2 : Fl true) (e9_2 : LT) (c10 : Fl true) (e10 : LT) (c11 : Fl true) (e11 : LT) : nameF Tryz.prog D Hs F.laws_FnExactDirProblems [way 18] 0 J (way 14, laws_FnExactDirProblems_s3 s1 c2 e2 c3 c3_0 e3_0 c3_1 e3_1 c3_2 e3_2 c8 e8 c9 c9_0 e9_0 c9_1 e9_1 c9_2 e9_2 c10 e10 c11 e11) = (D F.laws_markSchema [.agg [.sl c9_0 e9_0, .sl c9_1 e9_1, .sl c9_2 e9_2], .leaf (.int .i64 1)] []).bind fun r => lastB r.snd (svLeafK r.fst fun l => intK .i64 l fun n => (D F.laws_markDirS [.leaf (.sl c10 e10), .leaf (.int .i64 n)] []).bind fun r => lastB r.snd (svLeafK r.fst fun l => intK .i64 l fun n => branch (decide (n < 0) == false) ((D F.laws_eqProblemS [.leaf (.sl c11 e11), .leaf (.sl c8 e8)] []).bind fun r => svLeafK r.fst fun l => boolK l fun b => branch (!b) (some (.leaf (.bool false), [])) (J (way 18, St.mk [.any, .leaf (.str s1), .leaf (.sl c2 e2), .eptr c3 [.sl c3_0 e3_0, .sl c3_1 e3_1, .sl c3_2 e3_2] 0, .any, .any, .any, .any, .leaf (.sl c8 e8), .any, .any, .leaf (.sl c11 e11), .any, .any, .any, .any, .any, .any, .any, .any, .any, .any, .any, .any, .any, .any, .any, .any, .any, .any, .any, .any, .any, .any, .any, .any, .any, .any, .any, .any, .any, .any, .any, .any, .any, .any, .any, .any, .any, .any, .any, .any, .any, .any, .any, .any, .any, .any, .any, .any, .any, .any, .any, .any, .any, .any, .any, .any, .any, .any, .any, .any, .any, .any, .any, .any, .any, .any, .any, .any, .any, .any, .any, .any, .any, .any, .any, .any, .any, .any, .any, .any, .any, .any, .any, .any, .any, .any, .any, .any] [none, none, none, none, none, none, none, none, none, none, none, none, none, none, none, none, none, none, none, none, none, none, none, none, none, none, none, none, none, none, none, none, none, none, none, none, none, none, none, none, none, none, none, none, none, none, none, none, none, none, none, none, none, none, none, none, none, none, none, none, none, none, none, none, none, none, none, none, none, none, none, none, none, none, none, none, none, none, none, none, none, none, none, none, none, none, none, none, none, none, none, none, none, none, none, none, none, none, none, none]))) (some (.leaf (.bool false), [])))) := by revert J; refine id ?_; intro J; kernel_rfl
def laws_FnExactDirProblems_s4 (s1 : ByteArray) (c2 : Fl true) (e2 : LT) (c3 c3_0 : Fl true) (e3_0 : LT) (c3_1 : Fl true) (e3_1 : LT) (c3_2 : Fl true) (e3_2 : LT) (c8 : Fl true) (e8 : LT) (c11 : Fl true) (e11 : LT) : St true := St.mk [.any, .leaf (.str s1), .leaf (.sl c2 e2), .eptr c3 [.sl c3_0 e3_0, .sl c3_1 e3_1, .sl c3_2 e3_2] 0, .any, .any, .any, .any, .leaf (.sl c8 e8), .any, .any, .leaf (.sl c11 e11), .any, .any, .any, .any, .any, .any, .any, .any, .any, .any, .any, .any, .any, .any, .any, .any, .any, .any, .any, .any, .any, .any, .any, .any, .any, .any, .any, .any, .any, .any, .any, .any, .any, .any, .any, .any, .any, .any, .any, .any, .any, .any, .any, .any, .any, .any, .any, .any, .any, .any, .any, .any, .any, .any, .any, .any, .any, .any, .any, .any, .any, .any, .any, .any, .any, .any, .any, .any, .any, .any, .any, .any, .any, .any, .any, .any, .any, .any, .any, .any, .any, .any, .any, .any, .any, .any, .any, .any] [none, none, none, none, none, none, none, none, none, none, none, none, none, none, none, none, none, none, none, none, none, none, none, none, none, none, none, none, none, none, none, none, none, none, none, none, none, none, none, none, none, none, none, none, none, none, none, none, none, none, none, none, none, none, none, none, none, none, none, none, none, none, none, none, none, none, none, none, none, none, none, none, none, none, none, none, none, none, none, none, none, none, none, none, none, none, none, none, none, none, none, none, none, none, none, none, none, none, none, none]
theorem laws_FnExactDirProblems_c4 (D : Oracle true) (J : PT → Ret true) (s1 : ByteArray) (c2 : Fl true) (e2 : LT) (c3 : Fl true) (c3_0 : Fl true) (e3_0 : LT) (c3_1 : Fl true) (e3_1 : LT) (c3_2 : Fl true) (e3_2 : LT) (c8 : Fl true) (e8 : LT) (c11 : Fl true) (e11 : LT) : nameF Tryz.prog D Hs F.laws_FnExactDirProblems [] 0 J (way 18, laws_FnExactDirProblems_s4 s1 c2 e2 c3 c3_0 e3_0 c3_1 e3_1 c3_2 e3_2 c8 e8 c11 e11) = (D F.laws_markProblemS [.leaf (.sl c11 e11), .leaf (.int .i64 1)] []).bind fun r => lastB r.snd (svLeafK r.fst fun l => intK .i64 l fun n => (D F.laws_heldProblemS [.leaf (.sl c11 e11), .leaf (.int .i64 1)] []).bind fun r => lastB r.snd (svLeafK r.fst fun l => intK .i64 l fun n_1 => branch (decide (n_1 < 0)) (some (.leaf (.bool false), [])) (branch (n_1 != n) (some (.leaf (.bool false), [])) ((D F.laws_toSchema [.agg [.sl c3_0 e3_0, .sl c3_1 e3_1, .sl c3_2 e3_2]] []).bind fun r => svAggK r.fst fun cs => guarded (cs.length == 3) (atK cs 0 fun l => slK l fun c es => atK cs 1 fun l => slK l fun c_1 es_1 => atK cs 2 fun l => slK l fun c_2 es_2 => (D F.laws_toDirS [.leaf (.sl c2 e2)] []).bind fun r => svSlK r.fst fun c_3 es_3 => (D F.impl_DirProblems [.agg [.sl c es, .sl c_1 es_1, .sl c_2 es_2], .leaf (.str s1), .leaf (.sl c_3 es_3)] []).bind fun r => svOwnK T.impl_Problem r.fst fun es => (D F.laws_eqProblemS [.leaf (.sl fNew es), .leaf (.sl c8 e8)] []).bind fun r => svLeafK r.fst fun l => boolK l fun b => branch (!b) (some (.leaf (.bool false), [])) ((D F.laws_heldProblemS [.leaf (.sl c11 e11), .leaf (.int .i64 1)] []).bind fun r => lastB r.snd (svLeafK r.fst fun l => intK .i64 l fun n_2 => branch (decide (n_2 < 0)) (some (.leaf (.bool false), [])) (branch (n_2 != n) (some (.leaf (.bool false), [])) (some (.leaf (.bool true), [])))))))))) := by revert J; refine id ?_; intro J; kernel_rfl
def laws_FnExactDirProblems_s4r (s1 : ByteArray) (c2 : Fl true) (e2 : LT) (c3 c3_0 : Fl true) (e3_0 : LT) (c3_1 : Fl true) (e3_1 : LT) (c3_2 : Fl true) (e3_2 : LT) (c8 : Fl true) (e8 : LT) (n11 : Nat) (vx11 : List (SV true)) : St true := St.mk [.any, .leaf (.str s1), .leaf (.sl c2 e2), .eptr c3 [.sl c3_0 e3_0, .sl c3_1 e3_1, .sl c3_2 e3_2] 0, .any, .any, .any, .any, .leaf (.sl c8 e8), .any, .any, .bsl 11 3 0 n11, .any, .any, .any, .any, .any, .any, .any, .any, .any, .any, .any, .any, .any, .any, .any, .any, .any, .any, .any, .any, .any, .any, .any, .any, .any, .any, .any, .any, .any, .any, .any, .any, .any, .any, .any, .any, .any, .any, .any, .any, .any, .any, .any, .any, .any, .any, .any, .any, .any, .any, .any, .any, .any, .any, .any, .any, .any, .any, .any, .any, .any, .any, .any, .any, .any, .any, .any, .any, .any, .any, .any, .any, .any, .any, .any, .any, .any, .any, .any, .any, .any, .any, .any, .any, .any, .any, .any, .any] [none, none, none, none, none, none, none, none, none, none, none, some vx11, none, none, none, none, none, none, none, none, none, none, none, none, none, none, none, none, none, none, none, none, none, none, none, none, none, none, none, none, none, none, none, none, none, none, none, none, none, none, none, none, none, none, none, none, none, none, none, none, none, none, none, none, none, none, none, none, none, none, none, none, none, none, none, none, none, none, none, none, none, none, none, none, none, none, none, none, none, none, none, none, none, none, none, none, none, none, none, none]
theorem laws_FnExactDirProblems_c4r (D : Oracle true) (J : PT → Ret true) (s1 : ByteArray) (c2 : Fl true) (e2 : LT) (c3 : Fl true) (c3_0 : Fl true) (e3_0 : LT) (c3_1 : Fl true) (e3_1 : LT) (c3_2 : Fl true) (e3_2 : LT) (c8 : Fl true) (e8 : LT) (n11 : Nat) (vx11 : List (SV true)) : nameF Tryz.prog D Hs F.laws_FnExactDirProblems [] 0 J (way 18, laws_FnExactDirProblems_s4r s1 c2 e2 c3 c3_0 e3_0 c3_1 e3_1 c3_2 e3_2 c8 e8 n11 vx11) = guarded ([vx11].all fun x => x.all SV.flat) ((D F.laws_markProblemS [.bsl 0 3 0 n11, .leaf (.int .i64 1)] [vx11]).bind fun r => headB r.snd fun d r_1 => lastB r_1 (svLeafK r.fst fun l => intK .i64 l fun n => guarded ([d].all fun x => x.all SV.flat) ((D F.laws_heldProblemS [.bsl 0 3 0 n11, .leaf (.int .i64 1)] [d]).bind fun r => headB r.snd fun d r_2 => lastB r_2 (svLeafK r.fst fun l => intK .i64 l fun n_1 => branch (decide (n_1 < 0)) (some (.leaf (.bool false), [])) (branch (n_1 != n) (some (.leaf (.bool false), [])) ((D F.laws_toSchema [.agg [.sl c3_0 e3_0, .sl c3_1 e3_1, .sl c3_2 e3_2]] []).bind fun r => svAggK r.fst fun cs => guarded (cs.length == 3) (atK cs 0 fun l => slK l fun c es => atK cs 1 fun l => slK l fun c_1 es_1 => atK cs 2 fun l => slK l fun c_2 es_2 => (D F.laws_toDirS [.leaf (.sl c2 e2)] []).bind fun r => svSlK r.fst fun c_3 es_3 => (D F.impl_DirProblems [.agg [.sl c es, .sl c_1 es_1, .sl c_2 es_2], .leaf (.str s1), .leaf (.sl c_3 es_3)] []).bind fun r => svOwnK T.impl_Problem r.fst fun es => (D F.laws_eqProblemS [.leaf (.sl fNew es), .leaf (.sl c8 e8)] []).bind fun r => svLeafK r.fst fun l => boolK l fun b => branch (!b) (some (.leaf (.bool false), [])) (guarded ([d].all fun x => x.all SV.flat) ((D F.laws_heldProblemS [.bsl 0 3 0 n11, .leaf (.int .i64 1)] [d]).bind fun r => headB r.snd fun d r_3 => lastB r_3 (svLeafK r.fst fun l => intK .i64 l fun n_2 => branch (decide (n_2 < 0)) (some (.leaf (.bool false), [])) (branch (n_2 != n) (some (.leaf (.bool false), [])) (some (.leaf (.bool true), []))))))))))))) := by revert J; refine id ?_; intro J; kernel_rfl
end Go.Vs
end
section
/- Rows of texts: rising, joined, looked at by halves. No program in sight. -/
set_option linter.unusedVariables false
namespace Go.Vs
def key (e : El) : List UInt8 := (strAt e 0).toList
theorem leT {a b c : List UInt8} (h : a ≤ b) (k : b ≤ c) : a ≤ c := List.le_trans h k
theorem leR (a : List UInt8) : a ≤ a := List.le_refl a
theorem leN {a b : List UInt8} (h : ¬ a ≤ b) : b ≤ a := (List.le_total a b).resolve_left h
theorem leA {a b : List UInt8} (h : a ≤ b) (k : b ≤ a) : a = b := List.le_antisymm h k
theorem ltI {a b : List UInt8} : ¬ a < b ↔ b ≤ a := List.not_lt
def Rising (l : List El) : Prop := l.Pairwise fun a b => key a ≤ key b
def push (out : List El) (x : El) : List El := if (out.getLast?.map key) = some (key x) then out else out ++ [x]
theorem push_mem {out : List El} {x : El} {s : List UInt8} : (∃ e ∈ push out x, key e = s) ↔ (∃ e ∈ out, key e = s) ∨ key x = s := by
  unfold push
  split
  · rename_i h
    rw [Option.map_eq_some_iff] at h
    obtain ⟨l, hl, hk⟩ := h
    constructor
    · exact .inl
    · rintro (h | h)
      · exact h
      · exact ⟨l, List.mem_of_getLast? hl, hk.trans h⟩
  · constructor
    · rintro ⟨e, he, hs⟩
      rcases List.mem_append.1 he with he | he
      · exact .inl ⟨e, he, hs⟩
      · rw [List.mem_singleton.1 he] at hs; exact .inr hs
    · rintro (⟨e, he, hs⟩ | h)
      · exact ⟨e, List.mem_append_left _ he, hs⟩
      · exact ⟨x, by simp, h⟩
theorem push_sub {out : List El} {x e : El} (h : e ∈ push out x) : e ∈ out ∨ e = x := by
  unfold push at h
  split at h
  · exact .inl h
  · rcases List.mem_append.1 h with h | h
    · exact .inl h
    · exact .inr (List.mem_singleton.1 h)
theorem push_len (out : List El) (x : El) : (push out x).length ≤ out.length + 1 := by unfold push; split <;> simp
theorem push_rising {out : List El} {x : El} (h : Rising out) (hx : ∀ o ∈ out, key o ≤ key x) : Rising (push out x) := by
  unfold push
  split
  · exact h
  · exact List.pairwise_append.2 ⟨h, by simp, fun a ha b hb => by rw [List.mem_singleton.1 hb]; exact hx a ha⟩
/-- Two rising rows in one. -/
def fin (xs ys out : List El) : List El := match xs, ys with
  | [], [] => out
  | x :: xs, [] => fin xs [] (push out x)
  | [], y :: ys => fin [] ys (push out y)
  | x :: xs, y :: ys => if key x ≤ key y then fin xs (y :: ys) (push out x) else fin (x :: xs) ys (push out y)
termination_by xs.length + ys.length
structure Joins (xs ys out r : List El) : Prop where
  up : Rising r
  mem : ∀ s, (∃ e ∈ r, key e = s) ↔ (∃ e ∈ out, key e = s) ∨ (∃ e ∈ xs, key e = s) ∨ ∃ e ∈ ys, key e = s
  len : r.length ≤ out.length + xs.length + ys.length
  sub : ∀ e ∈ r, e ∈ out ∨ e ∈ xs ∨ e ∈ ys
theorem fin_joins : ∀ (n : Nat) (xs ys out : List El), xs.length + ys.length = n → Rising xs → Rising ys → Rising out → (∀ o ∈ out, ∀ x ∈ xs, key o ≤ key x) → (∀ o ∈ out, ∀ y ∈ ys, key o ≤ key y) → Joins xs ys out (fin xs ys out) := by
  intro n
  induction n using Nat.strongRecOn with
  | ind n ih =>
    intro xs ys out hn hx hy ho h1 h2
    match xs, ys with
    | [], [] => unfold fin; exact ⟨ho, fun s => by simp, by simp, fun e he => .inl he⟩
    | x :: xs, [] =>
      unfold fin
      have hx' := List.pairwise_cons.1 hx
      have j := ih (xs.length + 0) (by simp at hn; omega) xs [] (push out x) rfl hx'.2 hy (push_rising ho fun o h => h1 o h x (by simp)) (fun o h z hz => by
        rcases push_sub h with h | rfl
        · exact h1 o h z (by simp [hz])
        · exact hx'.1 z hz) (fun o h z hz => by simp at hz)
      refine ⟨j.up, fun s => ?_, by have := j.len; have := push_len out x; simp at *; omega, fun e he => ?_⟩
      · rw [j.mem, push_mem]; simp [or_assoc]
      · rcases j.sub e he with h | h | h
        · rcases push_sub h with h | rfl
          · exact .inl h
          · exact .inr (.inl (by simp))
        · exact .inr (.inl (by simp [h]))
        · simp at h
    | [], y :: ys =>
      unfold fin
      have hy' := List.pairwise_cons.1 hy
      have j := ih (0 + ys.length) (by simp at hn; omega) [] ys (push out y) rfl hx hy'.2 (push_rising ho fun o h => h2 o h y (by simp)) (fun o h z hz => by simp at hz) (fun o h z hz => by
        rcases push_sub h with h | rfl
        · exact h2 o h z (by simp [hz])
        · exact hy'.1 z hz)
      refine ⟨j.up, fun s => ?_, by have := j.len; have := push_len out y; simp at *; omega, fun e he => ?_⟩
      · rw [j.mem, push_mem]; simp [or_assoc]
      · rcases j.sub e he with h | h | h
        · rcases push_sub h with h | rfl
          · exact .inl h
          · exact .inr (.inr (by simp))
        · simp at h
        · exact .inr (.inr (by simp [h]))
    | x :: xs, y :: ys =>
      have hx' := List.pairwise_cons.1 hx
      have hy' := List.pairwise_cons.1 hy
      unfold fin
      by_cases hc : key x ≤ key y
      · rw [if_pos hc]
        have j := ih (xs.length + (y :: ys).length) (by simp at hn ⊢; omega) xs (y :: ys) (push out x) rfl hx'.2 hy (push_rising ho fun o h => h1 o h x (by simp)) (fun o h z hz => by
          rcases push_sub h with h | rfl
          · exact h1 o h z (by simp [hz])
          · exact hx'.1 z hz) (fun o h z hz => by
          rcases push_sub h with h | rfl
          · exact h2 o h z hz
          · rcases List.mem_cons.1 hz with rfl | hz
            · exact hc
            · exact leT hc (hy'.1 z hz))
        refine ⟨j.up, fun s => ?_, by have := j.len; have := push_len out x; simp at *; omega, fun e he => ?_⟩
        · rw [j.mem, push_mem]; simp [or_assoc]
        · rcases j.sub e he with h | h | h
          · rcases push_sub h with h | rfl
            · exact .inl h
            · exact .inr (.inl (by simp))
          · exact .inr (.inl (by simp [h]))
          · exact .inr (.inr h)
      · rw [if_neg hc]
        have hc' := leN hc
        have j := ih ((x :: xs).length + ys.length) (by simp at hn ⊢; omega) (x :: xs) ys (push out y) rfl hx hy'.2 (push_rising ho fun o h => h2 o h y (by simp)) (fun o h z hz => by
          rcases push_sub h with h | rfl
          · exact h1 o h z hz
          · rcases List.mem_cons.1 hz with rfl | hz
            · exact hc'
            · exact leT hc' (hx'.1 z hz)) (fun o h z hz => by
          rcases push_sub h with h | rfl
          · exact h2 o h z (by simp [hz])
          · exact hy'.1 z hz)
        refine ⟨j.up, fun s => ?_, by have := j.len; have := push_len out y; simp at *; omega, fun e he => ?_⟩
        · rw [j.mem, push_mem]
          simp only [List.mem_cons, exists_eq_or_imp]
          constructor
          · rintro ((h | h) | h | h) <;> simp [h]
          · rintro (h | (h | h) | h | h) <;> simp [h]
        · rcases j.sub e he with h | h | h
          · rcases push_sub h with h | rfl
            · exact .inl h
            · exact .inr (.inr (by simp))
          · exact .inr (.inl h)
          · exact .inr (.inr (by simp [h]))
/-- Looked at by halves: where all before lo are less, and none from hi on is. -/
theorem halves {l : List El} (hr : Rising l) {s : List UInt8} {lo : Nat} (hlo : ∀ (j : Nat) (h : j < l.length), j < lo → key l[j] < s) (hhi : ∀ (j : Nat) (h : j < l.length), lo ≤ j → s ≤ key l[j]) :
    (∃ e ∈ l, key e = s) ↔ ∃ h : lo < l.length, key l[lo] = s := by
  constructor
  · rintro ⟨e, he, hs⟩
    obtain ⟨j, hj, rfl⟩ := List.getElem_of_mem he
    have hjl : lo ≤ j := by
      rcases Nat.lt_or_ge j lo with h | h
      · have := hlo j hj h
        rw [hs] at this
        exact absurd this (ltI.2 (leR s))
      · exact h
    have hlt : lo < l.length := Nat.lt_of_le_of_lt hjl hj
    refine ⟨hlt, leA ?_ (hhi lo hlt (Nat.le_refl _))⟩
    rw [← hs]
    rcases Nat.eq_or_lt_of_le hjl with h | h
    · subst h; exact leR _
    · exact (List.pairwise_iff_getElem.1 hr) lo j hlt hj h
  · rintro ⟨h, hs⟩; exact ⟨l[lo], List.getElem_mem h, hs⟩
theorem rising_at {l : List El} (hr : Rising l) {i j : Nat} (h : i ≤ j) (hj : j < l.length) : key l[i] ≤ key l[j] := by
  rcases Nat.eq_or_lt_of_le h with h | h
  · subst h; exact leR _
  · exact (List.pairwise_iff_getElem.1 hr) i j (by omega) hj h
end Go.Vs
end
section
/- Rows looked through: the first that is so, whether one is so, all told one behind the other. No program in sight. -/
set_option linter.unusedVariables false
namespace Go.Vs
abbrev nul : ByteArray := ByteArray.mk #[]
abbrev dot : ByteArray := ByteArray.mk #[46]
/-- A cell that is no slice. -/
def noSl : Leaf false → Bool | .sl _ _ => false | .nl _ => false | _ => true
theorem reF_nosl {φ ψ : Fl false → Fl true} {l : Leaf false} (h : noSl l = true) : reF φ l = reF ψ l := by cases l <;> first | rfl | simp [noSl] at h
theorem reE_nosl {φ ψ : Fl false → Fl true} {l : List El} (h : ∀ e ∈ l, e.all noSl = true) : reE φ l = reE ψ l := by
  rw [reE_map, reE_map]
  refine List.map_congr_left fun e he => ?_
  rw [reL_map, reL_map]
  exact List.map_congr_left fun x hx => reF_nosl (List.all_eq_true.1 (h e he) x hx)
/-- Where the first stands that is so; -1. -/
def idxP (p : El → Bool) : Int → List El → Int
  | _, [] => -1
  | i, e :: es => if p e = true then i else idxP p (i + 1) es
theorem idxP_lt (p : El → Bool) : ∀ (es : List El) (i : Int), 0 ≤ i → idxP p i es = -1 ∨ (i ≤ idxP p i es ∧ idxP p i es < i + es.length)
  | [], i, h => .inl rfl
  | e :: es, i, h => by
    unfold idxP
    split
    · right; simp; omega
    · rcases idxP_lt p es (i + 1) (by omega) with h1 | h1
      · exact .inl h1
      · right; simp only [List.length_cons]; push_cast; omega
theorem idxP_is (p : El → Bool) : ∀ (es : List El) (i j : Nat), idxP p (i : Int) es = (j : Int) → ∃ h : j - i < es.length, i ≤ j ∧ p es[j - i] = true
  | [], i, j, h => by simp [idxP] at h
  | e :: es, i, j, h => by
    unfold idxP at h
    split at h
    · rename_i hp
      have : i = j := by omega
      subst this
      refine ⟨by simp, Nat.le_refl _, ?_⟩
      simp only [Nat.sub_self, List.getElem_cons_zero]; exact hp
    · obtain ⟨h1, h2, h3⟩ := idxP_is p es (i + 1) j (by push_cast; exact h)
      have hj : j - i = (j - (i + 1)) + 1 := by omega
      refine ⟨by simp; omega, by omega, ?_⟩
      simp only [hj, List.getElem_cons_succ]
      exact h3
/-- Where it is found, it stands. -/
theorem idxP_get {p : El → Bool} {es : List El} (h : ¬ idxP p 0 es < 0) : ∃ (j : Nat) (hj : j < es.length), idxP p 0 es = (j : Int) ∧ p es[j] = true := by
  rcases idxP_lt p es 0 (by omega) with h1 | ⟨h1, h2⟩
  · omega
  · obtain ⟨j, hj⟩ : ∃ j : Nat, idxP p 0 es = (j : Int) := ⟨(idxP p 0 es).toNat, by omega⟩
    obtain ⟨a, _, b⟩ := idxP_is p es 0 j hj
    exact ⟨j, by simpa using a, hj, by simpa using b⟩
theorem idxP_any (p : El → Bool) : ∀ (es : List El) (i : Int), 0 ≤ i → decide (idxP p i es ≥ 0) = es.any p
  | [], i, h => by simp [idxP]
  | e :: es, i, h => by
    unfold idxP
    cases hp : p e with
    | true => simp [hp]; omega
    | false => simpa [hp] using idxP_any p es (i + 1) (by omega)
theorem idxP_neg (p : El → Bool) (es : List El) : decide (idxP p 0 es < 0) = !es.any p := by
  have := idxP_any p es 0 (by omega)
  rw [← this]
  by_cases h : idxP p 0 es < 0
  · simp [h]
  · simp [h]; omega
theorem idxP_congr {p q : El → Bool} : ∀ {es : List El} {i : Int}, (∀ e ∈ es, p e = q e) → idxP p i es = idxP q i es
  | [], i, h => rfl
  | e :: es, i, h => by
    unfold idxP
    rw [h e (by simp), idxP_congr (fun e he => h e (by simp [he]))]
abbrev at0 (s : ByteArray) (e : El) : Bool := (strAt e 0).toList == s.toList
abbrev at3 (s : ByteArray) (e : El) : Bool := (strAt e 3).toList == s.toList
theorem beq_sym (a b : List UInt8) : (a == b) = (b == a) := by rw [Bool.eq_iff_iff, beq_iff_eq, beq_iff_eq]; exact eq_comm
section
variable {β : Type} {es : List El}
/-- A loop that looks for the first one. -/
theorem find_loop {p : El → Bool} {A : Int → Option β} {yes : Int → Option β} {no : Option β} (hend : A es.length = no)
    (hstep : ∀ (i : Nat) (hi : i < es.length), A i = branch (p es[i]) (yes i) (A ((i + 1 : Nat) : Int))) :
    ∀ i : Nat, i ≤ es.length → A i = if idxP p i (es.drop i) < 0 then no else yes (idxP p i (es.drop i)) := by
  refine upto_ind ?_ ?_
  · rw [hend]; simp [idxP]
  · intro i hi ih
    rw [hstep i hi, drop_at hi, ih, branch_ite, show idxP p (i : Int) (es[i] :: es.drop (i + 1)) = if p es[i] = true then (i : Int) else idxP p (i + 1) (es.drop (i + 1)) from rfl]
    by_cases hp : p es[i] = true
    · rw [if_pos hp, if_pos hp, if_neg (by omega)]
    · rw [if_neg hp, if_neg hp]; push_cast; rfl
theorem find_loop0 {p : El → Bool} {A : Int → Option β} {yes : Int → Option β} {no : Option β} (hend : A es.length = no)
    (hstep : ∀ (i : Nat) (hi : i < es.length), A i = branch (p es[i]) (yes i) (A ((i + 1 : Nat) : Int))) :
    A 0 = if idxP p 0 es < 0 then no else yes (idxP p 0 es) := by
  have := find_loop hend hstep 0 (Nat.zero_le _)
  simpa using this
theorem find_int {p : El → Bool} {A : Int → Ret false} {bs : List (List (SV false))} (hend : A es.length = some (vint (-1), bs))
    (hstep : ∀ (i : Nat) (hi : i < es.length), A i = branch (p es[i]) (some (vint i, bs)) (A ((i + 1 : Nat) : Int))) : A 0 = some (vint (idxP p 0 es), bs) := by
  rw [find_loop0 (yes := fun i => some (vint i, bs)) hend hstep]
  split
  · rename_i h
    rcases idxP_lt p es 0 (by omega) with h1 | h1
    · rw [h1]
    · omega
  · rfl
theorem any_bool {p : El → Bool} {A : Int → Ret false} {bs : List (List (SV false))} (hend : A es.length = some (vbool false, bs))
    (hstep : ∀ (i : Nat) (hi : i < es.length), A i = branch (p es[i]) (some (vbool true, bs)) (A ((i + 1 : Nat) : Int))) : A 0 = some (vbool (es.any p), bs) := by
  rw [show A 0 = _ from (by
    have h := find_loop0 (yes := fun _ => some (vbool true, bs)) hend hstep
    exact h), ← idxP_any p es 0 (by omega)]
  by_cases hc : idxP p 0 es < 0
  · rw [if_pos hc]; simp; omega
  · rw [if_neg hc]; simp; omega
/-- A loop that asks whether one is so. -/
theorem any_loop {p : El → Bool} {A : Int → Option β} {yes no : Option β} (hend : A es.length = no)
    (hstep : ∀ (i : Nat) (hi : i < es.length), A i = branch (p es[i]) yes (A ((i + 1 : Nat) : Int))) :
    A 0 = if es.any p = true then yes else no := by
  have h := find_loop0 (yes := fun _ => yes) hend hstep
  rw [h, ← idxP_any p es 0 (by omega)]
  by_cases hc : idxP p 0 es < 0
  · rw [if_pos hc, if_neg (by simp; omega)]
  · rw [if_neg hc, if_pos (by simp; omega)]
/-- What a loop tells, each at its place. -/
def flatI (g : Nat → El → List El) : Nat → List El → List El
  | _, [] => []
  | i, e :: r => g i e ++ flatI g (i + 1) r
theorem flatI_const (g : El → List El) : ∀ (l : List El) (i : Nat), flatI (fun _ => g) i l = l.flatMap g
  | [], _ => rfl
  | e :: r, i => by rw [flatI, flatI_const g r, List.flatMap_cons]
theorem flatI_congr {g h : Nat → El → List El} : ∀ {l : List El} {i : Nat}, (∀ (j : Nat) (hj : j < l.length), g (i + j) l[j] = h (i + j) l[j]) → flatI g i l = flatI h i l
  | [], _, _ => rfl
  | e :: r, i, hh => by
    rw [flatI, flatI, flatI_congr (l := r) (i := i + 1) (fun j hj => by have := hh (j + 1) (by simpa using hj); simpa [Nat.add_assoc, Nat.add_comm 1 j] using this)]
    have := hh 0 (by simp)
    simp at this
    rw [this]
theorem flatI_len {g : Nat → El → List El} {c : Nat} : ∀ (l : List El) (i : Nat), (∀ (j : Nat) (hj : j < l.length), (g (i + j) l[j]).length ≤ c) → (flatI g i l).length ≤ l.length * c
  | [], _, _ => by simp [flatI]
  | e :: r, i, h => by
    have h0 := h 0 (by simp)
    have h1 := flatI_len (g := g) (c := c) r (i + 1) (fun j hj => by have := h (j + 1) (by simpa using hj); simpa [Nat.add_assoc, Nat.add_comm 1 j] using this)
    simp at h0
    rw [flatI, List.length_append, List.length_cons, Nat.add_mul]; omega
theorem flatI_mem {g : Nat → El → List El} {x : El} : ∀ (l : List El) (i : Nat), x ∈ flatI g i l → ∃ (j : Nat) (hj : j < l.length), x ∈ g (i + j) l[j]
  | [], _, h => by simp [flatI] at h
  | e :: r, i, h => by
    rw [flatI] at h
    rcases List.mem_append.1 h with h | h
    · exact ⟨0, by simp, by simpa using h⟩
    · obtain ⟨j, hj, hx⟩ := flatI_mem r (i + 1) h
      exact ⟨j + 1, by simpa using hj, by simpa [Nat.add_assoc, Nat.add_comm 1 j] using hx⟩
/-- A loop that tells something of each. c: how much at most of one; N: how much at most in all. -/
theorem app_loop {g : Nat → El → List El} {A : List El → Int → Option β} {fin : List El → Option β} {c N : Nat} (hg : ∀ (j : Nat) (hj : j < es.length), (g j es[j]).length ≤ c)
    (hend : ∀ out, out.length ≤ N → A out es.length = fin out)
    (hstep : ∀ (i : Nat) (hi : i < es.length) (out : List El), out.length + c ≤ N → A out i = A (out ++ g i es[i]) ((i + 1 : Nat) : Int)) :
    ∀ i : Nat, i ≤ es.length → ∀ out : List El, out.length + (es.length - i) * c ≤ N → A out i = fin (out ++ flatI g i (es.drop i)) := by
  refine upto_ind ?_ ?_
  · intro out ho; rw [hend out (by simpa using ho)]; simp [flatI]
  · intro i hi ih out ho
    have e1 : (es.length - i) * c = (es.length - (i + 1)) * c + c := by rw [show es.length - i = (es.length - (i + 1)) + 1 by omega, Nat.add_mul, Nat.one_mul]
    rw [hstep i hi out (by omega), ih _ (by have := hg i hi; rw [List.length_append]; omega), drop_at hi, flatI, List.append_assoc]
theorem app_loop0 {g : Nat → El → List El} {A : List El → Int → Option β} {fin : List El → Option β} {c N : Nat} (hg : ∀ (j : Nat) (hj : j < es.length), (g j es[j]).length ≤ c)
    (hend : ∀ out, out.length ≤ N → A out es.length = fin out)
    (hstep : ∀ (i : Nat) (hi : i < es.length) (out : List El), out.length + c ≤ N → A out i = A (out ++ g i es[i]) ((i + 1 : Nat) : Int))
    {out : List El} (ho : out.length + es.length * c ≤ N) : A out 0 = fin (out ++ flatI g 0 es) := by
  have := app_loop hg hend hstep 0 (Nat.zero_le _) out (by simpa using ho)
  simpa using this
theorem app_loop1 {g : Nat → El → List El} {A : List El → Int → Option β} {fin : List El → Option β} {c N : Nat} (hg : ∀ (j : Nat) (hj : j < es.length), (g j es[j]).length ≤ c)
    (hend : ∀ out, out.length ≤ N → A out es.length = fin out)
    (hstep : ∀ (i : Nat) (hi : i < es.length) (out : List El), out.length + c ≤ N → A out i = A (out ++ g i es[i]) ((i + 1 : Nat) : Int))
    (ho : es.length * c ≤ N) : A [] 0 = fin (flatI g 0 es) :=
  app_loop0 hg hend hstep (out := []) (by simpa using ho)
end
/-- One more, if it is so. -/
def ifP (q : Bool) (x : El) : List El := if q = true then [x] else []
theorem ifP_len (q : Bool) (x : El) : (ifP q x).length ≤ 1 := by unfold ifP; split <;> simp
theorem ifP_mem {q : Bool} {x y : El} (h : y ∈ ifP q x) : q = true ∧ y = x := by unfold ifP at h; split at h <;> simp_all
@[simp] theorem ifP_true (x : El) : ifP true x = [x] := rfl
@[simp] theorem ifP_false (x : El) : ifP false x = [] := rfl
theorem room {n k z : Nat} (h : n + k ≤ 1000000000000) (hz : z ≤ 100) : decide ((n + k) * z ≤ maxBytes) = true := by
  have hb : maxBytes = 140737488355328 := rfl
  rw [decide_eq_true_eq]
  calc (n + k) * z ≤ 1000000000000 * 100 := Nat.mul_le_mul h hz
    _ ≤ maxBytes := by rw [hb]; decide
end Go.Vs
end
section
/- Figures: what a text of them tells. No program in sight. -/
set_option linter.unusedVariables false
namespace Go.Vs
def isFig (b : UInt8) : Bool := decide (48 ≤ b.toNat) && decide (b.toNat ≤ 57)
/-- Without its sign. -/
def digs : List UInt8 → List UInt8
  | [] => []
  | c :: r => if c.toNat = 45 then r else c :: r
def neg (l : List UInt8) : Bool := match l with | [] => false | c :: _ => decide (c.toNat = 45)
def addD (n : Nat) (c : UInt8) : Nat := n * 10 + (c.toNat - 48)
def valA (a : Nat) (l : List UInt8) : Nat := l.foldl addD a
theorem valA_cons (a : Nat) (c : UInt8) (r : List UInt8) : valA a (c :: r) = valA (addD a c) r := by
  unfold valA
  rw [List.foldl_cons]
theorem valA_nil (a : Nat) : valA a [] = a := rfl
/-- Is it a whole number? -/
def intB (l : List UInt8) : Bool := decide (l.length ≤ 40) && (decide (digs l ≠ []) && ((digs l).all isFig && (decide ((digs l).length = 1) || decide ((digs l).head?.map (·.toNat) ≠ some 48))))
theorem valA_le (l : List UInt8) : ∀ a : Nat, a ≤ valA a l := by
  induction l with
  | nil => intro a; exact Nat.le_refl _
  | cons c r ih =>
    intro a
    rw [valA_cons]
    have h : a ≤ addD a c := by unfold addD; omega
    exact Nat.le_trans h (ih _)
theorem valA_mono (l : List UInt8) : ∀ a b : Nat, a ≤ b → valA a l ≤ valA b l := by
  induction l with
  | nil => intro a b h; exact h
  | cons c r ih =>
    intro a b h
    rw [valA_cons, valA_cons]
    have h : addD a c ≤ addD b c := by unfold addD; omega
    exact ih _ _ h
theorem valA_pow (l : List UInt8) : ∀ a : Nat, a * 10 ^ l.length ≤ valA a l := by
  induction l with
  | nil => intro a; simp [valA_nil]
  | cons c r ih =>
    intro a
    rw [List.length_cons, Nat.pow_succ, valA_cons]
    have h1 := ih (a * 10)
    have h : a * 10 ≤ addD a c := by unfold addD; omega
    have h2 := valA_mono r _ _ h
    have h3 : a * (10 ^ r.length * 10) = a * 10 * 10 ^ r.length := by rw [Nat.mul_comm (10 ^ r.length) 10, Nat.mul_assoc]
    rw [h3]
    exact Nat.le_trans h1 h2
theorem valA_lt (l : List UInt8) : ∀ a : Nat, l.all isFig = true → valA a l < (a + 1) * 10 ^ l.length := by
  induction l with
  | nil => intro a _; simp [valA_nil]
  | cons c r ih =>
    intro a h
    rw [List.all_cons, Bool.and_eq_true] at h
    have hc : 48 ≤ c.toNat ∧ c.toNat ≤ 57 := by simpa [isFig] using h.1
    have h1 := ih (addD a c) h.2
    rw [List.length_cons, Nat.pow_succ, valA_cons]
    have h2 : (addD a c + 1) * 10 ^ r.length ≤ (a + 1) * (10 ^ r.length * 10) := by
      rw [Nat.mul_comm (10 ^ r.length) 10, ← Nat.mul_assoc]
      have : addD a c + 1 ≤ (a + 1) * 10 := by unfold addD; omega
      exact Nat.mul_le_mul_right _ this
    exact Nat.lt_of_lt_of_le h1 h2
theorem parseM (l : List UInt8) : ∀ a : Nat, l.all isFig = true → a ≤ 4294967295 → Lib.parseUintM 4294967295 a l = if valA a l ≤ 4294967295 then .ok (valA a l) else .range := by
  induction l with
  | nil => intro a _ h; rw [valA_nil, if_pos h, Lib.parseUintM]
  | cons c r ih =>
    intro a hl h
    rw [List.all_cons, Bool.and_eq_true] at hl
    have hc : 48 ≤ c.toNat ∧ c.toNat ≤ 57 := by simpa [isFig] using hl.1
    rw [Lib.parseUintM, if_pos hc, if_neg (by omega), valA_cons, show a * 10 + (c.toNat - 48) = addD a c from rfl]
    by_cases hb : 4294967295 < addD a c
    · rw [if_pos hb, if_neg]
      have := valA_le r (addD a c)
      omega
    · rw [if_neg hb, ih _ hl.2 (by omega)]
/-- Of whole numbers: does it fit 32 bits? -/
def fitB (l : List UInt8) : Bool := if neg l = true then decide (valA 0 (digs l) ≤ 2147483648) else decide (valA 0 (digs l) ≤ 2147483647)
/-- Does the library read it as a number of 32 bits? -/
def okB (l : List UInt8) : Bool := match Lib.parseIntB 32 l with | .ok _ => true | _ => false
theorem parse32 {l : List UInt8} (h : intB l = true) : okB l = fitB l := by
  unfold okB
  unfold intB at h
  simp only [Bool.and_eq_true, decide_eq_true_eq] at h
  obtain ⟨_, hne, hall, _⟩ := h
  cases l with
  | nil => simp [digs] at hne
  | cons c r =>
    by_cases hc : c.toNat = 45
    · have hd : digs (c :: r) = r := by simp [digs, hc]
      rw [hd] at hne hall
      have hb : Lib.parseUintB 32 r = if valA 0 r ≤ 4294967295 then .ok (valA 0 r) else .range := by
        unfold Lib.parseUintB; rw [if_neg hne]; exact parseM r 0 hall (by omega)
      unfold Lib.parseIntB fitB neg
      simp only [hc, or_true, if_true, hb, hd, decide_true]
      by_cases hv : valA 0 r ≤ 4294967295
      · rw [if_pos hv]
        by_cases h2 : valA 0 r ≤ 2147483648
        · have : ¬ (2147483648 < valA 0 r) := by omega
          simp [h2, this]
        · have : 2147483648 < valA 0 r := by omega
          simp [h2, this]
      · rw [if_neg hv]
        have : ¬ valA 0 r ≤ 2147483648 := by omega
        simp [this]
    · have hd : digs (c :: r) = c :: r := by simp [digs, hc]
      rw [hd] at hne hall
      have h43 : ¬ (c.toNat = 43 ∨ c.toNat = 45) := by
        simp only [List.all_cons, Bool.and_eq_true, isFig, decide_eq_true_eq] at hall
        omega
      have hb : Lib.parseUintB 32 (c :: r) = if valA 0 (c :: r) ≤ 4294967295 then .ok (valA 0 (c :: r)) else .range := by
        unfold Lib.parseUintB; rw [if_neg hne]; exact parseM (c :: r) 0 hall (by omega)
      unfold Lib.parseIntB fitB neg
      simp only [if_neg h43, hb, hd]
      simp only [hc, decide_false, Bool.false_eq_true, if_false]
      by_cases hv : valA 0 (c :: r) ≤ 4294967295
      · rw [if_pos hv]
        by_cases h2 : valA 0 (c :: r) ≤ 2147483647
        · have : ¬ (2147483648 ≤ valA 0 (c :: r)) := by omega
          simp [h2, this]
        · have : 2147483648 ≤ valA 0 (c :: r) := by omega
          simp [h2, this]
      · rw [if_neg hv]
        have : ¬ valA 0 (c :: r) ≤ 2147483647 := by omega
        simp [this]
/-- More than eleven letters fit never. -/
theorem fit_long {l : List UInt8} (h : intB l = true) (hl : 11 < l.length) : fitB l = false := by
  unfold intB at h
  simp only [Bool.and_eq_true, Bool.or_eq_true, decide_eq_true_eq] at h
  obtain ⟨_, hne, hall, hz⟩ := h
  have hlen : 11 ≤ (digs l).length := by
    cases l with
    | nil => simp at hl
    | cons c r =>
      rw [List.length_cons] at hl
      simp only [digs]
      split
      · omega
      · rw [List.length_cons]; omega
  cases hd : digs l with
  | nil => exact absurd hd hne
  | cons c r =>
    rw [hd] at hall hz hlen
    simp only [List.all_cons, Bool.and_eq_true, isFig, decide_eq_true_eq] at hall
    have hc : 49 ≤ c.toNat := by
      rcases hz with hz | hz
      · omega
      · simp at hz; omega
    rw [List.length_cons] at hlen
    have h1 := valA_pow r (addD 0 c)
    have h2 : 10 ^ 10 ≤ 10 ^ r.length := Nat.pow_le_pow_right (by omega) (by omega)
    have h0 : 1 ≤ addD 0 c := by unfold addD; omega
    have h3 : 1 * 10 ^ r.length ≤ addD 0 c * 10 ^ r.length := Nat.mul_le_mul_right _ h0
    have h4 : 10000000000 ≤ valA 0 (c :: r) := by
      rw [valA_cons]
      have : (10 : Nat) ^ 10 = 10000000000 := by decide
      omega
    unfold fitB
    rw [hd]
    split <;> simp <;> omega
/-- A loop over a text's letters. -/
theorem byte_all {β : Type} {l : List UInt8} {p : UInt8 → Bool} {A : Int → Option β} {yes no : Option β} (hend : A l.length = yes)
    (hstep : ∀ (i : Nat) (hi : i < l.length), A i = branch (!p l[i]) no (A ((i + 1 : Nat) : Int))) : A 0 = if l.all p = true then yes else no := by
  have key : ∀ i : Nat, i ≤ l.length → A i = if (l.drop i).all p = true then yes else no := by
    refine upto_ind ?_ ?_
    · rw [hend]; simp
    · intro i hi ih
      rw [hstep i hi, List.drop_eq_getElem_cons hi, List.all_cons, ih]
      cases p l[i] <;> simp
  have := key 0 (Nat.zero_le _)
  simpa using this
theorem byteT (s : ByteArray) : s.toList = s.data.toList := by first | exact ByteArray.toList_eq s | exact Go.ByteArray.toList_eq s
theorem byteN (s : ByteArray) : s.data.toList.length = s.size := by rw [Array.length_toList]; rfl
/-- Without a letter at its beginning. -/
def trimB (s : ByteArray) (c : UInt8) : ByteArray := if s.data.toList.head? = some c then s.extract 1 s.size else s
theorem extract_data (s : ByteArray) (a b : Nat) : (s.extract a b).data.toList = (s.data.toList.take b).drop a := by
  rw [ByteArray.data_extract, Array.toList_extract, List.extract_eq_take_drop, List.drop_take]
theorem trim_digs (s : ByteArray) : (trimB s 45).data.toList = digs s.data.toList := by
  have hn := byteN s
  unfold trimB
  cases hl : s.data.toList with
  | nil => simp [digs, hl]
  | cons c r =>
    rw [hl] at hn
    by_cases hc : c = 45
    · subst hc
      rw [if_pos (by simp), extract_data, hl, List.take_of_length_le (by omega)]
      simp [digs]
    · have : ¬ c.toNat = 45 := fun h => hc (by rw [← UInt8.toNat_inj]; simpa using h)
      rw [if_neg (by simpa using hc), hl]
      simp [digs, this]
/-- How many figures stand at the beginning. -/
def runB : List UInt8 → Nat
  | [] => 0
  | c :: r => if isFig c = true then runB r + 1 else 0
theorem runB_cons (c : UInt8) (r : List UInt8) : runB (c :: r) = if isFig c = true then runB r + 1 else 0 := rfl
theorem runB_le : ∀ l : List UInt8, runB l ≤ l.length
  | [] => Nat.le_refl _
  | c :: r => by unfold runB; have := runB_le r; split <;> simp <;> omega
theorem runB_all : ∀ l : List UInt8, decide (runB l = l.length) = l.all isFig
  | [] => rfl
  | c :: r => by
    have ih := runB_all r
    have hl := runB_le r
    unfold runB
    rw [List.all_cons, ← ih]
    cases isFig c
    · simp
    · simp
theorem runB_zero {c : UInt8} {r : List UInt8} : runB (c :: r) = 0 ↔ isFig c = false := by
  unfold runB
  cases isFig c <;> simp
/-- A whole number, as the reference asks. -/
theorem intB_run (l : List UInt8) (k : Nat) (hk : k = if neg l = true then 1 else 0) (h0 : l ≠ []) :
    intB l = (decide (l.length ≤ 40) && decide ((if runB (l.drop k) = 0 ∨ ((l.drop k).head?.map (·.toNat) = some 48 ∧ 1 < runB (l.drop k)) then 0 else k + runB (l.drop k)) = l.length)) := by
  have hd : l.drop k = digs l := by
    cases l with
    | nil => exact absurd rfl h0
    | cons c r => subst hk; by_cases hc : c.toNat = 45 <;> simp [neg, digs, hc]
  have hl : l.length = k + (digs l).length := by
    cases l with
    | nil => exact absurd rfl h0
    | cons c r => subst hk; by_cases hc : c.toNat = 45 <;> simp [neg, digs, hc] <;> omega
  have hpos : 0 < l.length := List.length_pos_iff.2 h0
  rw [hd]
  unfold intB
  rw [← runB_all]
  cases hx : digs l with
  | nil =>
    rw [hx] at hl
    simp at hl
    have : ¬ (0 = l.length) := by omega
    simp [runB, this]
  | cons c r =>
    rw [hx] at hl
    have hle := runB_le (c :: r)
    simp only [ne_eq, List.cons_ne_nil, not_false_eq_true, decide_true, Bool.true_and, List.head?_cons, Option.map_some, Option.some.injEq]
    congr 1
    by_cases hz : runB (c :: r) = 0
    · have h1 : ¬ (0 = (c :: r).length) := by simp
      have h2 : ¬ (0 = l.length) := by omega
      simp only [hz, true_or, if_true, h2, decide_false]
      rw [decide_eq_false h1, Bool.false_and]
    · by_cases h48 : c.toNat = 48
      · by_cases h1 : 1 < runB (c :: r)
        · have h2 : ¬ (0 = l.length) := by omega
          have h3 : ¬ ((c :: r).length = 1) := by omega
          rw [if_pos (.inr ⟨h48, h1⟩), decide_eq_false h2, decide_eq_false h3, show decide (¬ c.toNat = 48) = false by simp [h48]]
          simp
        · have h4 : runB (c :: r) = 1 := by omega
          rw [if_neg (by omega), h4, hl, Bool.eq_iff_iff]
          simp [h48]
      · rw [if_neg (by omega), hl, Bool.eq_iff_iff]
        simp [h48]
end Go.Vs
end
section
/- A function that is told otherwise than by its text: what has to be shown of it on the machine. -/
namespace Go.Vs
open Go Go.RowKit
variable {m : Bool} {P : Program} {N : Env} {s : St m} {tmps : Array Value} {w w' : World} {F : Fr} {Ow : Own} {bm : Nat → Nat}
theorem below_keeps (h : Inv P s tmps w F N Ow bm) (hb : Below w.heap.size w w') : Keeps N w F w' F := by
  refine Keeps.mk' (fun g j hj => ?_) (fun g => Nat.le_refl _) (fun g hg => ?_)
  · have hg : g < w.heap.size := Nat.lt_of_not_le fun hn => by have := (h.new g hn).1; omega
    unfold World.cell?
    simp only [hb.block g hg]
  · obtain ⟨cur, e, hc⟩ := hg
    exact ⟨cur, e, by rw [hb.block g (Array.getElem?_eq_some_iff.1 hc).1]; exact hc⟩
theorem below_far (h : Inv P s tmps w F N Ow bm) (hb : Below w.heap.size w w') : Far N w F Ow w' F Ow :=
  ⟨hb.os, hb.tape, hb.output, hb.size, below_keeps h hb, fun g hg ho => ⟨fun _ => hb.block g hg, rfl, ho⟩⟩
/-- Behind a call that wrote nothing old: its result alone. -/
theorem below_inv (h : Inv P s tmps w F N Ow bm) (hb : Below w.heap.size w w') {l : Leaf m} {v : Value} (hv : RepL w' F N l v) :
    Inv P { tmps := [SV.leaf l], boxes := ([] : List (List (SV m))).map some } #[v] w' F N Ow bm := by
  refine ⟨rfl, fun t => ?_, fun b cs hc => by simp [boxAt] at hc, h.low.to (below_keeps h hb) hb.size, fun g hg => h.new g (Nat.le_trans hb.size hg), fun b cs hc => by simp [boxAt] at hc, fun g hz => ?_⟩
  · cases t with
    | zero => exact RepS.leaf hv
    | succ t => simp only [List.getD_cons_succ, List.getD_nil]; exact RepS.any
  · obtain ⟨h1, cur, e, h2⟩ := h.zow g hz
    exact ⟨h1, cur, e, by rw [hb.block g (Nat.lt_of_lt_of_le (N.lt g hz) h.low.le)]; exact h2⟩
/-- What a text in the first slot is. -/
theorem inv_str {a : ByteArray} {bs : List (Option (List (SV m)))} (h : Inv P { tmps := [.leaf (.str a)], boxes := bs } tmps w F N Ow bm) : tmps = #[.string a] := by
  have hl := h.len
  have hs := h.slot 0
  have hv : tmps.getD 0 undef = .string a := by
    have h1 : RepL w F N (Leaf.str a : Leaf m) (tmps.getD 0 undef) := by simpa [RepS, RepF] using hs
    generalize tmps.getD 0 undef = v at h1
    cases h1; rfl
  have h1 : tmps.size = 1 := hl.symm
  apply Array.ext
  · simpa using h1
  · intro i hi hi2
    have : i = 0 := by omega
    subst this
    simpa [Array.getD, hi] using hv
end Go.Vs
end
