/- What the program's functions compute, read off their text by the shadow runner (OD, VsTwo, OTt, OTm0, OTm, OTr, VsEr, OTz, OTy, VsRaw, OLc, OTf, VsShape, OTx); no condition. -/
import Derived.Test.YtdbomanmhhhndaaRows
import Derived.Test.YtdbomanmhhhndaaVB4
section
open Go Go.Vs Go.Proofs
set_option maxRecDepth 100000
set_option linter.unusedVariables false
namespace Go.Vs
noncomputable section
variable (D : Oracle true)
def d_impl_OfClass_A := atA D F.impl_OfClass
theorem run_d_impl_OfClass (c0 : Fl true) (e0 : LT) (i1 : Int) : run2V Try.prog D Hs limR F.impl_OfClass [.leaf (.sl c0 e0),.leaf (.int .i64 i1)] [] = (D F.slices_Clone_S_impl_Change_impl_Change [.leaf (.sl c0 e0)] []).bind fun r => svRawK T.impl_Change r.fst fun es => (D F.slices_DeleteFunc_S_impl_Change_impl_Change [SV.raw (some T.impl_Change) es,.fn F.impl_OfClass_1 [.ptr 0 0]] [[.leaf (.int .i64 i1)]]).bind fun r => headB r.snd fun d r_1 => headK d fun d r_2 => svLeafK d fun l => intK .i64 l fun n => lastK r_2 (lastB r_1 (svSlK r.fst fun c es => some (.leaf (.sl c es),[]))) := by refine (run_names (J := d_impl_OfClass_A D) (by kernel_rfl) (fun _ _ => rfl) []).trans ?_; generalize d_impl_OfClass_A D = J; revert J; refine id ?_; intro J; kernel_rfl
section
variable (c0 : Fl true) (e0 : LT) (n3 : Nat) (i4 : Int) (vx7 : List (SV true))
def d_laws_toChangeS_A := atA D F.laws_toChangeS
def d_laws_toChangeS_0 : PT := ([1,1,0,1,0],St.mk ([.leaf (.sl c0 e0),.any,.any,.bsl 7 3 0 n3,.leaf (.int .i64 i4)] ++ anyS 18) (noB 7 ++ [some vx7] ++ noB 15))
theorem d_laws_toChangeS_0_eq : d_laws_toChangeS_A D (d_laws_toChangeS_0 c0 e0 n3 i4 vx7) = branch (decide (i4 < (↑e0.length : Int))) (guarded (decide (0 ≤ i4) && decide (i4 < (↑e0.length : Int)) && sized 3 e0) (bindE (e0.getD i4.toNat []) fun e => atK e 0 fun l => intK .i64 l fun n => atK e 1 fun l => strK l fun s => atK e 2 fun l => strK l fun s_1 => (D F.laws_toChange [.agg [.int .i64 n,.str s,.str s_1]] []).bind fun r => svAggK r.fst fun cs => guarded (cs.length == 3) (atK cs 0 fun l => intK .i64 l fun n => atK cs 1 fun l => strK l fun s => atK cs 2 fun l => strK l fun s_2 => guarded (decide (0 ≤ i4) && decide (i4 < (↑n3 : Int))) (guarded (decide ((0 + i4.toNat) * 3 + 3 ≤ vx7.length)) (d_laws_toChangeS_A D (d_laws_toChangeS_0 c0 e0 n3 (IntKind.i64.wrap (i4 + 1)) (putAt vx7 ((0 + i4.toNat) * 3) [.leaf (.int .i64 n),.leaf (.str s),.leaf (.str s_2)]))))))) (guarded (decide (n3 * 3 ≤ vx7.length)) ((asLeaves (List.take (n3 * 3) vx7)).bind fun l => some (.leaf (.sl fNew (chunks 3 n3 l)),[]))) := by refine (nameF_eq (J := d_laws_toChangeS_A D) (fun _ _ => rfl) [[1,1,0,1,0]] _).trans ?_; generalize d_laws_toChangeS_A D = J; revert J; refine id ?_; intro J; kernel_rfl
theorem run_d_laws_toChangeS : run2V Try.prog D Hs limR F.laws_toChangeS [.leaf (.sl c0 e0)] [] = guarded ((↑e0.length : Int) == (↑e0.length : Int) && decide ((↑e0.length : Int).toNat * 40 ≤ maxBytes) && decide ((↑e0.length : Int).toNat ≤ maxBytes)) (d_laws_toChangeS_A D (d_laws_toChangeS_0 c0 e0 (decide (0 ≤ (↑e0.length : Int)) && (↑e0.length : Int) == (↑e0.length : Int) && decide ((↑e0.length : Int).toNat * Try.prog.types[34].bytes ≤ maxBytes) && decide ((↑e0.length : Int).toNat ≤ maxBytes),(Try.prog.types[34].size,(↑e0.length : Int).toNat),List.map SV.leaf (List.replicate (↑e0.length : Int).toNat ((fun (x : List (Leaf true)) => .int .i64 0 :: x) ((fun (x : List (Leaf true)) => .str (ByteArray.mk #[]) :: x) ((fun (x : List (Leaf true)) => .str (ByteArray.mk #[]) :: x) [])))).flatten).snd.fst.snd 0 (decide (0 ≤ (↑e0.length : Int)) && (↑e0.length : Int) == (↑e0.length : Int) && decide ((↑e0.length : Int).toNat * Try.prog.types[34].bytes ≤ maxBytes) && decide ((↑e0.length : Int).toNat ≤ maxBytes),(Try.prog.types[34].size,(↑e0.length : Int).toNat),List.map SV.leaf (List.replicate (↑e0.length : Int).toNat ((fun (x : List (Leaf true)) => .int .i64 0 :: x) ((fun (x : List (Leaf true)) => .str (ByteArray.mk #[]) :: x) ((fun (x : List (Leaf true)) => .str (ByteArray.mk #[]) :: x) [])))).flatten).snd.snd)) := by refine (run_names (J := d_laws_toChangeS_A D) (by kernel_rfl) (fun _ _ => rfl) [[1,1,0,1,0]]).trans ?_; generalize d_laws_toChangeS_A D = J; revert J; refine id ?_; intro J; kernel_rfl
end
section
variable (c0 : Fl true) (e0 : LT) (i1 i5 : Int)
def d_laws_markChangeS_A := atA D F.laws_markChangeS
def d_laws_markChangeS_0 : PT := ([1,0,1,0],St.mk ([.leaf (.sl c0 e0),.leaf (.int .i64 i1),.any,.any,.any,.leaf (.int .i64 i5)] ++ anyS 30) (noB 36))
theorem d_laws_markChangeS_0_eq : d_laws_markChangeS_A D (d_laws_markChangeS_0 c0 e0 i1 i5) = branch (decide (i5 < (↑e0.length : Int))) (guarded (decide (0 ≤ i5) && decide (i5 < (↑e0.length : Int)) && sized 3 e0) (if (c0.isSoft = true ∧ softAt (e0.getD i5.toNat []) 0 = true) ∧ ((.leaf (.int .i64 i1) : SV true)).plain = true ∧ sizeT Try.prog 3 = some 1 then (D F.laws_markText [.leaf (.int .i64 (IntKind.i64.wrap (i1 + 1)))] []).bind fun r => svLeafK r.fst fun l => strK l fun s => guarded (decide (0 ≤ i5) && decide (i5 < (↑e0.length : Int)) && sized 3 e0) (if (c0.isSoft = true ∧ softAt (e0.getD i5.toNat []) 1 = true) ∧ ((.leaf (.str s) : SV true)).plain = true ∧ sizeT Try.prog 9 = some 1 then (D F.laws_markText [.leaf (.int .i64 (IntKind.i64.wrap (IntKind.i64.wrap (i1 + 1) + 1)))] []).bind fun r => svLeafK r.fst fun l => strK l fun s => guarded (decide (0 ≤ i5) && decide (i5 < (↑e0.length : Int)) && sized 3 e0) (if (c0.isSoft = true ∧ softAt (e0.getD i5.toNat []) 2 = true) ∧ ((.leaf (.str s) : SV true)).plain = true ∧ sizeT Try.prog 9 = some 1 then d_laws_markChangeS_A D (d_laws_markChangeS_0 c0 e0 (IntKind.i64.wrap (IntKind.i64.wrap (IntKind.i64.wrap (i1 + 1) + 1) + 1)) (IntKind.i64.wrap (i5 + 1))) else none) else none) else none)) (some (.leaf (.int .i64 i1),[])) := by refine (nameF_eq (J := d_laws_markChangeS_A D) (fun _ _ => rfl) [[1,0,1,0]] _).trans ?_; generalize d_laws_markChangeS_A D = J; revert J; refine id ?_; intro J; kernel_rfl
theorem run_d_laws_markChangeS : run2V Try.prog D Hs limR F.laws_markChangeS [.leaf (.sl c0 e0),.leaf (.int .i64 i1)] [] = d_laws_markChangeS_A D (d_laws_markChangeS_0 c0 e0 i1 0) := by refine (run_names (J := d_laws_markChangeS_A D) (by kernel_rfl) (fun _ _ => rfl) [[1,0,1,0]]).trans ?_; generalize d_laws_markChangeS_A D = J; revert J; refine id ?_; intro J; kernel_rfl
end
section
variable (n0 : Nat) (e0 : LT) (n1 : Nat) (i5 i6 : Int) (vx0 : List (SV true)) (ix7_0 : Int) (sx7_1 sx7_2 : ByteArray) (ix42_0 ib0_0 : Int)
def d_slices_DeleteFunc_S_impl_Change_impl_Change_w0_c1p1_A (x : PT) : Ret true := atF Try.prog D Hs F.slices_DeleteFunc_S_impl_Change_impl_Change x.1 1 x.2
def d_slices_DeleteFunc_S_impl_Change_impl_Change_w0_c1p1_0 : PT := ([1,1,1,0,1,0],St.mk ([.bsl 0 3 0 n0,.fn n1 [.ptr 42 0],.any,.any,.any,.leaf (.int .i64 i5),.leaf (.int .i64 i6)] ++ anyS 35) ([some vx0] ++ noB 41 ++ [some [.leaf (.int .i64 ix42_0)]]))
def d_slices_DeleteFunc_S_impl_Change_impl_Change_w0_c1p1_1 : PT := ([1,1,1,0,1,0,0,1,1],St.mk ([.bsl 0 3 0 n0,.fn n1 [.ptr 42 0],.any,.any,.any,.leaf (.int .i64 i5),.leaf (.int .i64 i6)] ++ anyS 35) ([some vx0] ++ noB 6 ++ [some [.leaf (.int .i64 ix7_0),.leaf (.str sx7_1),.leaf (.str sx7_2)]] ++ noB 34 ++ [some [.leaf (.int .i64 ix42_0)]]))
def d_slices_DeleteFunc_S_impl_Change_impl_Change_w0_c1p1_N : List (List Nat) := [[1,1,1,0,1,0],[1,1,1,0,1,0,0,1,1]]
theorem d_slices_DeleteFunc_S_impl_Change_impl_Change_w0_c1p1_0_eq : d_slices_DeleteFunc_S_impl_Change_impl_Change_w0_c1p1_A D (d_slices_DeleteFunc_S_impl_Change_impl_Change_w0_c1p1_0 n0 n1 i5 i6 vx0 ix42_0) = guarded (vx0.all (SV.noBox [7]) && true) (branch (decide (i6 < (↑n0 : Int))) (guarded (decide (0 ≤ i6) && decide (i6 < (↑n0 : Int))) (guarded (decide ((0 + i6.toNat) * 3 + 3 ≤ vx0.length)) ((asLeaves (List.take 3 (List.drop ((0 + i6.toNat) * 3) vx0))).bind fun e => bindE e fun e => atK e 0 fun l => intK .i64 l fun n => atK e 1 fun l => strK l fun s => atK e 2 fun l => strK l fun s_1 => (D n1 [.agg [.int .i64 n,.str s,.str s_1],.ptr 0 0] [[.leaf (.int .i64 ix42_0)]]).bind fun r => headB r.snd fun d r_1 => headK d fun d r_2 => svLeafK d fun l => intK .i64 l fun n_1 => lastK r_2 (lastB r_1 (svLeafK r.fst fun l => boolK l fun b => branch (!b) (guarded (decide (0 ≤ i5) && decide (i5 < (↑n0 : Int))) (guarded (decide ((0 + i5.toNat) * 3 + 3 ≤ vx0.length)) (d_slices_DeleteFunc_S_impl_Change_impl_Change_w0_c1p1_A D (d_slices_DeleteFunc_S_impl_Change_impl_Change_w0_c1p1_1 n0 n1 (IntKind.i64.wrap (i5 + 1)) i6 (putAt vx0 ((0 + i5.toNat) * 3) [.leaf (.int .i64 n),.leaf (.str s),.leaf (.str s_1)]) n s s_1 n_1)))) (d_slices_DeleteFunc_S_impl_Change_impl_Change_w0_c1p1_A D (d_slices_DeleteFunc_S_impl_Change_impl_Change_w0_c1p1_1 n0 n1 i5 i6 vx0 n s s_1 n_1))))))) (guarded (decide (0 ≤ i5) && true && (decide (((decide (0 ≤ i5),i5.toNat).fst,some (decide (0 ≤ i5),i5.toNat).snd).snd.getD 0 ≤ (true,none).snd.getD n0) && decide ((true,none).snd.getD n0 ≤ n0))) (guarded (decide ((0 + ((decide (0 ≤ i5),i5.toNat).fst,some (decide (0 ≤ i5),i5.toNat).snd).snd.getD 0 + ((true,none).snd.getD n0 - ((decide (0 ≤ i5),i5.toNat).fst,some (decide (0 ≤ i5),i5.toNat).snd).snd.getD 0)) * 3 ≤ vx0.length)) (guarded (decide (0 ≤ i5) && decide (((decide (0 ≤ i5),i5.toNat).fst,some (decide (0 ≤ i5),i5.toNat).snd).snd.getD n0 ≤ n0)) (guarded (decide ((((decide (0 ≤ i5),i5.toNat).fst,some (decide (0 ≤ i5),i5.toNat).snd).snd.getD n0 - (true,none).snd.getD 0) * 3 ≤ (putAt vx0 ((0 + ((decide (0 ≤ i5),i5.toNat).fst,some (decide (0 ≤ i5),i5.toNat).snd).snd.getD 0) * 3) (List.map SV.leaf (List.replicate ((true,none).snd.getD n0 - ((decide (0 ≤ i5),i5.toNat).fst,some (decide (0 ≤ i5),i5.toNat).snd).snd.getD 0) [.int .i64 0,.str (ByteArray.mk #[]),.str (ByteArray.mk #[])]).flatten)).length)) ((asLeaves (List.take ((((fun p => (p.fst,some p.snd)) (decide (0 ≤ i5),i5.toNat)).snd.getD n0 - (true,none).snd.getD 0) * 3) (putAt vx0 ((0 + ((fun p => (p.fst,some p.snd)) (decide (0 ≤ i5),i5.toNat)).snd.getD 0) * 3) (List.map SV.leaf (List.replicate ((true,none).snd.getD n0 - ((fun p => (p.fst,some p.snd)) (decide (0 ≤ i5),i5.toNat)).snd.getD 0) ((fun (x : List (Leaf true)) => .int .i64 0 :: x) ((fun (x : List (Leaf true)) => .str (ByteArray.mk #[]) :: x) ((fun (x : List (Leaf true)) => .str (ByteArray.mk #[]) :: x) [])))).flatten)))).bind fun l => some (.leaf (.sl fNew (chunks 3 (((fun p => (p.fst,some p.snd)) (decide (0 ≤ i5),i5.toNat)).snd.getD n0 - (true,none).snd.getD 0) l)),[[.leaf (.int .i64 ix42_0)]]))))))) := by refine (nameF_eq (J := d_slices_DeleteFunc_S_impl_Change_impl_Change_w0_c1p1_A D) (fun _ _ => rfl) d_slices_DeleteFunc_S_impl_Change_impl_Change_w0_c1p1_N _).trans ?_; generalize d_slices_DeleteFunc_S_impl_Change_impl_Change_w0_c1p1_A D = J; revert J; refine id ?_; intro J; kernel_rfl
theorem d_slices_DeleteFunc_S_impl_Change_impl_Change_w0_c1p1_1_eq : d_slices_DeleteFunc_S_impl_Change_impl_Change_w0_c1p1_A D (d_slices_DeleteFunc_S_impl_Change_impl_Change_w0_c1p1_1 n0 n1 i5 i6 vx0 ix7_0 sx7_1 sx7_2 ix42_0) = guarded (vx0.all (SV.noBox [7]) && true) (d_slices_DeleteFunc_S_impl_Change_impl_Change_w0_c1p1_A D (d_slices_DeleteFunc_S_impl_Change_impl_Change_w0_c1p1_0 n0 n1 i5 (IntKind.i64.wrap (i6 + 1)) vx0 ix42_0)) := by refine (nameF_eq (J := d_slices_DeleteFunc_S_impl_Change_impl_Change_w0_c1p1_A D) (fun _ _ => rfl) d_slices_DeleteFunc_S_impl_Change_impl_Change_w0_c1p1_N _).trans ?_; generalize d_slices_DeleteFunc_S_impl_Change_impl_Change_w0_c1p1_A D = J; revert J; refine id ?_; intro J; kernel_rfl
theorem run_d_slices_DeleteFunc_S_impl_Change_impl_Change_w0_c1p1 : run2V Try.prog D Hs limR F.slices_DeleteFunc_S_impl_Change_impl_Change [SV.raw (some T.impl_Change) e0,.fn n1 [.ptr 0 0]] [[.leaf (.int .i64 ib0_0)]] = guarded ([rowC e0,[.leaf (.int .i64 ib0_0)]].all fun x => x.all SV.flat) ((D F.slices_IndexFunc_S_impl_Change_impl_Change [.bsl 0 3 0 e0.length,.fn n1 [.ptr 1 0]] [rowC e0,[.leaf (.int .i64 ib0_0)]]).bind fun r => headB r.snd fun d r_1 => headB r_1 fun d_1 r_2 => headK d_1 fun d_2 r_3 => svLeafK d_2 fun l => intK .i64 l fun n => lastK r_3 (lastB r_2 (svLeafK r.fst fun l => intK .i64 l fun n_1 => branch (n_1 == -1) (guarded (decide (e0.length * 3 ≤ d.length)) ((asLeaves (List.take (e0.length * 3) d)).bind fun l => some (.leaf (.sl fNew (chunks 3 e0.length l)),[[.leaf (.int .i64 n)]]))) (d_slices_DeleteFunc_S_impl_Change_impl_Change_w0_c1p1_A D (d_slices_DeleteFunc_S_impl_Change_impl_Change_w0_c1p1_0 e0.length n1 n_1 (IntKind.i64.wrap (n_1 + 1)) d n))))) := by refine (run_names (J := d_slices_DeleteFunc_S_impl_Change_impl_Change_w0_c1p1_A D) (by kernel_rfl) (fun _ _ => rfl) [[1,1,1,0,1,0],[1,1,1,0,1,0,0,1,1]]).trans ?_; generalize d_slices_DeleteFunc_S_impl_Change_impl_Change_w0_c1p1_A D = J; revert J; refine id ?_; intro J; kernel_rfl
end
def d_laws_toChange_A := atA D F.laws_toChange
theorem run_d_laws_toChange (i0_0 : Int) (s0_1 s0_2 : ByteArray) : run2V Try.prog D Hs limR F.laws_toChange [.agg [.int .i64 i0_0,.str s0_1,.str s0_2]] [] = some (.agg [.int .i64 i0_0,.str s0_1,.str s0_2],[]) := by refine (run_names (J := d_laws_toChange_A D) (by kernel_rfl) (fun _ _ => rfl) []).trans ?_; generalize d_laws_toChange_A D = J; revert J; refine id ?_; intro J; kernel_rfl
def d_impl_OfClass_1_A (x : PT) : Ret true := atF Try.prog D Hs F.impl_OfClass_1 x.1 1 x.2
theorem run_d_impl_OfClass_1 (i0_0 : Int) (s0_1 s0_2 : ByteArray) (ib0_0 : Int) : run2V Try.prog D Hs limR F.impl_OfClass_1 [.agg [.int .i64 i0_0,.str s0_1,.str s0_2],.ptr 0 0] [[.leaf (.int .i64 ib0_0)]] = (D F.impl_ClassOf [.leaf (.int .i64 i0_0)] []).bind fun r => svLeafK r.fst fun l => intK .i64 l fun n => some (.leaf (.bool (n != ib0_0)),[[.leaf (.int .i64 ib0_0)]]) := by refine (run_names (J := d_impl_OfClass_1_A D) (by kernel_rfl) (fun _ _ => rfl) []).trans ?_; generalize d_impl_OfClass_1_A D = J; revert J; refine id ?_; intro J; kernel_rfl
section
variable (n0 n1 : Nat) (i7 i8 : Int) (vx19 : List (SV true)) (ix20_0 : Int) (vb0 : List (SV true)) (ib1_0 : Int)
def d_slices_IndexFunc_S_impl_Change_impl_Change_r0_c1p1_A (x : PT) : Ret true := atF Try.prog D Hs F.slices_IndexFunc_S_impl_Change_impl_Change x.1 2 x.2
def d_slices_IndexFunc_S_impl_Change_impl_Change_r0_c1p1_0 : PT := ([1,0,1,0],St.mk ([.bsl 19 3 0 n0,.fn n1 [.ptr 20 0]] ++ anyS 5 ++ [.leaf (.int .i64 i7),.leaf (.int .i64 i8)] ++ anyS 10) (noB 19 ++ [some vx19,some [.leaf (.int .i64 ix20_0)]]))
theorem d_slices_IndexFunc_S_impl_Change_impl_Change_r0_c1p1_0_eq : d_slices_IndexFunc_S_impl_Change_impl_Change_r0_c1p1_A D (d_slices_IndexFunc_S_impl_Change_impl_Change_r0_c1p1_0 n0 n1 i7 i8 vx19 ix20_0) = branch (decide (i8 < i7)) (guarded (decide (0 ≤ i8) && decide (i8 < (↑n0 : Int))) (guarded (decide ((0 + i8.toNat) * 3 + 3 ≤ vx19.length)) ((asLeaves (List.take 3 (List.drop ((0 + i8.toNat) * 3) vx19))).bind fun e => bindE e fun e => atK e 0 fun l => intK .i64 l fun n => atK e 1 fun l => strK l fun s => atK e 2 fun l => strK l fun s_1 => (D n1 [.agg [.int .i64 n,.str s,.str s_1],.ptr 0 0] [[.leaf (.int .i64 ix20_0)]]).bind fun r => headB r.snd fun d r_1 => headK d fun d r_2 => svLeafK d fun l => intK .i64 l fun n => lastK r_2 (lastB r_1 (svLeafK r.fst fun l => boolK l fun b => branch b (guarded ([vx19,[.leaf (.int .i64 n)]].all fun x => x.all SV.flat) (some (.leaf (.int .i64 i8),[vx19,[.leaf (.int .i64 n)]]))) (d_slices_IndexFunc_S_impl_Change_impl_Change_r0_c1p1_A D (d_slices_IndexFunc_S_impl_Change_impl_Change_r0_c1p1_0 n0 n1 i7 (IntKind.i64.wrap (i8 + 1)) vx19 n))))))) (guarded ([vx19,[.leaf (.int .i64 ix20_0)]].all fun x => x.all SV.flat) (some (.leaf (.int .i64 (-1)),[vx19,[.leaf (.int .i64 ix20_0)]]))) := by refine (nameF_eq (J := d_slices_IndexFunc_S_impl_Change_impl_Change_r0_c1p1_A D) (fun _ _ => rfl) [[1,0,1,0]] _).trans ?_; generalize d_slices_IndexFunc_S_impl_Change_impl_Change_r0_c1p1_A D = J; revert J; refine id ?_; intro J; kernel_rfl
theorem run_d_slices_IndexFunc_S_impl_Change_impl_Change_r0_c1p1 : run2V Try.prog D Hs limR F.slices_IndexFunc_S_impl_Change_impl_Change [.bsl 0 3 0 n0,.fn n1 [.ptr 1 0]] [vb0,[.leaf (.int .i64 ib1_0)]] = d_slices_IndexFunc_S_impl_Change_impl_Change_r0_c1p1_A D (d_slices_IndexFunc_S_impl_Change_impl_Change_r0_c1p1_0 n0 n1 (↑n0 : Int) 0 vb0 ib1_0) := by refine (run_names (J := d_slices_IndexFunc_S_impl_Change_impl_Change_r0_c1p1_A D) (by kernel_rfl) (fun _ _ => rfl) [[1,0,1,0]]).trans ?_; generalize d_slices_IndexFunc_S_impl_Change_impl_Change_r0_c1p1_A D = J; revert J; refine id ?_; intro J; kernel_rfl
end
end
end Go.Vs
end
section
set_option linter.unusedVariables false
namespace Go.Vs
open Go
variable {P : Program} {N : Env}
def twoT (D1 D2 : Oracle true) (f : FuncId) (a : List (SV true)) (b : List (List (SV true))) : Option (SV true × List (List (SV true))) :=
  match a with
  | .leaf l :: r => D1 f (.leaf l :: r) b
  | x => D2 f x b
theorem two_sound {D1 D2 : Oracle true} {f : FuncId} (h1 : DSound P N D1) (h2 : DSound P N D2) : DSound P N (fun g a b => if g = f then twoT D1 D2 f a b else none) := by
  intro g a b r hr hh hf
  replace hr : (if g = f then twoT D1 D2 f a b else none) = some r := hr
  split at hr
  · rename_i hg
    subst hg
    unfold twoT at hr
    split at hr
    · exact h1 g _ b r hr hh hf
    · exact h2 g _ b r hr hh hf
  · simp at hr
noncomputable def withT (f : FuncId) (t : List (SV true) → List (List (SV true)) → Option (SV true × List (List (SV true)))) (T : Told true) : Told true := fun g => if g = f then some t else T g
theorem withT_sound {f : FuncId} {t : List (SV true) → List (List (SV true)) → Option (SV true × List (List (SV true)))} {T : Told true} (ht : DSound P N (fun g a b => if g = f then t a b else none)) (hT : TSound P N T) : TSound P N (withT f t T) := by
  intro g u hu
  unfold withT at hu
  split at hu
  · rename_i hg
    subst hg
    simp only [Option.some.injEq] at hu
    subst hu
    exact ht
  · exact hT g u hu
theorem withT_this {f : FuncId} {t : List (SV true) → List (List (SV true)) → Option (SV true × List (List (SV true)))} {T : Told true} : withT f t T f = some t := by unfold withT; exact if_pos rfl
theorem withT_other {f g : FuncId} {t : List (SV true) → List (List (SV true)) → Option (SV true × List (List (SV true)))} {T : Told true} (h : g ≠ f) : withT f t T g = T g := by unfold withT; exact if_neg h
end Go.Vs
end
section
open Go Go.Vs Go.Proofs
set_option linter.unusedVariables false
set_option linter.unusedSimpArgs false
namespace Go.Vs
def keep : FuncId → Bool := fun f => [F.impl_OfClass, F.impl_OfClass_1, F.laws_toChange, F.laws_toChangeS, F.slices_DeleteFunc_S_impl_Change_impl_Change, F.slices_IndexFunc_S_impl_Change_impl_Change].contains f
def keep0 : FuncId → Bool := fun f => [F.laws_markChangeS].contains f
noncomputable abbrev Dd0 : Oracle true := den Go.Proofs.Try.prog (liftT Dn keep0) Hs
theorem dd0_of {f : FuncId} {a : List (SV true)} {b : List (List (SV true))} {r : SV true × List (List (SV true))} (hk : keep0 f = true) (h : run2V Go.Proofs.Try.prog Dd0 Hs limR f a b = some r) : Dd0 f a b = some r :=
  den_fast (by simp only [liftT, hk]) h
theorem dd0_told {f : FuncId} (hk : keep0 f = false) {a : List (SV true)} {b : List (List (SV true))} {a' : List (SV false)} {b' : List (List (SV false))} {r' : SV false × List (List (SV false))} {r : SV true × List (List (SV true))}
    (h : Dn f a' b' = some r') (ha : a.map (reS er) = a') (hb : b.map (List.map (reS er)) = b') (hr : (reS li r'.1, r'.2.map (List.map (reS li))) = r) : Dd0 f a b = some r := lift_told hk h ha hb hr
noncomputable abbrev markT := twoT Dd0 (lifted Dn) F.laws_markChangeS
noncomputable abbrev toldD : Told true := withT F.laws_markChangeS markT (liftT Dn keep)
noncomputable abbrev Dd : Oracle true := den Go.Proofs.Try.prog toldD Hs
theorem keep_not {f : FuncId} (hk : keep f = true) : f ≠ F.laws_markChangeS := fun h => by subst h; exact absurd hk (by decide)
theorem dd_of {f : FuncId} {a : List (SV true)} {b : List (List (SV true))} {r : SV true × List (List (SV true))} (hk : keep f = true) (h : run2V Go.Proofs.Try.prog Dd Hs limR f a b = some r) : Dd f a b = some r :=
  den_fast ((withT_other (keep_not hk)).trans (by simp only [liftT, hk])) h
theorem dd_told {f : FuncId} (hk : keep f = false) {a : List (SV true)} {b : List (List (SV true))} {a' : List (SV false)} {b' : List (List (SV false))} {r' : SV false × List (List (SV false))} {r : SV true × List (List (SV true))}
    (h : Dn f a' b' = some r') (ha : a.map (reS er) = a') (hb : b.map (List.map (reS er)) = b') (hr : (reS li r'.1, r'.2.map (List.map (reS li))) = r) (hn : f ≠ F.laws_markChangeS := by decide) : Dd f a b = some r := by
  subst ha hb hr
  exact den_told (T := toldD) (t := fun a b => lifted Dn f a b) ((withT_other hn).trans (by simp only [liftT, hk])) (by simp [lifted, h])
theorem dd_mark {a : List (SV true)} {b : List (List (SV true))} {r : SV true × List (List (SV true))} (h : markT a b = some r) : Dd F.laws_markChangeS a b = some r := den_told (T := toldD) withT_this h
theorem sizeT3 : sizeT Try.prog 3 = some 1 := by kernel_rfl
theorem sizeT4 : sizeT Try.prog 4 = some 1 := by kernel_rfl
theorem sizeT9 : sizeT Try.prog 9 = some 1 := by kernel_rfl
theorem laws_toChangeS_from {c : Fl true} {es : List (List (Leaf false))} (hl : es.length ≤ 1048576) (hq : ∀ e ∈ es, IsChange e) (hd : ∀ e ∈ es, Dd F.laws_toChange [.agg (reL (fl c) e)] [] = some (.agg (reL (fl fNew) e), [])) : ∀ i : Nat, i ≤ es.length → ∀ z : List (SV true), z.length = (es.length - i) * 3 →
    d_laws_toChangeS_A Dd (d_laws_toChangeS_0 c (reE (fl c) es) es.length i (rowAt (reE (fl fNew) es) i z)) = some (.leaf (.sl fNew (reE (fl fNew) es)), []) := by
  have hall : ∀ e ∈ reE (fl fNew) es, e.length = 3 := reE_all fun e he => (hq e he).len
  have hN : (reE (fl fNew) es).length = es.length := reE_length es
  have hC : (reE (fl c) es).length = es.length := reE_length es
  have hml : (1048576 : Nat) ≤ maxLen := by decide
  refine upto_ind ?_ ?_
  · intro z hz
    have g1 := row_full (z := z) hall
    have g2 := chunks_flatten hall
    have g3 := rowAt_len (z := z) hall (Nat.le_refl _)
    rw [hN] at g1 g2 g3
    try rw [Nat.mul_one] at g1
    rw [d_laws_toChangeS_0_eq]
    simp [g1, g2, g3, hC, SV.flatT, SV.flat, Fl.new]
  · intro i hi ih z hz
    have g3 := rowAt_len (z := z) hall (i := i) (by omega)
    have hp := putAt_row (z := z) hall (i := i) (by omega)
    rw [d_laws_toChangeS_0_eq]
    have hci := hd _ (List.getElem_mem hi)
    obtain ⟨i0, s1, s2, he, h1, h2⟩ := (hq _ (List.getElem_mem hi)).ex
    rw [reE_get, he] at hp
    simp only [reL, reF, List.map_cons, List.map_nil] at hp
    simp only [Int.ofNat_lt, hi, hC, decide_true, branch_true, Int.natCast_nonneg, Bool.and_true, Int.toNat_natCast, guarded_true, wrap_upL (Nat.lt_of_lt_of_le hi (Nat.le_trans hl hml)), sized_all (reE_all (φ := fl c) fun e he => (hq e he).len), reE_getD hi]
    rw [he] at hci ⊢
    simp only [reL, reF] at hci
    simp only [reL, reF, bindE_eq, atK_zero, atK_succ, intK_int, strK_str, boolK_bool, slK_sl, hci, Option.bind_some, svAggK_agg, List.length_cons, List.length_nil, beq_self_eq_true, Nat.reduceAdd, Nat.reduceBEq, guarded_true]
    have hd' : (i + 1) * 3 ≤ es.length * 3 := Nat.mul_le_mul_right 3 hi
    have hg : (0 + i) * 3 + 3 ≤ (rowAt (reE (fl fNew) es) i z).length := by rw [g3, hz, Nat.sub_mul]; omega
    simp only [hg, decide_true, guarded_true]
    rw [Nat.zero_add, hp]
    exact ih _ (by rw [List.length_drop, hz, Nat.sub_mul, Nat.sub_mul]; omega)
theorem t_laws_toChangeS_of {c : Fl true} {es : List (List (Leaf false))} (hl : es.length ≤ 1048576) (hq : ∀ e ∈ es, IsChange e) (hd : ∀ e ∈ es, Dd F.laws_toChange [.agg (reL (fl c) e)] [] = some (.agg (reL (fl fNew) e), [])) : Dd F.laws_toChangeS [.leaf (.sl c (reE (fl c) es))] [] = some (.leaf (.sl fNew (reE (fl fNew) es)), []) := by
  apply dd_of rfl
  have hb : maxBytes = 140737488355328 := rfl
  rw [run_d_laws_toChangeS]
  have hs : decide (es.length ≤ maxBytes) = true := decide_eq_true (by omega)
  have hs2 : decide (es.length * 40 ≤ maxBytes) = true := decide_eq_true (by omega)
  simp only [reE_length, Int.natCast_nonneg, Int.toNat_natCast, beq_self_eq_true, hs, hs2, decide_true, Bool.and_true, Bool.true_and, guarded_true]
  exact laws_toChangeS_from hl hq hd 0 (Nat.zero_le _) _ (by simp [List.length_flatten])
theorem t_laws_toChange {c : Fl true} {ls : List (Leaf false)} (h : IsChange ls) : tL ls ≤ 1048576 → Dd F.laws_toChange [.agg (reL (fl c) ls)] [] = some (.agg (reL (fl fNew) ls), []) := by
  cases h with
  | mk i0 s1 s2 h1 h2 =>
    intro hb
    apply dd_of rfl
    simp only [reL, reF]
    rw [run_d_laws_toChange]
    try simp []
theorem t_laws_toChangeS {c : Fl true} {es : List (List (Leaf false))} (hb : es.length + tE es ≤ 1048576) (hq : ∀ e ∈ es, IsChange e) : Dd F.laws_toChangeS [.leaf (.sl c (reE (fl c) es))] [] = some (.leaf (.sl fNew (reE (fl fNew) es)), []) := t_laws_toChangeS_of (by omega) hq fun e he => t_laws_toChange (hq e he) (by have := tE_mem he; omega)
end Go.Vs
end
section
open Go Go.Vs Go.Proofs
set_option linter.unusedVariables false
set_option linter.unusedSimpArgs false
namespace Go.Vs
theorem wrap_le {x : Int} (h : 0 ≤ x) : IntKind.i64.wrap x ≤ x := by
  have e : IntKind.i64.wrap x = if x % 18446744073709551616 ≥ 9223372036854775808 then x % 18446744073709551616 - 18446744073709551616 else x % 18446744073709551616 := by
    simp [IntKind.wrap, IntKind.signed, IntKind.bits]
  rw [e]
  split <;> omega
theorem markText_from : ∀ (n : Nat) (i0 : Int) (s3 : ByteArray), i0 < 10 ^ n → s3.size + n + 1 ≤ 140737488355328 → ∃ s : ByteArray, laws_markText_A Dn (laws_markText_0 i0 s3) = some (.leaf (.str s), [])
  | 0, i0, s3, h, hs => by
    have h0 : ¬ i0 > 0 := by simp at h; omega
    rw [laws_markText_0_eq]
    have h1 : (ByteArray.mk #[109]).size + s3.size ≤ 140737488355328 := by have : (ByteArray.mk #[109]).size = 1 := rfl; omega
    simp only [h0, decide_false, branch_false, h1, decide_true, guarded_true]
    exact ⟨_, rfl⟩
  | n + 1, i0, s3, h, hs => by
    rw [laws_markText_0_eq]
    by_cases h0 : i0 > 0
    · have hz : ∀ x : UInt8, (ByteArray.mk #[x]).size = 1 := fun _ => rfl
      have h2 : IntKind.i64.wrap (i0.tdiv 10) < 10 ^ n := by
        have h3 : 0 ≤ i0.tdiv 10 := Int.tdiv_nonneg (by omega) (by omega)
        have h4 := wrap_le h3
        have h5 : i0.tdiv 10 < 10 ^ n := by
          rw [Int.tdiv_eq_ediv_of_nonneg (by omega)]
          rw [Int.pow_succ] at h
          omega
        omega
      simp only [h0, decide_true, branch_true, List.map_cons, List.map_nil, hz, show 1 + s3.size ≤ 140737488355328 by omega, guarded_true]
      exact markText_from n _ _ h2 (by rw [ByteArray.size_append, hz]; omega)
    · have h1 : (ByteArray.mk #[109]).size + s3.size ≤ 140737488355328 := by have : (ByteArray.mk #[109]).size = 1 := rfl; omega
      simp only [h0, decide_false, branch_false, h1, decide_true, guarded_true]
      exact ⟨_, rfl⟩
theorem markText_ex (k : Int) : ∃ s : ByteArray, Dn F.laws_markText [vint k] [] = some (.leaf (.str s), []) := by
  have key : ∃ s : ByteArray, run2V Go.Proofs.Try.prog Dn Hs limR F.laws_markText [vint k] [] = some (.leaf (.str s), []) := by
    rw [run_laws_markText]
    by_cases h : k ≤ 0
    · simp only [h, decide_true, branch_true]; exact ⟨_, rfl⟩
    · obtain ⟨n, hn⟩ : ∃ n : Nat, k < 10 ^ n ∧ n ≤ k.toNat := ⟨k.toNat, by
        have : (k.toNat : Int) < 10 ^ k.toNat := by exact_mod_cast (Nat.lt_pow_self (by omega) : k.toNat < 10 ^ k.toNat)
        omega, Nat.le_refl _⟩
      simp only [h, decide_false, branch_false]
      rw [laws_markText_0_eq]
      have hz : ∀ x : UInt8, (ByteArray.mk #[x]).size = 1 := fun _ => rfl
      have h0 : k > 0 := by omega
      have he : (ByteArray.mk #[]).size = 0 := rfl
      simp only [h0, decide_true, branch_true, List.map_cons, List.map_nil, hz, he, show 1 + 0 ≤ 140737488355328 by omega, guarded_true]
      refine markText_from 19 _ _ ?_ (by rw [ByteArray.size_append, hz, he]; omega)
      have e : ∀ x : Int, IntKind.i64.wrap x < 10 ^ 19 := fun x => by
        have e : IntKind.i64.wrap x = if x % 18446744073709551616 ≥ 9223372036854775808 then x % 18446744073709551616 - 18446744073709551616 else x % 18446744073709551616 := by
          simp [IntKind.wrap, IntKind.signed, IntKind.bits]
        rw [e]
        split <;> omega
      exact e _
  obtain ⟨s, hs⟩ := key
  exact ⟨s, den_of hs⟩
noncomputable def mtx (k : Int) : ByteArray := Classical.choose (markText_ex k)
theorem d_markText (k : Int) : Dn F.laws_markText [vint k] [] = some (.leaf (.str (mtx k)), []) := Classical.choose_spec (markText_ex k)
end Go.Vs
end
section
open Go Go.Vs Go.Proofs
set_option linter.unusedVariables false
set_option linter.unusedSimpArgs false
namespace Go.Vs
theorem t_markText (k : Int) : Dd F.laws_markText [.leaf (.int .i64 k)] [] = some (.leaf (.str (mtx k)), []) :=
  dd_told rfl (d_markText k) rfl rfl rfl
theorem t0_markText (k : Int) : Dd0 F.laws_markText [.leaf (.int .i64 k)] [] = some (.leaf (.str (mtx k)), []) :=
  dd0_told rfl (d_markText k) rfl rfl rfl
theorem laws_markChangeS_from {es : List (List (Leaf false))} (hl : es.length ≤ maxLen) (hq : ∀ e ∈ es, IsChange e) : ∀ i : Nat, i ≤ es.length → ∀ k : Int,
    d_laws_markChangeS_A Dd0 (d_laws_markChangeS_0 fSoft (soE es) k i) = some (.leaf (.int .i64 (mkE (es.drop i) k)), []) := by
  have hC : (soE es).length = es.length := soE_length es
  refine upto_ind ?_ ?_
  · intro k; rw [d_laws_markChangeS_0_eq]; simp [hC, mkE]
  · intro i hi ih k
    obtain ⟨i0, s1, s2, he, h1, h2⟩ := (hq _ (List.getElem_mem hi)).ex
    rw [d_laws_markChangeS_0_eq, drop_at hi]
    simp only [Int.ofNat_lt, hi, hC, decide_true, branch_true, Int.natCast_nonneg, Bool.and_true, Int.toNat_natCast, guarded_true, wrap_upL (Nat.lt_of_lt_of_le hi hl), sized_all (soE_all fun e he => (hq e he).len), soE_getD hi, t0_markText, Option.bind_some, svLeafK_leaf, strK_str]
    rw [he]
    simp only [soL, soF, atK_zero, atK_succ, slK_sl, softAt, List.getElem?_cons_zero, List.getElem?_cons_succ, soft_isSoft, St.eval, List.getD_cons_zero, List.getD_cons_succ, SV.plain, sizeT3, sizeT4, sizeT9, and_self, ite_true, if_true, ite_yes, true_and, and_true, t0_markText, Option.bind_some, svLeafK_leaf, strK_str, intK_int, ih]
    simp only [mkE, mkL, mkF]
theorem t0_laws_markChangeS {es : List (List (Leaf false))} (hl : es.length ≤ maxLen) (hq : ∀ e ∈ es, IsChange e) (k : Int) : Dd0 F.laws_markChangeS [.leaf (.sl fSoft (soE es)), .leaf (.int .i64 k)] [] = some (.leaf (.int .i64 (mkE es k)), []) := by
  apply dd0_of rfl
  rw [run_d_laws_markChangeS]
  have := laws_markChangeS_from hl hq 0 (Nat.zero_le _) k
  simpa using this
theorem t_laws_markChangeS {es : List (List (Leaf false))} (hl : es.length ≤ maxLen) (hq : ∀ e ∈ es, IsChange e) (k : Int) : Dd F.laws_markChangeS [.leaf (.sl fSoft (soE es)), .leaf (.int .i64 k)] [] = some (.leaf (.int .i64 (mkE es k)), []) := dd_mark (t0_laws_markChangeS hl hq k)
theorem t_laws_markChangeS_nil (c : Fl true) (k : Int) : Dd F.laws_markChangeS [.leaf (.sl c []), .leaf (.int .i64 k)] [] = some (.leaf (.int .i64 k), []) := dd_mark (by
  show Dd0 F.laws_markChangeS _ _ = _
  apply dd0_of rfl
  rw [run_d_laws_markChangeS, d_laws_markChangeS_0_eq]
  simp)
end Go.Vs
end
section
open Go Go.Vs Go.Proofs
set_option linter.unusedVariables false
set_option linter.unusedSimpArgs false
namespace Go.Vs
noncomputable def mkChange (k : Int) : List (Leaf false) := [.int .i64 (k), .str (mtx (IntKind.i64.wrap (k + 1))), .str (mtx (IntKind.i64.wrap (IntKind.i64.wrap (k + 1) + 1)))]
def nextChange (k : Int) : Int := IntKind.i64.wrap (IntKind.i64.wrap (IntKind.i64.wrap (k + 1) + 1) + 1)
noncomputable def rowChange : Nat → Int → List (List (Leaf false))
  | 0, _ => []
  | n + 1, k => mkChange k :: rowChange n (nextChange k)
def endChange : Nat → Int → Int
  | 0, k => k
  | n + 1, k => endChange n (nextChange k)
theorem endChange_succ : ∀ (n : Nat) (k : Int), endChange (n + 1) k = nextChange (endChange n k)
  | 0, _ => rfl
  | n + 1, k => endChange_succ n (nextChange k)
theorem rowChange_length : ∀ (n : Nat) (k : Int), (rowChange n k).length = n
  | 0, _ => rfl
  | n + 1, k => by rw [rowChange, List.length_cons, rowChange_length n]
theorem rowChange_all : ∀ (n : Nat) (k : Int), ∀ e ∈ rowChange n k, e.length = 3
  | 0, _, e, h => by simp [rowChange] at h
  | n + 1, k, e, h => by
    rcases List.mem_cons.1 h with rfl | h
    · rfl
    · exact rowChange_all n _ e h
theorem rowChange_get : ∀ (n : Nat) (k : Int) (i : Nat) (h : i < (rowChange n k).length), (rowChange n k)[i] = mkChange (endChange i k)
  | 0, _, i, h => by simp [rowChange] at h
  | n + 1, k, 0, h => rfl
  | n + 1, k, i + 1, h => rowChange_get n (nextChange k) i (by simpa [rowChange] using h)
theorem laws_markChangeS_rfrom {n : Nat} {k : Int} (hl : n ≤ maxLen) : ∀ i : Nat, i ≤ n → ∀ z : List (SV false), z.all SV.flat = true → (n - i) * 3 ≤ z.length →
    laws_markChangeS_r0_A Dn (laws_markChangeS_r0_0 n (endChange i k) i (rowAt (rowChange n k) i z)) = some (vint (endChange n k), [rowAt (rowChange n k) n (z.drop ((n - i) * 3))]) := by
  have hN := rowChange_length n k
  have hall := rowChange_all n k
  refine upto_ind ?_ ?_
  · intro z hz hzl
    rw [laws_markChangeS_r0_0_eq]
    have hf := rowAt_flat (l := rowChange n k) (i := n) hz
    simp [hf]
  · intro i hi ih z hz hzl
    have hlen := rowAt_len (z := z) hall (i := i) (by omega)
    have hp := putAt_row (z := z) hall (i := i) (by omega)
    rw [rowChange_get] at hp
    simp only [mkChange, List.map_cons, List.map_nil] at hp
    have hd : (n - i) * 3 = (n - (i + 1)) * 3 + 3 := by rw [← Nat.succ_mul]; congr 1; omega
    rw [laws_markChangeS_r0_0_eq]
    simp only [Int.ofNat_lt, hi, decide_true, branch_true, Int.natCast_nonneg, Bool.and_true, guarded_true, wrap_upL (Nat.lt_of_lt_of_le hi hl), List.getElem_toArray, List.getElem_cons_zero, List.getElem_cons_succ, Nat.zero_add, Nat.add_zero, Int.toNat_natCast, d_markText, Option.bind_some, svLeafK_leaf, strK_str]
    have b0 : i * 3 + 1 ≤ (rowAt (rowChange n k) i z).length := by rw [hlen]; omega
    simp only [b0, decide_true, guarded_true]
    have b1 : ∀ l : List (SV false), l.length = 1 → i * 3 + 1 + 1 ≤ (putAt (rowAt (rowChange n k) i z) (i * 3) l).length := fun l hl0 => by rw [putAt_length (by rw [hl0, hlen]; omega), hlen]; omega
    have j1 : ∀ (l : List (SV false)) (x : SV false), l.length = 1 → putAt (putAt (rowAt (rowChange n k) i z) (i * 3) l) (i * 3 + 1) [x] = putAt (rowAt (rowChange n k) i z) (i * 3) (l ++ [x]) := fun l x hl0 => putAt_two (by rw [hl0]) (by rw [hl0, hlen]; simp; omega)
    have b2 : ∀ l : List (SV false), l.length = 2 → i * 3 + 2 + 1 ≤ (putAt (rowAt (rowChange n k) i z) (i * 3) l).length := fun l hl0 => by rw [putAt_length (by rw [hl0, hlen]; omega), hlen]; omega
    have j2 : ∀ (l : List (SV false)) (x : SV false), l.length = 2 → putAt (putAt (rowAt (rowChange n k) i z) (i * 3) l) (i * 3 + 2) [x] = putAt (rowAt (rowChange n k) i z) (i * 3) (l ++ [x]) := fun l x hl0 => putAt_two (by rw [hl0]) (by rw [hl0, hlen]; simp; omega)
    rw [decide_eq_true (b1 _ rfl), guarded_true, j1 _ _ rfl]
    simp only [List.cons_append, List.nil_append]
    rw [decide_eq_true (b2 _ rfl), guarded_true, j2 _ _ rfl]
    simp only [List.cons_append, List.nil_append]
    rw [hp]
    have hz2 : (z.drop 3).all SV.flat = true := List.all_eq_true.2 fun x hx => List.all_eq_true.1 hz x (List.mem_of_mem_drop hx)
    have := ih (z.drop 3) hz2 (by rw [List.length_drop]; omega)
    rw [endChange_succ] at this
    simp only [nextChange] at this
    rw [this, List.drop_drop, hd, Nat.add_comm 3]
theorem d_laws_markChangeS_r {n : Nat} {k : Int} (hl : n ≤ maxLen) {z : List (SV false)} (hz : z.all SV.flat = true) (hzl : n * 3 ≤ z.length) :
    Dn F.laws_markChangeS [.bsl 0 3 0 n, vint k] [z] = some (vint (endChange n k), [rowAt (rowChange n k) n (z.drop (n * 3))]) := by
  refine den_of ?_
  rw [run_laws_markChangeS_r0]
  have := laws_markChangeS_rfrom (n := n) (k := k) hl 0 (Nat.zero_le _) z hz (by simpa using hzl)
  simpa [rowAt, endChange] using this
theorem laws_heldChangeS_from {n : Nat} {k : Int} (hl : n ≤ maxLen) {z : List (SV false)} (hz : z.all SV.flat = true) : ∀ i : Nat, i ≤ n →
    laws_heldChangeS_r0_A Dn (laws_heldChangeS_r0_0 n (endChange i k) i (rowAt (rowChange n k) n z)) = some (vint (endChange n k), [rowAt (rowChange n k) n z]) := by
  have hN := rowChange_length n k
  have hall := rowChange_all n k
  have hf := rowAt_flat (l := rowChange n k) (i := n) hz
  refine upto_ind ?_ ?_
  · rw [laws_heldChangeS_r0_0_eq]
    simp [hf]
  · intro i hi ih
    have hi' : i < (rowChange n k).length := by omega
    rw [endChange_succ] at ih
    simp only [nextChange] at ih
    rw [laws_heldChangeS_r0_0_eq]
    simp only [Int.ofNat_lt, hi, decide_true, branch_true, Int.natCast_nonneg, Bool.and_true, guarded_true, wrap_upL (Nat.lt_of_lt_of_le hi hl), List.getElem_toArray, List.getElem_cons_zero, List.getElem_cons_succ, Nat.zero_add, Nat.add_zero, Int.toNat_natCast, d_markText, Option.bind_some, svLeafK_leaf, strK_str]
    have get : ∀ (o p : Nat) (ho : o < 3) (hp : p = i * 3 + o) (kk : SV false → Res), atSV (rowAt (rowChange n k) n z) p kk = kk (.leaf ((mkChange (endChange i k))[o]'ho)) := fun o p ho hp kk => by
      have := atSV_row (r := z) hall hi' ho hp kk
      rw [hN] at this
      rw [this]
      simp only [rowChange_get]
      try rfl
    rw [get 0 _ (by omega) (by omega)]
    simp only [mkChange, List.getElem_cons_zero, List.getElem_cons_succ, SV.drop, svLeafK_leaf, intK_int, strK_str, bne_self_eq_false, beq_self_eq_true, Bool.not_true, branch_false]
    rw [get 1 _ (by omega) (by omega)]
    simp only [mkChange, List.getElem_cons_zero, List.getElem_cons_succ, SV.drop, svLeafK_leaf, intK_int, strK_str, bne_self_eq_false, beq_self_eq_true, Bool.not_true, branch_false]
    rw [get 2 _ (by omega) (by omega)]
    simp only [mkChange, List.getElem_cons_zero, List.getElem_cons_succ, SV.drop, svLeafK_leaf, intK_int, strK_str, bne_self_eq_false, beq_self_eq_true, Bool.not_true, branch_false]
    exact ih
theorem d_laws_heldChangeS_r {n : Nat} {k : Int} (hl : n ≤ maxLen) {z : List (SV false)} (hz : z.all SV.flat = true) :
    Dn F.laws_heldChangeS [.bsl 0 3 0 n, vint k] [rowAt (rowChange n k) n z] = some (vint (endChange n k), [rowAt (rowChange n k) n z]) := by
  refine den_of ?_
  rw [run_laws_heldChangeS_r0]
  have := laws_heldChangeS_from (n := n) (k := k) hl hz 0 (Nat.zero_le _)
  simpa [endChange] using this
theorem d_laws_markChangeS_nil (k : Int) : Dn F.laws_markChangeS [vsl [], vint k] [] = some (vint k, []) := by
  refine den_of ?_
  rw [run_laws_markChangeS, laws_markChangeS_0_eq]
  simp
theorem d_laws_heldChangeS_nil (k : Int) : Dn F.laws_heldChangeS [vsl [], vint k] [] = some (vint k, []) := by
  refine den_of ?_
  rw [run_laws_heldChangeS, laws_heldChangeS_0_eq]
  simp
end Go.Vs
end
section
namespace Go.Vs
mutual
theorem reF_er (c : Fl true) : ∀ l : Leaf false, reF er (reF (fl c) l) = l
  | .sl _ es => by rw [reF, reF, reE_er c es]; cases ‹Fl false›; rfl
  | .bool _ | .int _ _ | .str _ | .unk | .nl _ => by simp [reF]
theorem reL_er (c : Fl true) : ∀ l : List (Leaf false), reL er (reL (fl c) l) = l
  | [] => by rw [reL, reL]
  | l :: r => by rw [reL, reL, reF_er c l, reL_er c r]
theorem reE_er (c : Fl true) : ∀ l : List (List (Leaf false)), reE er (reE (fl c) l) = l
  | [] => by rw [reE, reE]
  | l :: r => by rw [reE, reE, reL_er c l, reE_er c r]
end
theorem reE_append {m m' : Bool} {φ : Fl m → Fl m'} (a b : List (List (Leaf m))) : reE φ (a ++ b) = reE φ a ++ reE φ b := by rw [reE_map, reE_map, reE_map, List.map_append]
theorem reS_sl (c : Fl true) (es : List (List (Leaf false))) : reS er (.leaf (.sl c (reE (fl c) es))) = vsl es := by
  simp only [reS, reF, reE_er]
theorem reS_agg (c : Fl true) (ls : List (Leaf false)) : reS er (.agg (reL (fl c) ls)) = .agg ls := by
  simp only [reS, reL_er]
end Go.Vs
end
section
open Go Go.Vs Go.Proofs
set_option linter.unusedVariables false
set_option linter.unusedSimpArgs false
set_option maxRecDepth 100000
namespace Go.Vs
theorem hP : Try.prog.follows .mixedOrders = true := by kernel_rfl
theorem hG : Try.prog.funcs.all (fun fn => !(fn.name == "runtime.NumGoroutine")) = true := by kernel_rfl
theorem dn_sound {N : Env} : DSound Try.prog N Dn := den_sound hP hG told_sound Hs
theorem dd0_sound {N : Env} : DSound Try.prog N Dd0 := den_sound hP hG (liftT_sound dn_sound keep0) Hs
theorem dd_sound {N : Env} : DSound Try.prog N Dd := den_sound hP hG (withT_sound (two_sound dd0_sound (lifted_sound dn_sound)) (liftT_sound dn_sound keep)) Hs
section
variable {c : Fl true}
theorem reS_er_li {x : SV false} (h : x.flat = true) : reS er (reS li x) = x := by
  have e : ∀ es : List (List (Leaf false)), reE er (reE li es) = es := fun es => reE_er fOld es
  cases x <;> simp [SV.flat] at h <;> simp only [reS]
  · rw [show reF er (reF li _) = _ from reF_er fOld _]
  · rw [e]
  · rw [e]
  · rw [show reL er (reL li _) = _ from reL_er fOld _]
theorem map_er_li : ∀ {l : List (SV false)}, l.all SV.flat = true → (l.map (reS li)).map (reS er) = l
  | [], _ => rfl
  | x :: l, h => by
    rw [List.all_cons, Bool.and_eq_true] at h
    rw [List.map_cons, List.map_cons, reS_er_li h.1, map_er_li h.2]
theorem map_flat {l : List (SV false)} (h : l.all SV.flat = true) : (l.map (reS li)).all SV.flat = true := by
  rw [List.all_map]
  exact List.all_eq_true.2 fun x hx => reS_flat x (List.all_eq_true.1 h x hx)
noncomputable def marked (n k : Nat) : List (SV false) := rowAt (rowChange n 1) n ((List.replicate k SV.any).drop (n * 3))
theorem any_flat (k : Nat) : (List.replicate k (SV.any (m := false))).all SV.flat = true := by
  rw [List.all_eq_true]; intro x hx; rw [List.eq_of_mem_replicate hx]; rfl
theorem drop_flat {l : List (SV false)} (h : l.all SV.flat = true) (n : Nat) : (l.drop n).all SV.flat = true :=
  List.all_eq_true.2 fun x hx => List.all_eq_true.1 h x (List.mem_of_mem_drop hx)
theorem marked_flat (n k : Nat) : (marked n k).all SV.flat = true := rowAt_flat (drop_flat (any_flat k) _)
theorem t_markChangeS_r {n k : Nat} (hl : n ≤ maxLen) (hk : n * 3 ≤ k) : Dd F.laws_markChangeS [.bsl 0 3 0 n, .leaf (.int .i64 1)] [List.replicate k .any] = some (.leaf (.int .i64 (endChange n 1)), [(marked n k).map (reS li)]) :=
  dd_mark (by
    show lifted Dn F.laws_markChangeS _ _ = _
    unfold lifted
    have e1 : List.map (List.map (reS er)) [List.replicate k (SV.any (m := true))] = [List.replicate k .any] := by rw [List.map_cons, List.map_replicate]; rfl
    rw [e1, show List.map (reS er) [SV.bsl 0 3 0 n, SV.leaf (Leaf.int IntKind.i64 1)] = [SV.bsl 0 3 0 n, vint 1] from rfl, show Dn F.laws_markChangeS [SV.bsl 0 3 0 n, vint 1] [List.replicate k SV.any] = _ from d_laws_markChangeS_r (k := 1) hl (any_flat k) (by rw [List.length_replicate]; exact hk)]
    rfl)
theorem t_heldChangeS_r {n k : Nat} (hl : n ≤ maxLen) : Dd F.laws_heldChangeS [.bsl 0 3 0 n, .leaf (.int .i64 1)] [(marked n k).map (reS li)] = some (.leaf (.int .i64 (endChange n 1)), [(marked n k).map (reS li)]) :=
  dd_told rfl (d_laws_heldChangeS_r (k := 1) hl (drop_flat (any_flat k) _)) rfl (by rw [List.map_cons, map_er_li (marked_flat n k)]; rfl) rfl
theorem endChange_le : ∀ (n : Nat) (k : Int), 0 ≤ k → k + 3 * n ≤ cap → 0 ≤ endChange n k
  | 0, k, h, _ => h
  | n + 1, k, h, hc => by
    rw [endChange]
    have e : nextChange k = k + 3 := by
      unfold nextChange
      simp only [cap] at hc
      rw [wrap64 (z := k + 1) (by omega) (by omega), wrap64 (z := k + 1 + 1) (by omega) (by omega), wrap64 (z := k + 1 + 1 + 1) (by omega) (by omega)]; omega
    rw [e]
    exact endChange_le n _ (by omega) (by omega)
end
end Go.Vs
end
section
open Go Go.Vs Go.Proofs
set_option linter.unusedVariables false
set_option linter.unusedSimpArgs false
set_option maxRecDepth 100000
namespace Go.Vs
noncomputable abbrev body : Code := bodyOf Try.prog F.laws_FnExactOfClass
theorem hc0 : (fnOf Try.prog F.laws_FnExactOfClass).body = some body := by kernel_rfl
theorem hfn : Try.prog.funcs[F.laws_FnExactOfClass]? = some (fnOf Try.prog F.laws_FnExactOfClass) := by kernel_rfl
theorem spA : spine (0 + (4 + 1)) body = true := by kernel_rfl
theorem spB : spine (5 + (0 + 1)) body = true := by kernel_rfl
theorem spC : spine (6 + (2 + 1)) body = true := by kernel_rfl
theorem spD : spine (9 + (2 + 1)) body = true := by kernel_rfl
theorem nlD : noLoop (sub body (way 12)) = true := by kernel_rfl
structure Fits (x0 : List (List (Leaf false))) (x1 : Int) (w : List (List (Leaf false))) : Prop where
  wl : w.length ≤ maxLen
  wc : (w.length : Int) * 3 + 1 ≤ cap
  wq : ∀ e ∈ w, IsChange e
  spc : ∀ c0 : Fl true, Dd F.spec_OfClass [.leaf (.sl c0 (reE (fl c0) x0)), .leaf (.int .i64 x1)] [] = some (.own (some T.impl_Change) (reE (fl fOld) w), [])
  imp : ∀ c0 : Fl true, Dd F.impl_OfClass [.leaf (.sl c0 (reE (fl c0) x0)), .leaf (.int .i64 x1)] [] = some (.leaf (.sl fNew (reE (fl fNew) w)), [])
  mn : ¬ mkE x0 (1) < 0
  to0 : ∀ c : Fl true, Dd F.laws_toChangeS [.leaf (.sl c (reE (fl c) x0))] [] = some (.leaf (.sl fNew (reE (fl fNew) x0)), [])
  eq0 : ∀ c c' : Fl true, Dd F.laws_eqChangeS [.leaf (.sl c (reE (fl c) x0)), .leaf (.sl c' (reE (fl c') x0))] [] = some (.leaf (.bool true), [])
  mk0 : ∀ k : Int, Dd F.laws_markChangeS [.leaf (.sl fSoft (soE x0)), .leaf (.int .i64 k)] [] = some (.leaf (.int .i64 (mkE x0 (k))), [])
section
variable {x0 : List (List (Leaf false))} {x1 : Int} {w : List (List (Leaf false))}
theorem Fits.eqw (h : Fits x0 x1 w) (c c' : Fl true) : Dd F.laws_eqChangeS [.leaf (.sl c (reE (fl c) w)), .leaf (.sl c' (reE (fl c') w))] [] = some (.leaf (.bool true), []) :=
  dd_told rfl (d_laws_eqChangeS h.wl h.wq) (by rw [List.map_cons, List.map_cons, reS_sl, reS_sl]; rfl) rfl rfl
theorem turn1_eq : Vs.turn φ1 (fun _ => false) [] ({ tmps := ((laws_FnExactOfClass_s1 fOld (reE (fl fOld) x0) x1 fOld (reE (fl fOld) w)).tmps.set 6 (.own (some T.impl_Change) (reE (fl fOld) w))), boxes := (laws_FnExactOfClass_s1 fOld (reE (fl fOld) x0) x1 fOld (reE (fl fOld) w)).boxes } : St true) = laws_FnExactOfClass_s1 (φ1 fOld) (tuE φ1 (fun _ => false) false (reE (fl fOld) x0)) x1 (φ1 fNew) (tuE φ1 (fun _ => false) false (reE (fl fOld) w)) := by
  kernel_rfl
theorem turn2_eq : Vs.turn φ2 (fun _ => false) [] ({ tmps := (laws_FnExactOfClass_s2 tA (reE (fl tA) x0) x1 tA (reE (fl tA) w) fNew (reE (fl fNew) x0)).tmps, boxes := (laws_FnExactOfClass_s2 tA (reE (fl tA) x0) x1 tA (reE (fl tA) w) fNew (reE (fl fNew) x0)).boxes } : St true) = laws_FnExactOfClass_s2 (φ2 tA) (tuE φ2 (fun _ => false) false (reE (fl tA) x0)) x1 (φ2 tA) (tuE φ2 (fun _ => false) false (reE (fl tA) w)) (φ2 fNew) (tuE φ2 (fun _ => false) false (reE (fl fNew) x0)) := by
  kernel_rfl
theorem turn3_eq : Vs.turn φ3 σ3 [] (laws_FnExactOfClass_s3 tA (reE (fl tA) x0) x1 tA (reE (fl tA) w) tX (reE (fl tX) x0) fNew (reE (fl fNew) w) : St true) = laws_FnExactOfClass_s3 (if σ3 tA then fSoft else φ3 tA) (tuE φ3 σ3 (σ3 tA) (reE (fl tA) x0)) x1 (if σ3 tA then fSoft else φ3 tA) (tuE φ3 σ3 (σ3 tA) (reE (fl tA) w)) (if σ3 tX then fSoft else φ3 tX) (tuE φ3 σ3 (σ3 tX) (reE (fl tX) x0)) (if σ3 fNew then fSoft else φ3 fNew) (tuE φ3 σ3 (σ3 fNew) (reE (fl fNew) w)) := by
  kernel_rfl
theorem row_eq (n k : Nat) : rowSt (Vs.turn φ4 (fun _ => false) [8] (laws_FnExactOfClass_s4 tA (reE (fl tA) x0) x1 tA (reE (fl tA) w) tG (reE (fl tG) w))) 8 3 n k = laws_FnExactOfClass_s4r (φ4 tA) (tuE φ4 (fun _ => false) false (reE (fl tA) x0)) x1 (φ4 tA) (tuE φ4 (fun _ => false) false (reE (fl tA) w)) n (List.replicate k .any) := by
  kernel_rfl
theorem slots2 : slotsOk p2 ({ tmps := (laws_FnExactOfClass_s2 tA (reE (fl tA) x0) x1 tA (reE (fl tA) w) fNew (reE (fl fNew) x0)).tmps, boxes := (laws_FnExactOfClass_s2 tA (reE (fl tA) x0) x1 tA (reE (fl tA) w) fNew (reE (fl fNew) x0)).boxes } : St true).boxes [] 0 ({ tmps := (laws_FnExactOfClass_s2 tA (reE (fl tA) x0) x1 tA (reE (fl tA) w) fNew (reE (fl fNew) x0)).tmps, boxes := (laws_FnExactOfClass_s2 tA (reE (fl tA) x0) x1 tA (reE (fl tA) w) fNew (reE (fl fNew) x0)).boxes } : St true).tmps = true := by
  simp [slotsOk, slotOkB, slotOk, boxAt, asLeaves, asLeaf, laws_FnExactOfClass_s2, allF, allL, isTQ, allE_re (p := p2) (c := tA) rfl, allE_re (p := p2) (c := fNew) rfl, show p2 tA = true from rfl, show p2 fNew = true from rfl]
theorem slots3 : slotsOk p3 (laws_FnExactOfClass_s3 tA (reE (fl tA) x0) x1 tA (reE (fl tA) w) tX (reE (fl tX) x0) fNew (reE (fl fNew) w) : St true).boxes [] 0 (laws_FnExactOfClass_s3 tA (reE (fl tA) x0) x1 tA (reE (fl tA) w) tX (reE (fl tX) x0) fNew (reE (fl fNew) w) : St true).tmps = true := by
  simp [slotsOk, slotOkB, slotOk, boxAt, laws_FnExactOfClass_s3, allF, allL, isTQ, Fl.new, allE_re (p := p3) (c := tA) rfl, allE_re (p := p3) (c := tX) rfl, allE_re (p := p3) (c := fNew) rfl, show p3 tA = true from rfl, show p3 tX = true from rfl, show p3 fNew = true from rfl]
theorem slots4 : slotsOk p4 (laws_FnExactOfClass_s4 tA (reE (fl tA) x0) x1 tA (reE (fl tA) w) tG (reE (fl tG) w)).boxes [8] 0 (laws_FnExactOfClass_s4 tA (reE (fl tA) x0) x1 tA (reE (fl tA) w) tG (reE (fl tG) w)).tmps = true := by
  simp [slotsOk, slotOkB, slotOk, laws_FnExactOfClass_s4, allF, allL, isTQ, allE_re (p := p4) (c := tA) rfl, show p4 tA = true from rfl]
theorem law_c4 (h : Fits x0 x1 w) {W w' : World} {act : Act} {A B : Nat} {w0 : World} {F2 F3 : Fr} {hB0 : B ≤ w0.heap.size} {Fx : Fr} {Ow : Own} {bm : Nat → Nat} (hA : W.heap.size ≤ A) (hAB : A ≤ B) (hB : B ≤ w'.heap.size)
    (on : OnWay Try.prog (fnOf Try.prog F.laws_FnExactOfClass) W (N3 w0 A B F2 F3 hB0) (laws_FnExactOfClass_s4 tA (reE (fl tA) x0) x1 tA (reE (fl tA) w) tG (reE (fl tG) w)) act w' Fx Ow bm) :
    (sub body (way 12)).wp Try.prog (bodyPost Try.prog (fnOf Try.prog F.laws_FnExactOfClass) (Good W)) act w' := by
  by_cases hw : w = []
  · have eqw0 := h.eqw
    have im0 := h.imp
    have mkn : ∀ (c : Fl true) (k : Int), Dd F.laws_markChangeS [.leaf (.sl c []), .leaf (.int .i64 k)] [] = some (.leaf (.int .i64 k), []) := fun c k => t_laws_markChangeS_nil c k
    have hdn : ∀ (c : Fl true) (k : Int), Dd F.laws_heldChangeS [.leaf (.sl c []), .leaf (.int .i64 k)] [] = some (.leaf (.int .i64 k), []) := fun c k => dd_told rfl (d_laws_heldChangeS_nil k) (by simp [reS, reF, reE]) rfl rfl
    rw [hw] at on
    simp only [hw, reE] at eqw0 im0
    refine stretch_last (H := Hs) hP dd_sound hfn hc0 spD nlD on fun J => ?_
    simp only [reE]
    rw [laws_FnExactOfClass_c4]
    simp -implicitDefEqProofs only [mkn, hdn, Option.bind_some, svLeafK_leaf, svSlK_leaf, svOwnK_own, svAggK_agg, atK_zero, atK_succ, intK_int, strK_str, boolK_bool, slK_sl, List.length_cons, List.length_nil, beq_self_eq_true, guarded_true, h.to0, im0, eqw0, show decide ((1 : Int) < 0) = false from rfl, branch_false, bne_self_eq_false, Bool.not_true, lastB_nil]
  · have hpos : 0 < w.length := List.length_pos_iff.2 hw
    have hez : ∀ e ∈ reE (fl tG) w, e.length = 3 := reE_all fun e he => (h.wq e he).len
    obtain ⟨k, F', Ow', bm', R, hk, on'⟩ := turn4 on hA hB hAB [8] (t := 8) (of_decide_eq_true (by kernel_rfl)) (of_decide_eq_true (by kernel_rfl)) (es := reE (fl tG) w) (z := 3) rfl (by rw [reE_length]; exact hpos) hez slots4
    rw [row_eq] at on'
    simp only [tuE_fl (φ := φ4) (σ := fun _ => false) (c := tA) rfl, show φ4 tA = tA from rfl, reE_length] at on'
    rw [reE_length] at hk
    refine stretch_last (H := Hs) hP dd_sound hfn hc0 spD nlD on' fun J => ?_
    have hm := t_markChangeS_r (k := k) h.wl hk
    have hd := t_heldChangeS_r (n := w.length) (k := k) h.wl
    have hf1 : ([List.replicate k (SV.any (m := true))].all fun (x : List (SV true)) => x.all SV.flat) = true := by
      simp only [List.all_cons, List.all_nil, Bool.and_true]
      rw [List.all_eq_true]; intro x hx; rw [List.eq_of_mem_replicate hx]; rfl
    have hf2 : ([(marked w.length k).map (reS li)].all fun (x : List (SV true)) => x.all SV.flat) = true := by
      simp only [List.all_cons, List.all_nil, Bool.and_true]
      exact map_flat (marked_flat _ _)
    have he : ¬ endChange w.length 1 < 0 := by
      have := endChange_le w.length 1 (by omega) (by have := h.wc; simp only [cap] at *; omega)
      omega
    rw [laws_FnExactOfClass_c4r]
    simp -implicitDefEqProofs only [hf1, hm, hd, Option.bind_some, svLeafK_leaf, svSlK_leaf, svOwnK_own, svAggK_agg, atK_zero, atK_succ, intK_int, strK_str, boolK_bool, slK_sl, List.length_cons, List.length_nil, beq_self_eq_true, guarded_true, headB_cons, lastB_nil, hf2, h.to0, h.imp, h.eqw, he, decide_false, branch_false, bne_self_eq_false, Bool.not_true]
theorem law_c3 (h : Fits x0 x1 w) {W w' : World} {act : Act} {A B : Nat} {F2 : Fr} {Fx : Fr} {Ow : Own} {bm : Nat → Nat} (hA : W.heap.size ≤ A) (hAB : A ≤ B) (hB : B ≤ w'.heap.size)
    (on : OnWay Try.prog (fnOf Try.prog F.laws_FnExactOfClass) W (N2 A B F2) (laws_FnExactOfClass_s3 tA (reE (fl tA) x0) x1 tA (reE (fl tA) w) tX (reE (fl tX) x0) fNew (reE (fl fNew) w) : St true) act w' Fx Ow bm) :
    (sub body (way 9)).wp Try.prog (bodyPost Try.prog (fnOf Try.prog F.laws_FnExactOfClass) (Good W)) act w' := by
  have on' := turn3 on hA hB hAB [] slots3
  rw [turn3_eq] at on'
  simp only [show σ3 tA = false from rfl, show σ3 tX = true from rfl, show σ3 fNew = false from rfl, tuE_fl (φ := φ3) (σ := σ3) (c := tA) rfl, tuE_fl (φ := φ3) (σ := σ3) (c := fNew) rfl, tuE_so (φ := φ3) (σ := σ3) (c := tX) rfl, Bool.false_eq_true, if_false, if_true, show φ3 tA = tA from rfl, show φ3 fNew = tG from rfl] at on'
  refine stretch (H := Hs) (s1 := laws_FnExactOfClass_s4 tA (reE (fl tA) x0) x1 tA (reE (fl tA) w) tG (reE (fl tG) w)) hP dd_sound hfn hc0 spD on' (fun J => ?_) fun a' w2 F' Ow' bm' on2 far => ?_
  · rw [laws_FnExactOfClass_c3]
    simp -implicitDefEqProofs only [h.mk0, Option.bind_some, svLeafK_leaf, svSlK_leaf, svOwnK_own, svAggK_agg, atK_zero, atK_succ, intK_int, strK_str, boolK_bool, slK_sl, List.length_cons, List.length_nil, beq_self_eq_true, guarded_true, decide_eq_false h.mn, branch_true, h.eqw, Bool.not_true, branch_false]
    rfl
  · exact law_c4 h hA hAB (Nat.le_trans hB far.size) on2
theorem law_c2 (h : Fits x0 x1 w) {W w' : World} {act : Act} {A : Nat} {Fx : Fr} {Ow : Own} {bm : Nat → Nat} (hA : W.heap.size ≤ A) (hB : A ≤ w'.heap.size)
    (on : OnWay Try.prog (fnOf Try.prog F.laws_FnExactOfClass) W (N1 A) ({ tmps := (laws_FnExactOfClass_s2 tA (reE (fl tA) x0) x1 tA (reE (fl tA) w) fNew (reE (fl fNew) x0)).tmps, boxes := (laws_FnExactOfClass_s2 tA (reE (fl tA) x0) x1 tA (reE (fl tA) w) fNew (reE (fl fNew) x0)).boxes } : St true) act w' Fx Ow bm) :
    (sub body (way 6)).wp Try.prog (bodyPost Try.prog (fnOf Try.prog F.laws_FnExactOfClass) (Good W)) act w' := by
  have on' := turn2 on [] slots2
  rw [turn2_eq] at on'
  simp only [tuE_fl (φ := φ2) (σ := fun _ => false) (c := tA) rfl, tuE_fl (φ := φ2) (σ := fun _ => false) (c := fNew) rfl, show φ2 tA = tA from rfl, show φ2 fNew = tX from rfl] at on'
  refine stretch (H := Hs) (s1 := laws_FnExactOfClass_s3 tA (reE (fl tA) x0) x1 tA (reE (fl tA) w) tX (reE (fl tX) x0) fNew (reE (fl fNew) w)) hP dd_sound hfn hc0 spC on' (fun J => ?_) fun a' w2 F' Ow' bm' on2 far => ?_
  · rw [laws_FnExactOfClass_c2]
    simp -implicitDefEqProofs only [h.to0, h.imp, h.eq0, Option.bind_some, svLeafK_leaf, svSlK_leaf, svOwnK_own, svAggK_agg, atK_zero, atK_succ, intK_int, strK_str, boolK_bool, slK_sl, List.length_cons, List.length_nil, beq_self_eq_true, guarded_true, h.eqw, Bool.not_true, branch_false]
    rfl
  · exact law_c3 h hA hB far.size on2
theorem law_c1 (h : Fits x0 x1 w) {W w' : World} {act : Act} {A : Nat} {Fx : Fr} {Ow : Own} {bm : Nat → Nat} (hA : W.heap.size ≤ A) (hB : A ≤ w'.heap.size)
    (on : OnWay Try.prog (fnOf Try.prog F.laws_FnExactOfClass) W (N1 A) (laws_FnExactOfClass_s1 tA (reE (fl tA) x0) x1 tA (reE (fl tA) w)) act w' Fx Ow bm) :
    (sub body (way 5)).wp Try.prog (bodyPost Try.prog (fnOf Try.prog F.laws_FnExactOfClass) (Good W)) act w' := by
  refine stretch (H := Hs) (s1 := { tmps := (laws_FnExactOfClass_s2 tA (reE (fl tA) x0) x1 tA (reE (fl tA) w) fNew (reE (fl fNew) x0)).tmps, boxes := (laws_FnExactOfClass_s2 tA (reE (fl tA) x0) x1 tA (reE (fl tA) w) fNew (reE (fl fNew) x0)).boxes }) hP dd_sound hfn hc0 spB on (fun J => ?_) fun a' w2 F' Ow' bm' on2 far => ?_
  · rw [laws_FnExactOfClass_c1]
    simp -implicitDefEqProofs only [h.to0, Option.bind_some, svLeafK_leaf, svSlK_leaf, svOwnK_own, svAggK_agg, atK_zero, atK_succ, intK_int, strK_str, boolK_bool, slK_sl, List.length_cons, List.length_nil, beq_self_eq_true, guarded_true]
    rfl
  · exact law_c2 h hA (Nat.le_trans hB far.size) on2
theorem law_c0 (sz0 : ∀ (c : Fl true) (n : Int), 0 ≤ n → Dd F.laws_szChangeS [.leaf (.sl c (reE (fl c) x0)), .leaf (.int .i64 n)] [] = some (.leaf (.int .i64 (szF (.sl fP x0) n)), [])) (fits : 0 ≤ szF (.sl fP x0) 1048576 → Fits x0 x1 w) {W : World} {act : Act} {Fx : Fr} {Ow : Own} {bm : Nat → Nat}
    (on : OnWay Try.prog (fnOf Try.prog F.laws_FnExactOfClass) W (N0 W) (laws_FnExactOfClass_s0 fOld (reE (fl fOld) x0) x1) act W Fx Ow bm) :
    (sub body (way 0)).wp Try.prog (bodyPost Try.prog (fnOf Try.prog F.laws_FnExactOfClass) (Good W)) act W := by
  by_cases hn0 : szF (.sl fP x0) 1048576 < 0
  · refine stretch_left (H := Hs) hP dd_sound hfn hc0 spA on fun J => ?_
    rw [laws_FnExactOfClass_c0]
    simp -implicitDefEqProofs only [sz0 fOld 1048576 (by omega), Option.bind_some, svLeafK_leaf, svSlK_leaf, svOwnK_own, svAggK_agg, atK_zero, atK_succ, intK_int, strK_str, boolK_bool, slK_sl, List.length_cons, List.length_nil, beq_self_eq_true, guarded_true, decide_eq_true hn0, branch_true, branch_false]
  · have h := fits (by omega)
    refine stretch (H := Hs) (s1 := { tmps := ((laws_FnExactOfClass_s1 fOld (reE (fl fOld) x0) x1 fOld (reE (fl fOld) w)).tmps.set 6 (.own (some T.impl_Change) (reE (fl fOld) w))), boxes := (laws_FnExactOfClass_s1 fOld (reE (fl fOld) x0) x1 fOld (reE (fl fOld) w)).boxes }) hP dd_sound hfn hc0 spA on (fun J => ?_) fun a' w2 F' Ow' bm' on2 far => ?_
    · rw [laws_FnExactOfClass_c0]
      simp -implicitDefEqProofs only [sz0 fOld 1048576 (by omega), Option.bind_some, svLeafK_leaf, svSlK_leaf, svOwnK_own, svAggK_agg, atK_zero, atK_succ, intK_int, strK_str, boolK_bool, slK_sl, List.length_cons, List.length_nil, beq_self_eq_true, guarded_true, decide_eq_false hn0, branch_true, branch_false, h.to0, h.spc]
      rfl
    · have on3 := turn1 on2 (fun _ => rfl) []
      rw [turn1_eq] at on3
      simp only [tuE_fl (φ := φ1) (σ := fun _ => false) (c := fOld) rfl, show φ1 fOld = tA from rfl, show φ1 fNew = tA from rfl] at on3
      exact law_c1 h far.size (Nat.le_refl _) on3
end
end Go.Vs
end
section
set_option linter.unusedVariables false
namespace Go.Vs
open Go
variable {m : Bool}
theorem rowC_app (a b : List (List (Leaf m))) : rowC (a ++ b) = rowC a ++ rowC b := by simp [rowC]
theorem rowC_cons (e : List (Leaf m)) (b : List (List (Leaf m))) : rowC (e :: b) = e.map SV.leaf ++ rowC b := by simp [rowC]
theorem rowC_len {z : Nat} {L : List (List (Leaf m))} (h : ∀ e ∈ L, e.length = z) : (rowC L).length = L.length * z := by unfold rowC; rw [List.length_map, flatten_len h]
theorem rowC_split {z i : Nat} {L : List (List (Leaf m))} (h : ∀ e ∈ L, e.length = z) (hi : i ≤ L.length) : rowC L = rowC (L.take i) ++ rowC (L.drop i) ∧ (rowC (L.take i)).length = i * z := by
  refine ⟨by rw [← rowC_app, List.take_append_drop], ?_⟩
  rw [rowC_len (fun e he => h e (List.mem_of_mem_take he)), List.length_take, Nat.min_eq_left hi]
theorem rowC_get {z i : Nat} {L : List (List (Leaf m))} (h : ∀ e ∈ L, e.length = z) (hi : i < L.length) : asLeaves (((rowC L).drop (i * z)).take z) = some L[i] := by
  obtain ⟨h1, h2⟩ := rowC_split h (Nat.le_of_lt hi)
  rw [h1, List.drop_left' h2, List.drop_eq_getElem_cons hi, rowC_cons, List.take_left' (by rw [List.length_map]; exact h _ (List.getElem_mem hi))]
  exact asLeaves_map _
theorem rowC_put {z i : Nat} {L : List (List (Leaf m))} {e : List (Leaf m)} (h : ∀ e ∈ L, e.length = z) (hi : i < L.length) (he : e.length = z) : putAt (rowC L) (i * z) (e.map SV.leaf) = rowC (L.set i e) := by
  obtain ⟨h1, h2⟩ := rowC_split h (Nat.le_of_lt hi)
  unfold putAt
  rw [h1, List.take_left' h2, List.length_map, he, List.drop_append, h2, List.drop_of_length_le (by omega), List.nil_append, Nat.add_sub_cancel_left, List.drop_eq_getElem_cons hi, rowC_cons, List.drop_left' (by rw [List.length_map]; exact h _ (List.getElem_mem hi)),
    List.set_eq_take_append_cons_drop, if_pos hi, rowC_app, rowC_cons, List.append_assoc]
theorem rowC_front {z w : Nat} {L : List (List (Leaf m))} (h : ∀ e ∈ L, e.length = z) (hw : w ≤ L.length) (T : List (SV m)) : asLeaves ((putAt (rowC L) (w * z) T).take (w * z)) = some (L.take w).flatten := by
  obtain ⟨h1, h2⟩ := rowC_split h hw
  unfold putAt
  rw [h1, List.take_left' h2, List.append_assoc, List.take_left' h2]
  exact asLeaves_map _
theorem chunks_front {z w : Nat} {L : List (List (Leaf m))} (h : ∀ e ∈ L, e.length = z) (hw : w ≤ L.length) : chunks z w (L.take w).flatten = L.take w := by
  have := chunks_flatten (z := z) (l := L.take w) (fun e he => h e (List.mem_of_mem_take he))
  rwa [List.length_take, Nat.min_eq_left hw] at this
theorem rowC_all {p : SV m → Bool} {L : List (List (Leaf m))} (hp : ∀ l : Leaf m, p (.leaf l) = true) : (rowC L).all p = true := by
  rw [List.all_eq_true]; intro x hx
  unfold rowC at hx
  obtain ⟨l, _, rfl⟩ := List.mem_map.1 hx
  exact hp l
theorem putAt_len {v l : List (SV m)} {p : Nat} (h : p + l.length ≤ v.length) : (putAt v p l).length = v.length := putAt_length h
theorem idxP_first (p : El → Bool) : ∀ (es : List El) (i j : Nat), idxP p (i : Int) es = (j : Int) → ∃ h : j - i < es.length, i ≤ j ∧ p es[j - i] = true ∧ (es.take (j - i)).filter (fun e => !p e) = es.take (j - i)
  | [], i, j, h => by simp [idxP] at h
  | e :: es, i, j, h => by
    unfold idxP at h
    by_cases hp : p e = true
    · rw [if_pos hp] at h
      have : i = j := by omega
      subst this
      exact ⟨by simp, Nat.le_refl _, by simpa using hp, by simp⟩
    · rw [if_neg hp] at h
      obtain ⟨h1, h2, h3, h4⟩ := idxP_first p es (i + 1) j (by rw [show (((i + 1 : Nat)) : Int) = (i : Int) + 1 by omega]; exact h)
      have e1 : j - i = j - (i + 1) + 1 := by omega
      refine ⟨by simp; omega, by omega, ?_, ?_⟩
      · simp only [e1, List.getElem_cons_succ]; exact h3
      · rw [e1, List.take_succ_cons, List.filter_cons, if_pos (by simpa using hp), h4]
theorem idxP_none {p : El → Bool} : ∀ {es : List El} {i : Int}, 0 ≤ i → idxP p i es = -1 → es.filter (fun e => !p e) = es
  | [], _, _, _ => rfl
  | e :: es, i, h0, h => by
    unfold idxP at h
    by_cases hp : p e = true
    · rw [if_pos hp] at h; omega
    · rw [if_neg hp] at h
      rw [List.filter_cons, if_pos (by simpa using hp), idxP_none (by omega) h]
theorem filter_upto {p : El → Bool} {es : List El} {r : Nat} (h : r < es.length) : (es.take (r + 1)).filter p = (es.take r).filter p ++ (if p es[r] then [es[r]] else []) := by
  rw [List.take_succ_eq_append_getElem h, List.filter_append]
  congr 1
  by_cases hp : p es[r] = true <;> simp [hp]
end Go.Vs
end
section
open Go Go.Vs Go.Proofs
set_option linter.unusedVariables false
set_option linter.unusedSimpArgs false
namespace Go.Vs
def inB (a b c : Int) : Bool := decide (b ≤ a) && decide (a ≤ c)
theorem d_spec_l01In (a b c : Int) : Dn F.spec_l01In [vint a, vint b, vint c] [] = some (vbool (inB a b c), []) := by
  refine den_of ?_
  rw [run_spec_l01In]
  by_cases h : b ≤ a <;> simp [h, inB]
theorem d_impl_in (a b c : Int) : Dn F.impl_in [vint a, vint b, vint c] [] = some (vbool (inB a b c), []) := by
  refine den_of ?_
  rw [run_impl_in]
  by_cases h : b ≤ a <;> simp [h, inB]
def classOf (n : Int) : Int := if inB n 1 28 then if n ≤ 15 then 1 else if inB n 20 24 then 2 else 3 else 0
theorem d_spec_ClassOf (n : Int) : Dn F.spec_ClassOf [vint n] [] = some (vint (classOf n), []) := by
  refine den_of ?_
  rw [run_spec_ClassOf]
  simp -implicitDefEqProofs only [d_spec_l01In, rBool_eq, branch_ite, classOf]
  by_cases h1 : inB n 1 28 = true <;> by_cases h2 : n ≤ 15 <;> by_cases h3 : inB n 20 24 = true <;> simp [h1, h2, h3]
theorem d_impl_ClassOf (n : Int) : Dn F.impl_ClassOf [vint n] [] = some (vint (classOf n), []) := by
  refine den_of ?_
  rw [run_impl_ClassOf]
  simp -implicitDefEqProofs only [d_impl_in, rBool_eq, branch_ite, classOf]
  unfold inB
  by_cases h1 : 1 ≤ n <;> by_cases h2 : n ≤ 15 <;> by_cases h3 : n ≤ 28 <;> by_cases h4 : 20 ≤ n <;> by_cases h5 : n ≤ 24 <;> by_cases h6 : 16 ≤ n <;>
    first | (exfalso; omega) | simp [h1, h2, h3, h4, h5, h6]
def ofC (es : List El) (k : Int) : List El := es.filter fun e => classOf (intAt e 0) == k
theorem ofC_flat (k : Int) : ∀ (es : List El) (i : Nat), flatI (fun _ e => ifP (classOf (intAt e 0) == k) e) i es = ofC es k
  | [], _ => rfl
  | e :: es, i => by
    unfold flatI
    rw [ofC_flat k es, ofC, ofC, List.filter_cons]
    unfold ifP
    split <;> simp
theorem ofC_len (es : List El) (k : Int) : (ofC es k).length ≤ es.length := List.length_filter_le _ _
theorem ofC_all {es : List El} {k : Int} (h : ∀ e ∈ es, IsChange e) : ∀ e ∈ ofC es k, IsChange e := fun e he => h e ((List.mem_filter.1 he).1)
theorem d_spec_OfClass {es : List El} {k : Int} (hl : es.length ≤ 1048576) (hq : ∀ e ∈ es, IsChange e) : Dn F.spec_OfClass [vsl es, vint k] [] = some (.own (some T.impl_Change) (ofC es k), []) := by
  refine den_of ?_
  rw [run_spec_OfClass]
  have := app_loop0 (es := es) (g := fun _ e => ifP (classOf (intAt e 0) == k) e) (c := 1) (N := 1000000000) (A := fun out i => spec_OfClass_A Dn (spec_OfClass_0 es k out i)) (fin := fun out => some (.own (some T.impl_Change) out, []))
    (fun j hj => ifP_len _ _) (fun out ho => by rw [spec_OfClass_0_eq]; simp) (fun i hi out ho => by
      rw [spec_OfClass_0_eq]
      have hm : (1048576 : Nat) ≤ maxLen := by decide
      have hr : decide ((out.length + 1) * 40 ≤ maxBytes) = true := room (by omega) (by decide)
      obtain ⟨c, s1, s2, he, h1, h2⟩ := (hq _ (List.getElem_mem hi)).ex
      simp -implicitDefEqProofs only [Int.ofNat_lt, hi, decide_true, branch_true, Int.natCast_nonneg, Bool.and_true, Int.toNat_natCast, sized_all (fun e he => (hq e he).len), guarded_true, getD_lt hi, he]
      rw [aInt_z, d_spec_ClassOf, rInt_eq]
      by_cases hc : classOf c = k
      · have e0 : (classOf c == k) = true := by simpa using hc
        simp -implicitDefEqProofs only [e0, branch_true, hr, Bool.and_self, guarded_true]
        rw [show R_iss.rd [.int .i64 c, .str s1, .str s2] = fun K => K (⟨c, s1, s2⟩ : R_iss) from rfl]
        simp -implicitDefEqProofs only [spec_OfClass_1_eq, hr, Bool.and_self, guarded_true]
        rw [wrap_upL (Nat.lt_of_lt_of_le hi (Nat.le_trans hl hm)), show intAt [.int .i64 c, .str s1, .str s2] 0 = c from rfl, e0]
        rfl
      · have e0 : (classOf c == k) = false := by simpa using hc
        simp -implicitDefEqProofs only [e0, branch_false, spec_OfClass_1_eq]
        rw [wrap_upL (Nat.lt_of_lt_of_le hi (Nat.le_trans hl hm)), show intAt [.int .i64 c, .str s1, .str s2] 0 = c from rfl, e0]
        simp [ifP])
    (out := []) (by simp; omega)
  rw [List.nil_append, ofC_flat] at this
  exact this
theorem t_impl_OfClass_1 {e : El} (he : IsChange e) (k : Int) : Dd F.impl_OfClass_1 [.agg (reL (fl fNew) e), .ptr 0 0] [[.leaf (.int .i64 k)]] = some (.leaf (.bool (!(classOf (intAt e 0) == k))), [[.leaf (.int .i64 k)]]) := by
  obtain ⟨c, s1, s2, rfl, h1, h2⟩ := he.ex
  apply dd_of rfl
  simp -implicitDefEqProofs only [reL, reF]
  rw [run_d_impl_OfClass_1]
  have : Dd F.impl_ClassOf [.leaf (.int .i64 c)] [] = some (.leaf (.int .i64 (classOf c)), []) := dd_told rfl (d_impl_ClassOf c) rfl rfl rfl
  simp -implicitDefEqProofs only [this, Option.bind_some, svLeafK_leaf, intK_int]
  rfl
theorem indexFunc_from {es : List El} {k : Int} (hl : es.length ≤ 1048576) (hq : ∀ e ∈ es, IsChange e) : ∀ i : Nat, i ≤ es.length →
    d_slices_IndexFunc_S_impl_Change_impl_Change_r0_c1p1_A Dd (d_slices_IndexFunc_S_impl_Change_impl_Change_r0_c1p1_0 es.length F.impl_OfClass_1 es.length i (rowC (reE (fl fNew) es)) k) =
      some (.leaf (.int .i64 (idxP (fun e => !(classOf (intAt e 0) == k)) i (es.drop i))), [rowC (reE (fl fNew) es), [.leaf (.int .i64 k)]]) := by
  have hall : ∀ e ∈ reE (fl fNew) es, e.length = 3 := reE_all fun e he => (hq e he).len
  have hN : (reE (fl fNew) es).length = es.length := reE_length es
  have hm : (1048576 : Nat) ≤ maxLen := by decide
  have hfl : ∀ n : Int, ([rowC (reE (fl fNew) es), [.leaf (.int .i64 n)]].all fun (x : List (SV true)) => x.all SV.flat) = true := fun n => by
    simp -implicitDefEqProofs only [List.all_cons, List.all_nil, Bool.and_true, rowC_all (p := SV.flat) fun _ => rfl]; rfl
  refine upto_ind ?_ ?_
  · rw [d_slices_IndexFunc_S_impl_Change_impl_Change_r0_c1p1_0_eq]
    simp -implicitDefEqProofs only [show ¬ ((es.length : Int) < es.length) from by omega, decide_false, branch_false, hfl, guarded_true, List.drop_length, idxP]
  · intro i hi ih
    have hg := rowC_get hall (i := i) (by omega)
    have ht := t_impl_OfClass_1 (hq _ (List.getElem_mem hi)) k
    rw [d_slices_IndexFunc_S_impl_Change_impl_Change_r0_c1p1_0_eq]
    have hd' : (i + 1) * 3 ≤ es.length * 3 := Nat.mul_le_mul_right 3 hi
    have h3 : i * 3 + 3 ≤ (rowC (reE (fl fNew) es)).length := by rw [rowC_len hall, hN]; omega
    rw [reE_get] at hg
    obtain ⟨c, s1, s2, he, h1, h2⟩ := (hq _ (List.getElem_mem hi)).ex
    rw [he] at hg ht
    simp -implicitDefEqProofs only [reL, reF] at hg ht
    simp -implicitDefEqProofs only [Int.ofNat_lt, hi, decide_true, branch_true, Int.natCast_nonneg, Bool.and_true, Int.toNat_natCast, guarded_true, Nat.zero_add, h3, hg, Option.bind_some, bindE_eq, atK_zero, atK_succ, intK_int, strK_str, ht, headB_cons, headK_cons, svLeafK_leaf, lastK_nil, lastB_nil, boolK_bool, hfl,
      wrap_upL (Nat.lt_of_lt_of_le hi (Nat.le_trans hl hm)), ih, drop_at hi, idxP, he]
    cases (!(classOf (intAt [.int .i64 c, .str s1, .str s2] 0) == k)) <;> simp
theorem t_indexFunc {es : List El} {k : Int} (hl : es.length ≤ 1048576) (hq : ∀ e ∈ es, IsChange e) :
    Dd F.slices_IndexFunc_S_impl_Change_impl_Change [.bsl 0 3 0 es.length, .fn F.impl_OfClass_1 [.ptr 1 0]] [rowC (reE (fl fNew) es), [.leaf (.int .i64 k)]] =
      some (.leaf (.int .i64 (idxP (fun e => !(classOf (intAt e 0) == k)) 0 es)), [rowC (reE (fl fNew) es), [.leaf (.int .i64 k)]]) := by
  apply dd_of rfl
  rw [run_d_slices_IndexFunc_S_impl_Change_impl_Change_r0_c1p1]
  have := indexFunc_from (k := k) hl hq 0 (Nat.zero_le _)
  simpa using this
theorem deleteFunc_from {es : List El} {k : Int} (hl : es.length ≤ 1048576) (hq : ∀ e ∈ es, IsChange e) : ∀ r : Nat, r ≤ es.length → ∀ (w : Nat) (L : List (List (Leaf true))), w ≤ r → L.length = es.length → (∀ e ∈ L, e.length = 3) →
    L.take w = reE (fl fNew) (ofC (es.take r) k) → L.drop r = (reE (fl fNew) es).drop r →
    d_slices_DeleteFunc_S_impl_Change_impl_Change_w0_c1p1_A Dd (d_slices_DeleteFunc_S_impl_Change_impl_Change_w0_c1p1_0 es.length F.impl_OfClass_1 w r (rowC L) k) =
      some (.leaf (.sl fNew (reE (fl fNew) (ofC es k))), [[.leaf (.int .i64 k)]]) := by
  have hm : (1048576 : Nat) ≤ maxLen := by decide
  have hN : (reE (fl fNew) es).length = es.length := reE_length es
  refine upto_ind ?_ ?_
  · intro w L hw hL hz h1 h2
    rw [d_slices_DeleteFunc_S_impl_Change_impl_Change_w0_c1p1_0_eq]
    have hb : (rowC L).all (SV.noBox [7]) = true := rowC_all fun _ => rfl
    have hlen := rowC_len hz
    have hf := rowC_front hz (w := w) (by omega)
    have hc := chunks_front hz (w := w) (by omega)
    have e2 : (w + (es.length - w)) * 3 ≤ (rowC L).length := by rw [hlen, hL, show w + (es.length - w) = es.length by omega]; omega
    have hz3 : ∀ j : Nat, (List.map SV.leaf (List.replicate j [(.int .i64 0 : Leaf true), .str (ByteArray.mk #[]), .str (ByteArray.mk #[])]).flatten).length = j * 3 := fun j => by
      rw [List.length_map, flatten_len (z := 3) (fun e he => by rw [List.eq_of_mem_replicate he]; rfl), List.length_replicate]
    have e3 : ∀ T : List (SV true), T.length = (es.length - w) * 3 → w * 3 ≤ (putAt (rowC L) (w * 3) T).length := fun T hT => by
      have e5 : w * 3 + (es.length - w) * 3 = es.length * 3 := by rw [← Nat.add_mul]; congr 1; omega
      rw [putAt_len (by rw [hT, hlen, hL, e5]; omega), hlen, hL]; omega
    have e4 := e3 _ (hz3 (es.length - w))
    simp -implicitDefEqProofs only [hb, show ¬ ((es.length : Int) < es.length) from by omega, decide_false, branch_false, Bool.and_true, guarded_true, Int.natCast_nonneg, decide_true, Int.toNat_natCast, Bool.true_and, Option.getD_some, Option.getD_none, show decide (w ≤ es.length) = true from decide_eq_true hw, Nat.le_refl, Nat.zero_add, e2, Nat.sub_zero, e4]
    rw [hf, Option.bind_some, hc, h1, List.take_length]
  · intro r hr ih w L hw hL hz h1 h2
    rw [d_slices_DeleteFunc_S_impl_Change_impl_Change_w0_c1p1_0_eq]
    have hb : (rowC L).all (SV.noBox [7]) = true := rowC_all fun _ => rfl
    have hlen := rowC_len hz
    have hg := rowC_get hz (i := r) (by omega)
    have hLr : L[r]'(by omega) = reL (fl fNew) es[r] := by
      have e1 := List.drop_eq_getElem_cons (l := L) (i := r) (by omega)
      have e2 := List.drop_eq_getElem_cons (l := reE (fl fNew) es) (i := r) (by omega)
      rw [e1, e2] at h2
      rw [(List.cons.inj h2).1, reE_get]
    have hdr : L.drop (r + 1) = (reE (fl fNew) es).drop (r + 1) := by
      have := congrArg (List.drop 1) h2
      simpa [List.drop_drop, Nat.add_comm] using this
    rw [hLr] at hg
    have ht := t_impl_OfClass_1 (hq _ (List.getElem_mem hr)) k
    have hd3 : (r + 1) * 3 ≤ es.length * 3 := Nat.mul_le_mul_right 3 hr
    have h3 : r * 3 + 3 ≤ (rowC L).length := by rw [hlen, hL]; omega
    have hwl : w < es.length := by omega
    have hd4 : (w + 1) * 3 ≤ es.length * 3 := Nat.mul_le_mul_right 3 hwl
    have h4 : w * 3 + 3 ≤ (rowC L).length := by rw [hlen, hL]; omega
    have hp := rowC_put hz (i := w) (e := reL (fl fNew) es[r]) (by omega) (by rw [← hLr]; exact hz _ (List.getElem_mem _))
    have hfil : ofC (es.take (r + 1)) k = ofC (es.take r) k ++ (if (classOf (intAt es[r] 0) == k) = true then [es[r]] else []) := filter_upto hr
    have kept := fun hk : (classOf (intAt es[r] 0) == k) = true => ih (w + 1) (L.set w (reL (fl fNew) es[r])) (by omega) (by rw [List.length_set]; exact hL)
      (fun e he => by rcases List.mem_or_eq_of_mem_set he with h | h; exact hz e h; rw [h, ← hLr]; exact hz _ (List.getElem_mem _))
      (by rw [hfil, if_pos hk, reE_map, List.map_append, ← reE_map, ← h1, List.take_set, List.take_succ_eq_append_getElem (by omega), List.set_append_right _ _ (by rw [List.length_take]; omega), List.length_take, Nat.min_eq_left (by omega), Nat.sub_self]; rfl)
      (by rw [List.drop_set_of_lt (by omega)]; exact hdr)
    have gone := fun hk : ¬ (classOf (intAt es[r] 0) == k) = true => ih w L (by omega) hL hz (by rw [hfil, if_neg hk, List.append_nil]; exact h1) hdr
    obtain ⟨c, s1, s2, he, _, _⟩ := (hq _ (List.getElem_mem hr)).ex
    rw [he] at hg ht hp kept gone
    simp -implicitDefEqProofs only [reL, reF, List.map_cons, List.map_nil] at hg ht hp kept gone
    have hwm : w < maxLen := by omega
    simp -implicitDefEqProofs only [hb, Bool.and_true, guarded_true, Int.ofNat_lt, hr, hwl, decide_true, branch_true, Int.natCast_nonneg, Int.toNat_natCast, Nat.zero_add, h3, h4, hg, Option.bind_some, bindE_eq, atK_zero, atK_succ, intK_int, strK_str, ht, headB_cons, headK_cons, svLeafK_leaf, lastK_nil, lastB_nil, boolK_bool, hp, wrap_upL hwm]
    by_cases hk : (classOf (intAt [.int .i64 c, .str s1, .str s2] 0) == k) = true
    · have hb2 : (rowC (L.set w [.int .i64 c, .str s1, .str s2])).all (SV.noBox [7]) = true := rowC_all fun _ => rfl
      rw [hk]
      simp -implicitDefEqProofs only [Bool.not_true, Bool.not_false, branch_true, d_slices_DeleteFunc_S_impl_Change_impl_Change_w0_c1p1_1_eq, hb2, Bool.and_true, guarded_true, wrap_upL (Nat.lt_of_lt_of_le hr (Nat.le_trans hl hm))]
      exact kept hk
    · have hk' : (classOf (intAt [.int .i64 c, .str s1, .str s2] 0) == k) = false := by simpa using hk
      rw [hk']
      simp -implicitDefEqProofs only [Bool.not_true, Bool.not_false, branch_false, d_slices_DeleteFunc_S_impl_Change_impl_Change_w0_c1p1_1_eq, hb, Bool.and_true, guarded_true, wrap_upL (Nat.lt_of_lt_of_le hr (Nat.le_trans hl hm))]
      exact gone hk
theorem t_deleteFunc {es : List El} {k : Int} (hl : es.length ≤ 1048576) (hq : ∀ e ∈ es, IsChange e) :
    Dd F.slices_DeleteFunc_S_impl_Change_impl_Change [.raw (some T.impl_Change) (reE (fl fNew) es), .fn F.impl_OfClass_1 [.ptr 0 0]] [[.leaf (.int .i64 k)]] = some (.leaf (.sl fNew (reE (fl fNew) (ofC es k))), [[.leaf (.int .i64 k)]]) := by
  have hm : (1048576 : Nat) ≤ maxLen := by decide
  have hall : ∀ e ∈ reE (fl fNew) es, e.length = 3 := reE_all fun e he => (hq e he).len
  have hN : (reE (fl fNew) es).length = es.length := reE_length es
  have hfl : ∀ n : Int, ([rowC (reE (fl fNew) es), [.leaf (.int .i64 n)]].all fun (x : List (SV true)) => x.all SV.flat) = true := fun n => by
    simp -implicitDefEqProofs only [List.all_cons, List.all_nil, Bool.and_true, rowC_all (p := SV.flat) fun _ => rfl]; rfl
  apply dd_of rfl
  rw [run_d_slices_DeleteFunc_S_impl_Change_impl_Change_w0_c1p1]
  simp -implicitDefEqProofs only [hfl, guarded_true, hN, t_indexFunc hl hq, Option.bind_some, headB_cons, headK_cons, svLeafK_leaf, intK_int, lastK_nil, lastB_nil]
  by_cases hi : idxP (fun e => !(classOf (intAt e 0) == k)) 0 es = -1
  · have h0 := idxP_none (by omega) hi
    simp -implicitDefEqProofs only [Bool.not_not] at h0
    have hlen := rowC_len hall
    have hg : asLeaves ((rowC (reE (fl fNew) es)).take (es.length * 3)) = some (reE (fl fNew) es).flatten := by
      rw [List.take_of_length_le (by rw [hlen, hN]; omega)]; exact asLeaves_map _
    have hc := chunks_flatten hall
    rw [hN] at hc
    simp -implicitDefEqProofs only [hi, beq_self_eq_true, branch_true, show es.length * 3 ≤ (rowC (reE (fl fNew) es)).length from by rw [hlen, hN]; omega, decide_true, guarded_true, hg, Option.bind_some, hc]
    rw [show ofC es k = es from h0]
  · have hlt : ¬ idxP (fun e => !(classOf (intAt e 0) == k)) 0 es < 0 := fun h => by
      rcases idxP_lt (fun e => !(classOf (intAt e 0) == k)) es 0 (by omega) with h1 | h1
      · exact hi h1
      · omega
    obtain ⟨j, hj, hje, _⟩ := idxP_get hlt
    obtain ⟨_, _, q3, q4⟩ := idxP_first _ es 0 j (by simpa using hje)
    simp -implicitDefEqProofs only [Nat.sub_zero, Bool.not_not] at q3 q4
    rw [hje]
    simp -implicitDefEqProofs only [show ((j : Int) == -1) = false from by simp, branch_false, wrap_upL (show j < maxLen by omega)]
    refine deleteFunc_from hl hq (j + 1) hj j _ (by omega) hN hall ?_ rfl
    rw [show ofC (es.take (j + 1)) k = _ from filter_upto hj, if_neg (by simpa using q3), List.append_nil, q4, reE_map, reE_map, List.map_take]
theorem t_impl_OfClass {es : List El} {k : Int} (hl : es.length ≤ 1048576) (hq : ∀ e ∈ es, IsChange e) (c : Fl true) :
    Dd F.impl_OfClass [.leaf (.sl c (reE (fl c) es)), .leaf (.int .i64 k)] [] = some (.leaf (.sl fNew (reE (fl fNew) (ofC es k))), []) := by
  apply dd_of rfl
  rw [run_d_impl_OfClass]
  have hb : maxBytes = 140737488355328 := rfl
  have h0 : Dn F.slices_Clone_S_impl_Change_impl_Change [vsl es] [] = some (.raw (some T.impl_Change) es, []) := by
    refine den_told (T := told) (t := cloneT Try.prog T.impl_Change iCh true) (by unfold told; exact if_pos rfl) ?_
    show (if es.length * iCh.bytes ≤ maxBytes ∧ sized iCh.size es = true then some (SV.mkO (m := false) true (some T.impl_Change) es, []) else none) = _
    rw [if_pos ⟨by rw [iChB]; omega, by rw [iChS]; exact sized_all fun e he => (hq e he).len⟩]
    rfl
  have h1 : Dd F.slices_Clone_S_impl_Change_impl_Change [.leaf (.sl c (reE (fl c) es))] [] = some (.raw (some T.impl_Change) (reE (fl fNew) es), []) :=
    dd_told rfl h0 (by rw [List.map_cons, reS_sl]; rfl) rfl (by
      simp -implicitDefEqProofs only [reS, List.map_nil]
      rw [reE_nosl (φ := li) (ψ := fl fNew) fun e he => (hq e he).nosl])
  simp -implicitDefEqProofs only [h1, Option.bind_some, svRawK, t_deleteFunc hl hq, headB_cons, headK_cons, svLeafK_leaf, intK_int, lastK_nil, lastB_nil, svSlK_leaf]
  simp
end Go.Vs
end
section
open Go Go.Vs Go.Proofs
set_option linter.unusedVariables false
set_option linter.unusedSimpArgs false
namespace Go.Vs
section
variable {x0 : List (List (Leaf false))} {x1 : Int}
theorem szd0 (hl : x0.length ≤ maxLen) (h : ∀ e ∈ x0, IsChange e) (c : Fl true) (n : Int) (hn : 0 ≤ n) : Dd F.laws_szChangeS [.leaf (.sl c (reE (fl c) x0)), .leaf (.int .i64 n)] [] = some (.leaf (.int .i64 (szF (.sl fP x0) n)), []) :=
  dd_told rfl (d_laws_szChangeS hl h hn) (by
    rw [List.map_cons, reS_sl]; rfl) rfl rfl
theorem eqd0 (hl : x0.length ≤ maxLen) (h : ∀ e ∈ x0, IsChange e) (c c' : Fl true) : Dd F.laws_eqChangeS [.leaf (.sl c (reE (fl c) x0)), .leaf (.sl c' (reE (fl c') x0))] [] = some (.leaf (.bool true), []) :=
  dd_told rfl (d_laws_eqChangeS hl h) (by
    rw [List.map_cons, List.map_cons, reS_sl, reS_sl]; rfl) rfl rfl
theorem tod0 (h : ∀ e ∈ x0, IsChange e) (ht : x0.length + tE x0 ≤ 1048576) (c : Fl true) : Dd F.laws_toChangeS [.leaf (.sl c (reE (fl c) x0))] [] = some (.leaf (.sl fNew (reE (fl fNew) x0)), []) := t_laws_toChangeS ht h
theorem mkd0 (hl : x0.length ≤ maxLen) (h : ∀ e ∈ x0, IsChange e) (k : Int) : Dd F.laws_markChangeS [.leaf (.sl fSoft (soE x0)), .leaf (.int .i64 k)] [] = some (.leaf (.int .i64 (mkE x0 (k))), []) := t_laws_markChangeS hl h k
theorem spd (l0 : x0.length ≤ 1048576) (h0 : ∀ e ∈ x0, IsChange e) (B0 : bdE 1048576 x0)  (c0 : Fl true) : Dd F.spec_OfClass [.leaf (.sl c0 (reE (fl c0) x0)), .leaf (.int .i64 x1)] [] = some (.own (some T.impl_Change) (reE (fl fOld) (ofC x0 x1)), []) :=
  dd_told rfl (d_spec_OfClass (es := x0) (k := x1) l0 h0) (by
    rw [List.map_cons, reS_sl, List.map_cons]; rfl) rfl rfl
theorem imd (l0 : x0.length ≤ 1048576) (h0 : ∀ e ∈ x0, IsChange e) (B0 : bdE 1048576 x0)  (c0 : Fl true) : Dd F.impl_OfClass [.leaf (.sl c0 (reE (fl c0) x0)), .leaf (.int .i64 x1)] [] = some (.leaf (.sl fNew (reE (fl fNew) (ofC x0 x1))), []) := t_impl_OfClass (es := x0) (k := x1) l0 h0 c0
theorem fitsD (hl0 : x0.length ≤ maxLen) (h0 : ∀ e ∈ x0, IsChange e)  (q0 : 0 ≤ szF (.sl fP x0) 1048576) : Fits x0 x1 (ofC x0 x1) := by
  have hm : maxLen = 9223372036854775807 := rfl
  have ok0 : okF 16 (.sl fP x0) := ⟨hl0, okE_of fun e he => ⟨by have := (h0 e he).len; omega, (h0 e he).ok⟩⟩
  have t0 := szF_t (z := 16) (.sl fP x0) 1048576 ok0 (by omega) (by simp only [cap]; omega) q0
  have bb0 := szF_bd (z := 16) (B := 1048576) (by simp only [cap]; omega) (.sl fP x0) 1048576 ok0 (by omega) (by omega) q0
  obtain ⟨l0, B0⟩ : x0.length ≤ 1048576 ∧ bdE 1048576 x0 := bb0
  have tt0 : (tF (.sl fP x0) : Int) = x0.length + tE x0 := by simp [tF]
  have len := ofC_len x0 x1
  have k0 := mkE_t x0 (1) ok0.2 (by omega) (by simp only [cap]; omega)
  exact { wl := by omega, wc := by simp only [cap]; omega, wq := ofC_all (es := x0) (k := x1) h0, spc := fun c0 => spd l0 h0 B0  c0, imp := fun c0 => imd l0 h0 B0  c0, mn := by omega,
           to0 := tod0 h0 (by omega), eq0 := eqd0 hl0 h0, mk0 := mkd0 hl0 h0 }
end
end Go.Vs
end
section
namespace Go.Vs
variable {m : Bool} {P : Program} {c : Fl m}
theorem sh_bool {n : Nat} {t : TypeId} {ls : List (Leaf m)} (hu : P.underlying t = some .bool) (h : Shaped P c n t ls) : ∃ b, ls = [.bool b] := by
  cases n with
  | zero => exact h.elim
  | succ n => unfold Shaped at h; simp only [hu] at h; exact h
theorem sh_int {n : Nat} {t : TypeId} {k : IntKind} {ls : List (Leaf m)} (hu : P.underlying t = some (.int k)) (h : Shaped P c n t ls) : ∃ z, ls = [.int k z] := by
  cases n with
  | zero => exact h.elim
  | succ n =>
    unfold Shaped at h
    simp only [hu] at h
    obtain ⟨z, e, _⟩ := h
    exact ⟨z, e⟩
theorem sh_str {n : Nat} {t : TypeId} {ls : List (Leaf m)} (hu : P.underlying t = some .string) (h : Shaped P c n t ls) : ∃ s : ByteArray, ls = [.str s] ∧ s.size ≤ maxLen := by
  cases n with
  | zero => exact h.elim
  | succ n => unfold Shaped at h; simp only [hu] at h; exact h
theorem sh_sl {n : Nat} {t e : TypeId} {ls : List (Leaf m)} (hu : P.underlying t = some (.slice e)) (h : Shaped P c n t ls) : ∃ k es, n = k + 1 ∧ ls = [.sl c es] ∧ es.length ≤ maxLen ∧ ∀ x ∈ es, Shaped P c k e x := by
  cases n with
  | zero => exact h.elim
  | succ n =>
    unfold Shaped at h
    simp only [hu] at h
    obtain ⟨es, e1, e2, e3⟩ := h
    exact ⟨n, es, rfl, e1, e2, e3⟩
theorem sh_struct {n : Nat} {t : TypeId} {fs : Array Field} {ts : List TypeId} {ls : List (Leaf m)} (hu : P.underlying t = some (.struct fs)) (hts : fs.toList.map Field.type = ts) (h : Shaped P c n t ls) : ∃ k, n = k + 1 ∧ Parts (Shaped P c k) ts ls := by
  subst hts
  cases n with
  | zero => exact h.elim
  | succ n =>
    unfold Shaped at h
    simp only [hu] at h
    exact ⟨n, rfl, h⟩
end Go.Vs
end
section
open Go Go.Vs Go.Proofs
set_option linter.unusedVariables false
set_option linter.unusedSimpArgs false
namespace Go.Vs
theorem isChange_of {n : Nat} {ls : List (Leaf false)} (h : Shaped Try.prog fP n 32 ls) : IsChange ls := by
  obtain ⟨k, rfl, hh⟩ := sh_struct Try.underlying32 (ts := [3, 9, 9]) (by kernel_rfl) h
  simp only [Parts] at hh
  obtain ⟨a0, _, rfl, g0, a1, _, rfl, g1, a2, _, rfl, g2, rfl⟩ := hh
  obtain ⟨i0, rfl⟩ := sh_int Try.underlying3 g0
  obtain ⟨s1, rfl, h1⟩ := sh_str Try.underlying9 g1
  obtain ⟨s2, rfl, h2⟩ := sh_str Try.underlying9 g2
  exact .mk i0 s1 s2 h1 h2
theorem isRow0 {n : Nat} {ls : List (Leaf false)} (h : Shaped Try.prog fP n 22 ls) : ∃ x : List El, ls = [.sl fP x] ∧ x.length ≤ maxLen ∧ ∀ e ∈ x, IsChange e := by
  obtain ⟨k, x, hk, rfl, h1, g⟩ := sh_sl Try.underlying22 h
  exact ⟨x, rfl, h1, fun e he => isChange_of (g e he)⟩
end Go.Vs
end
