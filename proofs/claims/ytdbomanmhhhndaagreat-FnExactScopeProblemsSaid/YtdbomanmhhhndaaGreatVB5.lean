/- What the program's functions compute, read off their text by the shadow runner (UP, UToldF, VsBound, UTa); no condition. -/
import Derived.Test.YtdbomanmhhhndaaGreatShelf
import Derived.Shelf.Slices.In.SortNone
import Derived.Test.YtdbomanmhhhndaaGreatVB4
section
open Go Go.Vs Go.Proofs
set_option maxRecDepth 100000
set_option linter.unusedVariables false
namespace Go.Vs
noncomputable section
variable (D : bA false)
def sE := atA D F.aQp
theorem zN (x0 : cA) (s1 : ByteArray) (e2 : LE) : bB Tryz.prog D Hs bQ F.aQp [.agg x0.l,.leaf (.str s1),vsl e2] [] = mQ (D F.aRs [vsl e2] []) fun b => aC b (some (.own (some T.aRj) [],[])) (aFd T.aRj (D F.aRc [.agg x0.l,.leaf (.str s1),vsl e2,.own (some T.aRj) []] []) fun es => some (.own (some T.aRj) es,[])) := by refine (aI (J := sE D) (by kernel_rfl) (fun _ _ => rfl) []).trans ?_; generalize sE D = J; revert J; refine id ?_; intro J; kernel_rfl
def sQ := atA D F.aQo
theorem zU (x0 : cA) (s1 : ByteArray) (e2 : LE) : bB Tryz.prog D Hs bQ F.aQo [.agg x0.l,.leaf (.str s1),vsl e2] [] = mQ (D F.aRx [vsl e2] []) fun b => aC b (some (.own (some T.aRj) [],[])) (aFd T.aRj (D F.aQr [.agg x0.l,.leaf (.str s1),vsl e2] []) fun es => some (.own (some T.aRj) es,[])) := by refine (aI (J := sQ D) (by kernel_rfl) (fun _ _ => rfl) []).trans ?_; generalize sQ D = J; revert J; refine id ?_; intro J; kernel_rfl
def aAq := atA D F.aQ7
theorem aEC (e0_0 e0_1 e0_2 : LE) (i1 : Int) : bB Tryz.prog D Hs bQ F.aQ7 [.agg [.sl fP e0_0,.sl fP e0_1,.sl fP e0_2],aH i1] [] = (D F.aRY [vsl e0_0,aH i1] []).bind fun r => aL r.fst fun l => cL .i64 l fun n => aC (decide (n < 0)) (some (aH (-1),[])) ((D F.aRY [vsl e0_1,aH n] []).bind fun r => aL r.fst fun l => cL .i64 l fun n => aC (decide (n < 0)) (some (aH (-1),[])) ((D F.aRu [vsl e0_2,aH n] []).bind fun r => aL r.fst fun l => cL .i64 l fun n => aC (decide (n < 0)) (some (aH (-1),[])) (some (aH n,[])))) := by refine (aI (J := aAq D) (by kernel_rfl) (fun _ _ => rfl) []).trans ?_; generalize aAq D = J; revert J; refine id ?_; intro J; kernel_rfl
section
variable (e0 : LE) (i1 i5 : Int)
def iY := atA D F.aRV
def rX : PS := ([1,1,1,0,1,0],St.mk ([vsl e0,aH i1,.any,.any,.any,aH i5] ++ cH 21) (noB 27))
theorem xJ : iY D (rX e0 i1 i5) = aC (decide (i5 < (↑e0.length : Int))) (aA (decide (0 ≤ i5) && decide (i5 < (↑e0.length : Int)) && sized 7 e0) (gC (e0.getD i5.toNat []) fun e => atK e 0 fun l => cL .i64 l fun n => atK e 1 fun l => bM l fun s => atK e 2 fun l => bM l fun s_1 => atK e 3 fun l => bM l fun s_2 => atK e 4 fun l => slK l fun c es => atK e 5 fun l => slK l fun c es_1 => atK e 6 fun l => slK l fun c es_2 => (D F.aSa [.agg [.int .i64 n,.str s,.str s_1,.str s_2,.sl fP es,.sl fP es_1,.sl fP es_2],aH i1] []).bind fun r => aL r.fst fun l => cL .i64 l fun n => aC (decide (n < 0)) (some (aH (-1),[])) (iY D (rX e0 n (IntKind.i64.wrap (i5 + 1)))))) (some (aH i1,[])) := by refine (aQ (J := iY D) (fun _ _ => rfl) [[1,1,1,0,1,0]] _).trans ?_; generalize iY D = J; revert J; refine id ?_; intro J; kernel_rfl
theorem aG8 : bB Tryz.prog D Hs bQ F.aRV [vsl e0,aH i1] [] = aC (decide (IntKind.i64.wrap (i1 - (↑e0.length : Int)) < 0)) (some (aH (-1),[])) (iY D (rX e0 (IntKind.i64.wrap (i1 - (↑e0.length : Int))) 0)) := by refine (aI (J := iY D) (by kernel_rfl) (fun _ _ => rfl) [[1,1,1,0,1,0]]).trans ?_; generalize iY D = J; revert J; refine id ?_; intro J; kernel_rfl
end
def aAv := atA D F.aRe
theorem aEO (e0_0 e0_1 e0_2 e1_0 e1_1 e1_2 : LE) : bB Tryz.prog D Hs bQ F.aRe [.agg [.sl fP e0_0,.sl fP e0_1,.sl fP e0_2],.agg [.sl fP e1_0,.sl fP e1_1,.sl fP e1_2]] [] = (D F.aRO [vsl e0_0,vsl e1_0] []).bind fun r => aL r.fst fun l => cU l fun b => aC (!b) (some (aM false,[])) ((D F.aRO [vsl e0_1,vsl e1_1] []).bind fun r => aL r.fst fun l => cU l fun b => aC (!b) (some (aM false,[])) ((D F.aRl [vsl e0_2,vsl e1_2] []).bind fun r => aL r.fst fun l => cU l fun b => aC (!b) (some (aM false,[])) (some (aM true,[])))) := by refine (aI (J := aAv D) (by kernel_rfl) (fun _ _ => rfl) []).trans ?_; generalize aAv D = J; revert J; refine id ?_; intro J; kernel_rfl
section
variable (e0 e1 : LE) (i5 : Int)
def jH := atA D F.aR0
def rS : PS := ([1,1,0,1,0],St.mk ([vsl e0,vsl e1,.any,.any,.any,aH i5] ++ cH 21) (noB 27))
theorem xQ : jH D (rS e0 e1 i5) = aC (decide (i5 < (↑e0.length : Int))) (aA (decide (0 ≤ i5) && decide (i5 < (↑e0.length : Int)) && sized 7 e0) (gC (e0.getD i5.toNat []) fun e => atK e 0 fun l => cL .i64 l fun n => atK e 1 fun l => bM l fun s => atK e 2 fun l => bM l fun s_1 => atK e 3 fun l => bM l fun s_2 => atK e 4 fun l => slK l fun c es => atK e 5 fun l => slK l fun c es_1 => atK e 6 fun l => slK l fun c es_2 => aA (decide (0 ≤ i5) && decide (i5 < (↑e1.length : Int)) && sized 7 e1) (gC (e1.getD i5.toNat []) fun e => atK e 0 fun l => cL .i64 l fun n_1 => atK e 1 fun l => bM l fun s_3 => atK e 2 fun l => bM l fun s_4 => atK e 3 fun l => bM l fun s_5 => atK e 4 fun l => slK l fun c es_3 => atK e 5 fun l => slK l fun c es_4 => atK e 6 fun l => slK l fun c es_5 => (D F.aR6 [.agg [.int .i64 n,.str s,.str s_1,.str s_2,.sl fP es,.sl fP es_1,.sl fP es_2],.agg [.int .i64 n_1,.str s_3,.str s_4,.str s_5,.sl fP es_3,.sl fP es_4,.sl fP es_5]] []).bind fun r => aL r.fst fun l => cU l fun b => aC (!b) (some (aM false,[])) (jH D (rS e0 e1 (IntKind.i64.wrap (i5 + 1))))))) (some (aM true,[])) := by refine (aQ (J := jH D) (fun _ _ => rfl) [[1,1,0,1,0]] _).trans ?_; generalize jH D = J; revert J; refine id ?_; intro J; kernel_rfl
theorem aGL : bB Tryz.prog D Hs bQ F.aR0 [vsl e0,vsl e1] [] = aC ((↑e0.length : Int) != (↑e1.length : Int)) (some (aM false,[])) (jH D (rS e0 e1 0)) := by refine (aI (J := jH D) (by kernel_rfl) (fun _ _ => rfl) [[1,1,0,1,0]]).trans ?_; generalize jH D = J; revert J; refine id ?_; intro J; kernel_rfl
end
section
variable (e0 e1 : LE) (i5 : Int)
def fE := atA D F.aQF
def mS : PS := ([1,1,0,1,0],St.mk ([vsl e0,vsl e1,.any,.any,.any,aH i5] ++ cH 21) (noB 27))
theorem sW : fE D (mS e0 e1 i5) = aC (decide (i5 < (↑e0.length : Int))) (aA (decide (0 ≤ i5) && decide (i5 < (↑e0.length : Int)) && sized 3 e0) (gC (e0.getD i5.toNat []) fun e => atK e 0 fun l => cL .i64 l fun n => atK e 1 fun l => bM l fun s => atK e 2 fun l => bM l fun s_1 => aA (decide (0 ≤ i5) && decide (i5 < (↑e1.length : Int)) && sized 3 e1) (gC (e1.getD i5.toNat []) fun e => atK e 0 fun l => cL .i64 l fun n_1 => atK e 1 fun l => bM l fun s_2 => atK e 2 fun l => bM l fun s_3 => (D F.aQQ [.agg [.int .i64 n,.str s,.str s_1],.agg [.int .i64 n_1,.str s_2,.str s_3]] []).bind fun r => aL r.fst fun l => cU l fun b => aC (!b) (some (aM false,[])) (fE D (mS e0 e1 (IntKind.i64.wrap (i5 + 1))))))) (some (aM true,[])) := by refine (aQ (J := fE D) (fun _ _ => rfl) [[1,1,0,1,0]] _).trans ?_; generalize fE D = J; revert J; refine id ?_; intro J; kernel_rfl
theorem aCy : bB Tryz.prog D Hs bQ F.aQF [vsl e0,vsl e1] [] = aC ((↑e0.length : Int) != (↑e1.length : Int)) (some (aM false,[])) (fE D (mS e0 e1 0)) := by refine (aI (J := fE D) (by kernel_rfl) (fun _ _ => rfl) [[1,1,0,1,0]]).trans ?_; generalize fE D = J; revert J; refine id ?_; intro J; kernel_rfl
end
section
variable (n0 : Nat) (i1 i5 : Int) (vx36 vb0 : List (SV false))
def dF (x : PS) : Ret false := atF Tryz.prog D Hs F.aQv x.1 1 x.2
def iX : PS := ([1,0,1,0],St.mk ([.bsl 36 3 0 n0,aH i1,.any,.any,.any,aH i5] ++ cH 30) (noB 36 ++ [some vx36]))
theorem nT : dF D (iX n0 i1 i5 vx36) = aC (decide (i5 < (↑n0 : Int))) (aA (decide (0 ≤ i5) && decide (i5 < (↑n0 : Int))) (aA (decide ((0 + i5.toNat) * 3 + #[Go.Field.mk "Code" 3 0 false "" "" 0,Go.Field.mk "Name" 9 1 false "" "" 8,Go.Field.mk "Part" 9 2 false "" "" 24][0].offset + 1 ≤ vx36.length)) ((D F.aRb [.leaf (.int .i64 (IntKind.i64.wrap (i1 + 1)))] []).bind fun r => aL r.fst fun l => bM l fun s => aA (decide (0 ≤ i5) && decide (i5 < (↑n0 : Int))) (aA (decide ((0 + i5.toNat) * 3 + #[Go.Field.mk "Code" 3 0 false "" "" 0,Go.Field.mk "Name" 9 1 false "" "" 8,Go.Field.mk "Part" 9 2 false "" "" 24][1].offset + 1 ≤ (hM vx36 ((0 + i5.toNat) * 3 + #[Go.Field.mk "Code" 3 0 false "" "" 0,Go.Field.mk "Name" 9 1 false "" "" 8,Go.Field.mk "Part" 9 2 false "" "" 24][0].offset) [aH i1]).length)) ((D F.aRb [.leaf (.int .i64 (IntKind.i64.wrap (IntKind.i64.wrap (i1 + 1) + 1)))] []).bind fun r => aL r.fst fun l => bM l fun s_1 => aA (decide (0 ≤ i5) && decide (i5 < (↑n0 : Int))) (aA (decide ((0 + i5.toNat) * 3 + #[Go.Field.mk "Code" 3 0 false "" "" 0,Go.Field.mk "Name" 9 1 false "" "" 8,Go.Field.mk "Part" 9 2 false "" "" 24][2].offset + 1 ≤ (hM (hM vx36 ((0 + i5.toNat) * 3 + #[Go.Field.mk "Code" 3 0 false "" "" 0,Go.Field.mk "Name" 9 1 false "" "" 8,Go.Field.mk "Part" 9 2 false "" "" 24][0].offset) [aH i1]) ((0 + i5.toNat) * 3 + #[Go.Field.mk "Code" 3 0 false "" "" 0,Go.Field.mk "Name" 9 1 false "" "" 8,Go.Field.mk "Part" 9 2 false "" "" 24][1].offset) [.leaf (.str s)]).length)) (dF D (iX n0 (IntKind.i64.wrap (IntKind.i64.wrap (IntKind.i64.wrap (i1 + 1) + 1) + 1)) (IntKind.i64.wrap (i5 + 1)) (hM (hM (hM vx36 ((0 + i5.toNat) * 3 + #[Go.Field.mk "Code" 3 0 false "" "" 0,Go.Field.mk "Name" 9 1 false "" "" 8,Go.Field.mk "Part" 9 2 false "" "" 24][0].offset) [aH i1]) ((0 + i5.toNat) * 3 + #[Go.Field.mk "Code" 3 0 false "" "" 0,Go.Field.mk "Name" 9 1 false "" "" 8,Go.Field.mk "Part" 9 2 false "" "" 24][1].offset) [.leaf (.str s)]) ((0 + i5.toNat) * 3 + #[Go.Field.mk "Code" 3 0 false "" "" 0,Go.Field.mk "Name" 9 1 false "" "" 8,Go.Field.mk "Part" 9 2 false "" "" 24][2].offset) [.leaf (.str s_1)]))))))))) (aA ([vx36].all fun x => x.all SV.flat) (some (aH i1,[vx36]))) := by refine (aQ (J := dF D) (fun _ _ => rfl) [[1,0,1,0]] _).trans ?_; generalize dF D = J; revert J; refine id ?_; intro J; kernel_rfl
theorem xD : bB Tryz.prog D Hs bQ F.aQv [.bsl 0 3 0 n0,aH i1] [vb0] = dF D (iX n0 i1 0 vb0) := by refine (aI (J := dF D) (by kernel_rfl) (fun _ _ => rfl) [[1,0,1,0]]).trans ?_; generalize dF D = J; revert J; refine id ?_; intro J; kernel_rfl
end
section
variable (e0 : LE) (i1 : Int)
def gO := atA D F.aQv
def uF : PS := ([1,0,1,0],St.mk ([vsl e0,aH i1,.any,.any,.any,aH 0] ++ cH 30) (noB 36))
theorem yZ : gO D (uF e0 i1) = aC (decide (0 < (↑e0.length : Int))) (aA (decide (0 < (↑e0.length : Int)) && sized 3 e0) none) (some (aH i1,[])) := by refine (aQ (J := gO D) (fun _ _ => rfl) [[1,0,1,0]] _).trans ?_; generalize gO D = J; revert J; refine id ?_; intro J; kernel_rfl
theorem aAY : bB Tryz.prog D Hs bQ F.aQv [vsl e0,aH i1] [] = gO D (uF e0 i1) := by refine (aI (J := gO D) (by kernel_rfl) (fun _ _ => rfl) [[1,0,1,0]]).trans ?_; generalize gO D = J; revert J; refine id ?_; intro J; kernel_rfl
end
section
variable (n0 : Nat) (i1 i5 : Int) (vx42 vb0 : List (SV false))
def dG (x : PS) : Ret false := atF Tryz.prog D Hs F.aQs x.1 1 x.2
def iT : PS := ([1,0,1,0],St.mk ([.bsl 42 3 0 n0,aH i1,.any,.any,.any,aH i5] ++ cH 36) (noB 42 ++ [some vx42]))
theorem nS : dG D (iT n0 i1 i5 vx42) = aC (decide (i5 < (↑n0 : Int))) (aA (decide (0 ≤ i5) && decide (i5 < (↑n0 : Int))) (aDl vx42 ((0 + i5.toNat) * 3 + #[Go.Field.mk "Code" 3 0 false "" "" 0,Go.Field.mk "Name" 9 1 false "" "" 8,Go.Field.mk "Part" 9 2 false "" "" 24][0].offset) fun c => aL c.drop fun l => cL .i64 l fun n => aC (n != i1) (aA ([vx42].all fun x => x.all SV.flat) (some (aH (-1),[vx42]))) (aA (decide (0 ≤ i5) && decide (i5 < (↑n0 : Int))) (aDl vx42 ((0 + i5.toNat) * 3 + #[Go.Field.mk "Code" 3 0 false "" "" 0,Go.Field.mk "Name" 9 1 false "" "" 8,Go.Field.mk "Part" 9 2 false "" "" 24][1].offset) fun c => aL c.drop fun l => bM l fun s => (D F.aRb [.leaf (.int .i64 (IntKind.i64.wrap (i1 + 1)))] []).bind fun r => aL r.fst fun l => bM l fun s_1 => aC (!s.toList == s_1.toList) (aA ([vx42].all fun x => x.all SV.flat) (some (aH (-1),[vx42]))) (aA (decide (0 ≤ i5) && decide (i5 < (↑n0 : Int))) (aDl vx42 ((0 + i5.toNat) * 3 + #[Go.Field.mk "Code" 3 0 false "" "" 0,Go.Field.mk "Name" 9 1 false "" "" 8,Go.Field.mk "Part" 9 2 false "" "" 24][2].offset) fun c => aL c.drop fun l => bM l fun s => (D F.aRb [.leaf (.int .i64 (IntKind.i64.wrap (IntKind.i64.wrap (i1 + 1) + 1)))] []).bind fun r => aL r.fst fun l => bM l fun s_2 => aC (!s.toList == s_2.toList) (aA ([vx42].all fun x => x.all SV.flat) (some (aH (-1),[vx42]))) (dG D (iT n0 (IntKind.i64.wrap (IntKind.i64.wrap (IntKind.i64.wrap (i1 + 1) + 1) + 1)) (IntKind.i64.wrap (i5 + 1)) vx42)))))))) (aA ([vx42].all fun x => x.all SV.flat) (some (aH i1,[vx42]))) := by refine (aQ (J := dG D) (fun _ _ => rfl) [[1,0,1,0]] _).trans ?_; generalize dG D = J; revert J; refine id ?_; intro J; kernel_rfl
theorem xC : bB Tryz.prog D Hs bQ F.aQs [.bsl 0 3 0 n0,aH i1] [vb0] = dG D (iT n0 i1 0 vb0) := by refine (aI (J := dG D) (by kernel_rfl) (fun _ _ => rfl) [[1,0,1,0]]).trans ?_; generalize dG D = J; revert J; refine id ?_; intro J; kernel_rfl
end
section
variable (e0 : LE) (i1 i5 : Int)
def fB := atA D F.aQs
def nW : PS := ([1,0,1,0],St.mk ([vsl e0,aH i1,.any,.any,.any,aH i5] ++ cH 36) (noB 42))
theorem zM : fB D (nW e0 i1 i5) = aC (decide (i5 < (↑e0.length : Int))) (aA (decide (0 ≤ i5) && decide (i5 < (↑e0.length : Int)) && sized 3 e0) (atK (e0.getD i5.toNat []) 0 fun l => cL .i64 l fun n => aC (n != i1) (some (aH (-1),[])) (aA (decide (0 ≤ i5) && decide (i5 < (↑e0.length : Int)) && sized 3 e0) (atK (e0.getD i5.toNat []) 1 fun l => bM l fun s => (D F.aRb [.leaf (.int .i64 (IntKind.i64.wrap (i1 + 1)))] []).bind fun r => aL r.fst fun l => bM l fun s_1 => aC (!s.toList == s_1.toList) (some (aH (-1),[])) (aA (decide (0 ≤ i5) && decide (i5 < (↑e0.length : Int)) && sized 3 e0) (atK (e0.getD i5.toNat []) 2 fun l => bM l fun s => (D F.aRb [.leaf (.int .i64 (IntKind.i64.wrap (IntKind.i64.wrap (i1 + 1) + 1)))] []).bind fun r => aL r.fst fun l => bM l fun s_2 => aC (!s.toList == s_2.toList) (some (aH (-1),[])) (fB D (nW e0 (IntKind.i64.wrap (IntKind.i64.wrap (IntKind.i64.wrap (i1 + 1) + 1) + 1)) (IntKind.i64.wrap (i5 + 1)))))))))) (some (aH i1,[])) := by refine (aQ (J := fB D) (fun _ _ => rfl) [[1,0,1,0]] _).trans ?_; generalize fB D = J; revert J; refine id ?_; intro J; kernel_rfl
theorem aAN : bB Tryz.prog D Hs bQ F.aQs [vsl e0,aH i1] [] = fB D (nW e0 i1 0) := by refine (aI (J := fB D) (by kernel_rfl) (fun _ _ => rfl) [[1,0,1,0]]).trans ?_; generalize fB D = J; revert J; refine id ?_; intro J; kernel_rfl
end
section
variable (i0 : Int) (s3 : ByteArray)
def gS := atA D F.aRb
def oO : PS := ([1,1,1,0,0],St.mk ([aH i0,.any,.any,.leaf (.str s3)] ++ cH 16) (noB 20))
theorem pG : gS D (oO i0 s3) = aC (decide (i0 > 0)) (aA (decide ((ByteArray.mk (List.map (aHS (m := false)) [[.int IntKind.u8 (IntKind.u8.wrap (IntKind.i64.wrap (48 + i0.tmod 10)))]]).toArray).size + s3.size ≤ 140737488355328)) (gS D (oO (IntKind.i64.wrap (i0.tdiv 10)) (ByteArray.mk (List.map (aHS (m := false)) [[.int IntKind.u8 (IntKind.u8.wrap (IntKind.i64.wrap (48 + i0.tmod 10)))]]).toArray ++ s3)))) (aA (decide ((ByteArray.mk #[109]).size + s3.size ≤ 140737488355328)) (some (.leaf (.str (ByteArray.mk #[109] ++ s3)),[]))) := by refine (aQ (J := gS D) (fun _ _ => rfl) [[1,1,1,0,0]] _).trans ?_; generalize gS D = J; revert J; refine id ?_; intro J; kernel_rfl
theorem aE3 : bB Tryz.prog D Hs bQ F.aRb [aH i0] [] = aC (decide (i0 ≤ 0)) (some (.leaf (.str (ByteArray.mk #[109,48])),[])) (gS D (oO i0 (ByteArray.mk #[]))) := by refine (aI (J := gS D) (by kernel_rfl) (fun _ _ => rfl) [[1,1,1,0,0]]).trans ?_; generalize gS D = J; revert J; refine id ?_; intro J; kernel_rfl
end
section
variable (e0 : LE) (i3 i4 : Int) (b12 : Bool)
def dN := atA D F.aRs
def qL : PS := ([1,1,0,1,0],St.mk ([vsl e0,.any,.any,aH i3,aH i4] ++ cH 18) (noB 23))
def vD : PS := ([1,1,0,1,0,0,0,1],St.mk ([vsl e0,.any,.any,aH i3,aH i4] ++ cH 7 ++ [aM b12] ++ cH 10) (noB 23))
def aBy : List (List Nat) := [[1,1,0,1,0],[1,1,0,1,0,0,0,1]]
theorem qG : dN D (qL e0 i3 i4) = aC (decide (i4 < (↑e0.length : Int)) == true) (dN D (vD e0 i3 i4 (decide (i3 ≥ 0)))) (dN D (vD e0 i3 i4 false)) := by refine (aQ (J := dN D) (fun _ _ => rfl) aBy _).trans ?_; generalize dN D = J; revert J; refine id ?_; intro J; kernel_rfl
theorem pU : dN D (vD e0 i3 i4 b12) = aC b12 (aA (decide (0 ≤ i4) && decide (i4 < (↑e0.length : Int)) && sized 7 e0) (bD.rd (e0.getD i4.toNat []) fun x => aEI (D F.aRg [.agg x.l,aH i3] []) fun n => dN D (qL e0 n (IntKind.i64.wrap (i4 + 1))))) (some (.leaf (.bool (decide (i3 < 0))),[])) := by refine (aQ (J := dN D) (fun _ _ => rfl) aBy _).trans ?_; generalize dN D = J; revert J; refine id ?_; intro J; kernel_rfl
theorem aFA : bB Tryz.prog D Hs bQ F.aRs [vsl e0] [] = dN D (qL e0 120 0) := by refine (aI (J := dN D) (by kernel_rfl) (fun _ _ => rfl) [[1,1,0,1,0],[1,1,0,1,0,0,0,1]]).trans ?_; generalize dN D = J; revert J; refine id ?_; intro J; kernel_rfl
end
section
variable (x0 : cA) (s1 : ByteArray) (e2 e3 : LE) (i9 : Int) (b13 b57 : Bool) (s14 : ByteArray) (b72 : Bool) (x4 : cA) (x10 : bD) (x11 : bC)
def aG := atA D F.aRc
def dH : PS := ([1,0,1,0],St.mk ([.any,.leaf (.str s1),vsl e2,.own (some T.aRj) e3,.ptr 4 0,.any,.any,.any,.any,aH i9] ++ cH 118) ([none,none,none,none,some x4.b] ++ noB 123))
def fU : PS := ([1,0,1,0,0,1,1],St.mk ([.any,.leaf (.str s1),vsl e2,.own (some T.aRj) e3,.ptr 4 0,.any,.any,.any,.any,aH i9] ++ cH 118) ([none,none,none,none,some x4.b] ++ noB 123))
def lR : PS := ([1,0,1,0,0,1,0,0,1,1,0,1,0,1,1,1,0,1],St.mk ([.any,.leaf (.str s1),vsl e2,.own (some T.aRj) e3,.ptr 4 0,.any,.any,.any,.any,aH i9,.ptr 10 0,.ptr 11 0,.any,aM b13] ++ cH 43 ++ [aM b57] ++ cH 70) ([none,none,none,none,some x4.b] ++ noB 5 ++ [some x10.b,some x11.b] ++ noB 116))
def jK : PS := ([1,0,1,0,0,1,0,0,1,1,0,1,1,1,0,1,1],St.mk ([.any,.leaf (.str s1),vsl e2,.own (some T.aRj) e3,.ptr 4 0,.any,.any,.any,.any,aH i9,.ptr 10 0,.any,.any,.any,.leaf (.str s14)] ++ cH 113) ([none,none,none,none,some x4.b] ++ noB 5 ++ [some x10.b] ++ noB 117))
def lW : PS := ([1,0,1,0,0,1,0,0,1,1,0,1,0,1,1,1,1],St.mk ([.any,.leaf (.str s1),vsl e2,.own (some T.aRj) e3,.ptr 4 0,.any,.any,.any,.any,aH i9,.ptr 10 0,.ptr 11 0,.any,aM b13] ++ cH 114) ([none,none,none,none,some x4.b] ++ noB 5 ++ [some x10.b,some x11.b] ++ noB 116))
def lT : PS := ([1,0,1,0,0,1,0,0,1,1,0,1,0,1,1,1,1,0,1],St.mk ([.any,.leaf (.str s1),vsl e2,.own (some T.aRj) e3,.ptr 4 0,.any,.any,.any,.any,aH i9,.ptr 10 0,.ptr 11 0] ++ cH 60 ++ [aM b72] ++ cH 55) ([none,none,none,none,some x4.b] ++ noB 5 ++ [some x10.b,some x11.b] ++ noB 116))
def lY : PS := ([1,0,1,0,0,1,0,0,1,1,0,1,0,1,1,1,1,1],St.mk ([.any,.leaf (.str s1),vsl e2,.own (some T.aRj) e3,.ptr 4 0,.any,.any,.any,.any,aH i9,.ptr 10 0,.ptr 11 0] ++ cH 116) ([none,none,none,none,some x4.b] ++ noB 5 ++ [some x10.b,some x11.b] ++ noB 116))
def fT : List (List Nat) := [[1,0,1,0],[1,0,1,0,0,1,1],[1,0,1,0,0,1,0,0,1,1,0,1,0,1,1,1,1],[1,0,1,0,0,1,0,0,1,1,0,1,0,1,1,1,0,1],[1,0,1,0,0,1,0,0,1,1,0,1,0,1,1,1,1,1],[1,0,1,0,0,1,0,0,1,1,0,1,0,1,1,1,1,0,1],[1,0,1,0,0,1,0,0,1,1,0,1,1,1,0,1,1]]
theorem qY : aG D (dH s1 e2 e3 i9 x4) = aC (decide (i9 < (↑e2.length : Int))) (aA (decide (0 ≤ i9) && decide (i9 < (↑e2.length : Int)) && sized 7 e2) (bD.rd (e2.getD i9.toNat []) fun x => aC (x.a0 == 1) ((D F.aRa [.agg x4.l,.leaf (.str s1),.leaf (.str x.a2)] []).bind fun r => lX r.fst fun vs => jL vs fun v r => bC.va v fun x_1 => jL r fun v r => wN v fun b => kN r (aC (!b) (aA (decide ((e3.length + 1) * 40 ≤ aK) && true) (aG D (fU s1 e2 (e3 ++ [[.int .i64 21,.str s1,.str x.a2]]) i9 x4))) (mQ (D F.aRM [.agg x4.l,.leaf (.str x_1.a3)] []) fun b => aC (b == true) (aG D (lR s1 e2 e3 i9 b (decide ((↑x.a6.length : Int) > 0)) x4 x x_1)) (aG D (lR s1 e2 e3 i9 b false x4 x x_1))))) (aC (x.a0 == 3) (aC (!x.a3.toList == (ByteArray.mk #[]).toList) (mQ (D F.aQB [.agg x4.l,.leaf (.str x.a3)] []) fun b => aC (!b) (aA (decide ((e3.length + 1) * 40 ≤ aK) && true) (aG D (fU s1 e2 (e3 ++ [[.int .i64 24,.str s1,.str x.a3]]) i9 x4))) (mQ (D F.aRm [.agg x4.l,.leaf (.str s1),.leaf (.str x.a3)] []) fun b => aC (!b) (aA (decide ((e3.length + 1) * 40 ≤ aK) && true) (aG D (jK s1 e2 (e3 ++ [[.int .i64 25,.str s1,.str x.a3]]) i9 x.a3 x4 x))) (aG D (jK s1 e2 e3 i9 x.a3 x4 x)))) (aG D (jK s1 e2 e3 i9 s1 x4 x))) (aG D (fU s1 e2 e3 i9 x4))))) (some (.own (some T.aRj) e3,[])) := by refine (aQ (J := aG D) (fun _ _ => rfl) fT _).trans ?_; generalize aG D = J; revert J; refine id ?_; intro J; kernel_rfl
theorem aAW : aG D (fU s1 e2 e3 i9 x4) = aG D (dH s1 e2 e3 (IntKind.i64.wrap (i9 + 1)) x4) := by refine (aQ (J := aG D) (fun _ _ => rfl) fT _).trans ?_; generalize aG D = J; revert J; refine id ?_; intro J; kernel_rfl
theorem aAS : aG D (lR s1 e2 e3 i9 b13 b57 x4 x10 x11) = aC b57 (aA (decide ((e3.length + 1) * 40 ≤ aK) && true) (aG D (lW s1 e2 (e3 ++ [[.int .i64 22,.str s1,.str x10.a2]]) i9 b13 x4 x10 x11))) (aG D (lW s1 e2 e3 i9 b13 x4 x10 x11)) := by refine (aQ (J := aG D) (fun _ _ => rfl) fT _).trans ?_; generalize aG D = J; revert J; refine id ?_; intro J; kernel_rfl
theorem aAR : aG D (jK s1 e2 e3 i9 s14 x4 x10) = aFd T.aRj (D F.aRc [.agg x4.l,.leaf (.str s14),.leaf (.sl fP x10.a6),.own (some T.aRj) e3] []) fun es => aG D (fU s1 e2 es i9 x4) := by refine (aQ (J := aG D) (fun _ _ => rfl) fT _).trans ?_; generalize aG D = J; revert J; refine id ?_; intro J; kernel_rfl
theorem aAV : aG D (lW s1 e2 e3 i9 b13 x4 x10 x11) = aC ((!b13) == true) (aG D (lT s1 e2 e3 i9 ((↑x10.a6.length : Int) == 0) x4 x10 x11)) (aG D (lT s1 e2 e3 i9 false x4 x10 x11)) := by refine (aQ (J := aG D) (fun _ _ => rfl) fT _).trans ?_; generalize aG D = J; revert J; refine id ?_; intro J; kernel_rfl
theorem aAK : aG D (lT s1 e2 e3 i9 b72 x4 x10 x11) = aC b72 (aA (decide ((e3.length + 1) * 40 ≤ aK) && true) (aG D (lY s1 e2 (e3 ++ [[.int .i64 23,.str s1,.str x10.a2]]) i9 x4 x10 x11))) (aG D (lY s1 e2 e3 i9 x4 x10 x11)) := by refine (aQ (J := aG D) (fun _ _ => rfl) fT _).trans ?_; generalize aG D = J; revert J; refine id ?_; intro J; kernel_rfl
theorem aAG : aG D (lY s1 e2 e3 i9 x4 x10 x11) = aFd T.aRj (D F.aRc [.agg x4.l,.leaf (.str x11.a3),.leaf (.sl fP x10.a6),.own (some T.aRj) e3] []) fun es => aG D (fU s1 e2 es i9 x4) := by refine (aQ (J := aG D) (fun _ _ => rfl) fT _).trans ?_; generalize aG D = J; revert J; refine id ?_; intro J; kernel_rfl
theorem aA4 : bB Tryz.prog D Hs bQ F.aRc [.agg x0.l,.leaf (.str s1),vsl e2,.own (some T.aRj) e3] [] = aG D (dH s1 e2 e3 0 x0) := by refine (aI (J := aG D) (by kernel_rfl) (fun _ _ => rfl) [[1,0,1,0],[1,0,1,0,0,1,1],[1,0,1,0,0,1,0,0,1,1,0,1,0,1,1,1,1],[1,0,1,0,0,1,0,0,1,1,0,1,0,1,1,1,0,1],[1,0,1,0,0,1,0,0,1,1,0,1,0,1,1,1,1,1],[1,0,1,0,0,1,0,0,1,1,0,1,0,1,1,1,1,0,1],[1,0,1,0,0,1,0,0,1,1,0,1,1,1,0,1,1]]).trans ?_; generalize aG D = J; revert J; refine id ?_; intro J; kernel_rfl
end
def aB6 := atA D F.aRx
theorem aFh (e0 : LE) : bB Tryz.prog D Hs bQ F.aRx [vsl e0] [] = (D F.aQP [vsl e0,.ptr 0 0,SV.kfn 80 [some (0,0),none]] [[aH 120]]).bind fun r => qW r.snd fun d r_1 => jL d fun d r_2 => aKU d fun n => kN r_2 (kQ r_1 (lX r.fst fun vs => kN vs (some (.leaf (.bool (decide (n < 0))),[])))) := by refine (aI (J := aB6 D) (by kernel_rfl) (fun _ _ => rfl) []).trans ?_; generalize aB6 D = J; revert J; refine id ?_; intro J; kernel_rfl
section
variable (x0 : cA) (s1 : ByteArray) (b12 : Bool) (e15 : LE) (i16 i17 : Int) (b90 : Bool) (x3 : cA) (x9 : bD) (x10 : bC) (ex14_0 e2 : LE)
def aJ := atA D F.aQr
def dD : PS := ([1,1,0,1,0],St.mk ([.any,.leaf (.str s1),.any,.ptr 3 0,.any,.any,.any,.ptr 14 0] ++ cH 7 ++ [vsl e15,aH i16,aH i17] ++ cH 109) ([none,none,none,some x3.b] ++ noB 10 ++ [some [.own (some T.aRj) ex14_0]] ++ noB 112))
def eT : PS := ([1,1,0,1,0,0,1,1,1],St.mk ([.any,.leaf (.str s1),.any,.ptr 3 0,.any,.any,.any,.ptr 14 0] ++ cH 7 ++ [vsl e15,aH i16,aH i17] ++ cH 109) ([none,none,none,some x3.b] ++ noB 10 ++ [some [.own (some T.aRj) ex14_0]] ++ noB 112))
def jX : PS := ([1,1,0,1,0,0,1,1,0,0,1,1,0,1,0,1,1,1,1],St.mk ([.any,.leaf (.str s1),.any,.ptr 3 0,.any,.any,.any,.ptr 14 0,.any,.ptr 9 0,.ptr 10 0,.any,aM b12,.any,.any,vsl e15,aH i16,aH i17] ++ cH 109) ([none,none,none,some x3.b] ++ noB 5 ++ [some x9.b,some x10.b,none,none,none,some [.own (some T.aRj) ex14_0]] ++ noB 112))
def kB : PS := ([1,1,0,1,0,0,1,1,0,0,1,1,0,1,1,1,0,0,1],St.mk ([.any,.leaf (.str s1),.any,.ptr 3 0,.any,.any,.any,.ptr 14 0,.any,.ptr 9 0] ++ cH 5 ++ [vsl e15,aH i16,aH i17] ++ cH 72 ++ [aM b90] ++ cH 36) ([none,none,none,some x3.b] ++ noB 5 ++ [some x9.b,none,none,none,none,some [.own (some T.aRj) ex14_0]] ++ noB 112))
def jY : PS := ([1,1,0,1,0,0,1,1,0,0,1,1,0,1,0,1,1,1,1,1],St.mk ([.any,.leaf (.str s1),.any,.ptr 3 0,.any,.any,.any,.ptr 14 0,.any,.ptr 9 0,.ptr 10 0,.any,.any,.any,.any,vsl e15,aH i16,aH i17] ++ cH 109) ([none,none,none,some x3.b] ++ noB 5 ++ [some x9.b,some x10.b,none,none,none,some [.own (some T.aRj) ex14_0]] ++ noB 112))
def kG : PS := ([1,1,0,1,0,0,1,1,0,0,1,1,0,1,1,1,0,1,1],St.mk ([.any,.leaf (.str s1),.any,.ptr 3 0,.any,.any,.any,.ptr 14 0,.any,.ptr 9 0] ++ cH 5 ++ [vsl e15,aH i16,aH i17] ++ cH 109) ([none,none,none,some x3.b] ++ noB 5 ++ [some x9.b,none,none,none,none,some [.own (some T.aRj) ex14_0]] ++ noB 112))
def fY : List (List Nat) := [[1,1,0,1,0],[1,1,0,1,0,0,1,1,1],[1,1,0,1,0,0,1,1,0,0,1,1,0,1,0,1,1,1,1],[1,1,0,1,0,0,1,1,0,0,1,1,0,1,0,1,1,1,1,1],[1,1,0,1,0,0,1,1,0,0,1,1,0,1,1,1,0,0,1],[1,1,0,1,0,0,1,1,0,0,1,1,0,1,1,1,0,1,1]]
theorem pT : aJ D (dD s1 e15 i16 i17 x3 ex14_0) = aC (decide (i17 < i16)) (aA (decide (0 ≤ i17) && decide (i17 < (↑e15.length : Int)) && sized 7 e15) (bD.rd (e15.getD i17.toNat []) fun x => aC (x.a0 == 1) ((D F.aQ4 [.agg x3.l,.leaf (.str s1),.leaf (.str x.a2)] []).bind fun r => lX r.fst fun vs => jL vs fun v r => bC.va v fun x_1 => jL r fun v r => wN v fun b => kN r (aC (!b) (aGW T.aRj (D F.aQu [.ptr 0 0,aM true,aH 21,.leaf (.str s1),.leaf (.str x.a2)] [[.own (some T.aRj) ex14_0]]) fun es => aJ D (eT s1 e15 i16 i17 x3 es)) (mQ (D F.aRC [.agg x3.l,.leaf (.str x_1.a3)] []) fun b => aC (b == true) (aGW T.aRj (D F.aQu [.ptr 0 0,.leaf (.bool (decide ((↑x.a6.length : Int) > 0))),aH 22,.leaf (.str s1),.leaf (.str x.a2)] [[.own (some T.aRj) ex14_0]]) fun es => aJ D (jX s1 b e15 i16 i17 x3 x x_1 es)) (aGW T.aRj (D F.aQu [.ptr 0 0,aM false,aH 22,.leaf (.str s1),.leaf (.str x.a2)] [[.own (some T.aRj) ex14_0]]) fun es => aJ D (jX s1 b e15 i16 i17 x3 x x_1 es))))) (aC (x.a0 == 3) (aC ((!x.a3.toList == (ByteArray.mk #[]).toList) == true) (mQ (D F.aQA [.agg x3.l,.leaf (.str x.a3)] []) fun b => aJ D (kB s1 e15 i16 i17 (!b) x3 x ex14_0)) (aJ D (kB s1 e15 i16 i17 false x3 x ex14_0))) (aJ D (eT s1 e15 i16 i17 x3 ex14_0))))) (some (.own (some T.aRj) ex14_0,[])) := by refine (aQ (J := aJ D) (fun _ _ => rfl) fY _).trans ?_; generalize aJ D = J; revert J; refine id ?_; intro J; kernel_rfl
theorem xK : aJ D (eT s1 e15 i16 i17 x3 ex14_0) = aJ D (dD s1 e15 i16 (IntKind.i64.wrap (i17 + 1)) x3 ex14_0) := by refine (aQ (J := aJ D) (fun _ _ => rfl) fY _).trans ?_; generalize aJ D = J; revert J; refine id ?_; intro J; kernel_rfl
theorem yE : aJ D (jX s1 b12 e15 i16 i17 x3 x9 x10 ex14_0) = aC ((!b12) == true) (aGW T.aRj (D F.aQu [.ptr 0 0,.leaf (.bool ((↑x9.a6.length : Int) == 0)),aH 23,.leaf (.str s1),.leaf (.str x9.a2)] [[.own (some T.aRj) ex14_0]]) fun es => aJ D (jY s1 e15 i16 i17 x3 x9 x10 es)) (aGW T.aRj (D F.aQu [.ptr 0 0,aM false,aH 23,.leaf (.str s1),.leaf (.str x9.a2)] [[.own (some T.aRj) ex14_0]]) fun es => aJ D (jY s1 e15 i16 i17 x3 x9 x10 es)) := by refine (aQ (J := aJ D) (fun _ _ => rfl) fY _).trans ?_; generalize aJ D = J; revert J; refine id ?_; intro J; kernel_rfl
theorem xS : aJ D (kB s1 e15 i16 i17 b90 x3 x9 ex14_0) = aC b90 (aGW T.aRj (D F.aQu [.ptr 0 0,aM true,aH 24,.leaf (.str s1),.leaf (.str x9.a3)] [[.own (some T.aRj) ex14_0]]) fun es => aJ D (eT s1 e15 i16 i17 x3 es)) (aC ((!x9.a3.toList == (ByteArray.mk #[]).toList) == true) (mQ (D F.aRz [.agg x3.l,.leaf (.str s1),.leaf (.str x9.a3)] []) fun b => aGW T.aRj (D F.aQu [.ptr 0 0,.leaf (.bool !b),aH 25,.leaf (.str s1),.leaf (.str x9.a3)] [[.own (some T.aRj) ex14_0]]) fun es => aJ D (kG s1 e15 i16 i17 x3 x9 es)) (aGW T.aRj (D F.aQu [.ptr 0 0,aM false,aH 25,.leaf (.str s1),.leaf (.str x9.a3)] [[.own (some T.aRj) ex14_0]]) fun es => aJ D (kG s1 e15 i16 i17 x3 x9 es))) := by refine (aQ (J := aJ D) (fun _ _ => rfl) fY _).trans ?_; generalize aJ D = J; revert J; refine id ?_; intro J; kernel_rfl
theorem yD : aJ D (jY s1 e15 i16 i17 x3 x9 x10 ex14_0) = aFd T.aRj (D F.aQr [.agg x3.l,.leaf (.str x10.a3),.leaf (.sl fP x9.a6)] []) fun es => aGW T.aRj (D F.aQw [.ptr 0 0,vsl es] [[.own (some T.aRj) ex14_0]]) fun es => aJ D (eT s1 e15 i16 i17 x3 es) := by refine (aQ (J := aJ D) (fun _ _ => rfl) fY _).trans ?_; generalize aJ D = J; revert J; refine id ?_; intro J; kernel_rfl
theorem yX : aJ D (kG s1 e15 i16 i17 x3 x9 ex14_0) = aPj (D F.aSc [.agg x3.l,.leaf (.str s1),.agg x9.l] []) fun s => aFd T.aRj (D F.aQr [.agg x3.l,.leaf (.str s),.leaf (.sl fP x9.a6)] []) fun es => aGW T.aRj (D F.aQw [.ptr 0 0,vsl es] [[.own (some T.aRj) ex14_0]]) fun es => aJ D (eT s1 e15 i16 i17 x3 es) := by refine (aQ (J := aJ D) (fun _ _ => rfl) fY _).trans ?_; generalize aJ D = J; revert J; refine id ?_; intro J; kernel_rfl
theorem zA : bB Tryz.prog D Hs bQ F.aQr [.agg x0.l,.leaf (.str s1),vsl e2] [] = aJ D (dD s1 e2 (↑e2.length : Int) 0 x0 []) := by refine (aI (J := aJ D) (by kernel_rfl) (fun _ _ => rfl) [[1,1,0,1,0],[1,1,0,1,0,0,1,1,1],[1,1,0,1,0,0,1,1,0,0,1,1,0,1,0,1,1,1,1],[1,1,0,1,0,0,1,1,0,0,1,1,0,1,0,1,1,1,1,1],[1,1,0,1,0,0,1,1,0,0,1,1,0,1,1,1,0,0,1],[1,1,0,1,0,0,1,1,0,0,1,1,0,1,1,1,0,1,1]]).trans ?_; generalize aJ D = J; revert J; refine id ?_; intro J; kernel_rfl
end
section
variable (e0 : LE) (i1 i5 : Int)
def iZ := atA D F.aRY
def rV : PS := ([1,1,1,0,1,0],St.mk ([vsl e0,aH i1,.any,.any,.any,aH i5] ++ cH 21) (noB 27))
theorem yH : iZ D (rV e0 i1 i5) = aC (decide (i5 < (↑e0.length : Int))) (aA (decide (0 ≤ i5) && decide (i5 < (↑e0.length : Int)) && sized 11 e0) (gC (e0.getD i5.toNat []) fun e => atK e 0 fun l => cL .i64 l fun n => atK e 1 fun l => cU l fun b => atK e 2 fun l => bM l fun s => atK e 3 fun l => bM l fun s_1 => atK e 4 fun l => slK l fun c es => atK e 5 fun l => slK l fun c es_1 => atK e 6 fun l => slK l fun c es_2 => atK e 7 fun l => slK l fun c es_3 => atK e 8 fun l => slK l fun c es_4 => atK e 9 fun l => cU l fun b_1 => atK e 10 fun l => slK l fun c es_5 => (D F.aSf [.agg [.int .i64 n,.bool b,.str s,.str s_1,.sl fP es,.sl fP es_1,.sl fP es_2,.sl fP es_3,.sl fP es_4,.bool b_1,.sl fP es_5],aH i1] []).bind fun r => aL r.fst fun l => cL .i64 l fun n => aC (decide (n < 0)) (some (aH (-1),[])) (iZ D (rV e0 n (IntKind.i64.wrap (i5 + 1)))))) (some (aH i1,[])) := by refine (aQ (J := iZ D) (fun _ _ => rfl) [[1,1,1,0,1,0]] _).trans ?_; generalize iZ D = J; revert J; refine id ?_; intro J; kernel_rfl
theorem aGS : bB Tryz.prog D Hs bQ F.aRY [vsl e0,aH i1] [] = aC (decide (IntKind.i64.wrap (i1 - (↑e0.length : Int)) < 0)) (some (aH (-1),[])) (iZ D (rV e0 (IntKind.i64.wrap (i1 - (↑e0.length : Int))) 0)) := by refine (aI (J := iZ D) (by kernel_rfl) (fun _ _ => rfl) [[1,1,1,0,1,0]]).trans ?_; generalize iZ D = J; revert J; refine id ?_; intro J; kernel_rfl
end
section
variable (e0 : LE) (i1 i5 : Int)
def iF := atA D F.aRu
def qC : PS := ([1,1,1,0,1,0],St.mk ([vsl e0,aH i1,.any,.any,.any,aH i5] ++ cH 21) (noB 27))
theorem wM : iF D (qC e0 i1 i5) = aC (decide (i5 < (↑e0.length : Int))) (aA (decide (0 ≤ i5) && decide (i5 < (↑e0.length : Int)) && sized 2 e0) (gC (e0.getD i5.toNat []) fun e => atK e 0 fun l => cL .i64 l fun n => atK e 1 fun l => bM l fun s => (D F.aRN [.agg [.int .i64 n,.str s],aH i1] []).bind fun r => aL r.fst fun l => cL .i64 l fun n => aC (decide (n < 0)) (some (aH (-1),[])) (iF D (qC e0 n (IntKind.i64.wrap (i5 + 1)))))) (some (aH i1,[])) := by refine (aQ (J := iF D) (fun _ _ => rfl) [[1,1,1,0,1,0]] _).trans ?_; generalize iF D = J; revert J; refine id ?_; intro J; kernel_rfl
theorem aFk : bB Tryz.prog D Hs bQ F.aRu [vsl e0,aH i1] [] = aC (decide (IntKind.i64.wrap (i1 - (↑e0.length : Int)) < 0)) (some (aH (-1),[])) (iF D (qC e0 (IntKind.i64.wrap (i1 - (↑e0.length : Int))) 0)) := by refine (aI (J := iF D) (by kernel_rfl) (fun _ _ => rfl) [[1,1,1,0,1,0]]).trans ?_; generalize iF D = J; revert J; refine id ?_; intro J; kernel_rfl
end
def aEX := atA D F.aSa
theorem aH5 (i0_0 : Int) (s0_1 s0_2 s0_3 : ByteArray) (e0_4 e0_5 e0_6 : LE) (i1 : Int) : bB Tryz.prog D Hs bQ F.aSa [.agg [.int .i64 i0_0,.str s0_1,.str s0_2,.str s0_3,.sl fP e0_4,.sl fP e0_5,.sl fP e0_6],aH i1] [] = aC (decide (IntKind.i64.wrap (i1 - (↑s0_1.size : Int)) < 0)) (some (aH (-1),[])) (aC (decide (IntKind.i64.wrap (IntKind.i64.wrap (i1 - (↑s0_1.size : Int)) - (↑s0_2.size : Int)) < 0)) (some (aH (-1),[])) (aC (decide (IntKind.i64.wrap (IntKind.i64.wrap (IntKind.i64.wrap (i1 - (↑s0_1.size : Int)) - (↑s0_2.size : Int)) - (↑s0_3.size : Int)) < 0)) (some (aH (-1),[])) ((D F.aRD [vsl e0_4,.leaf (.int .i64 (IntKind.i64.wrap (IntKind.i64.wrap (IntKind.i64.wrap (i1 - (↑s0_1.size : Int)) - (↑s0_2.size : Int)) - (↑s0_3.size : Int))))] []).bind fun r => aL r.fst fun l => cL .i64 l fun n => aC (decide (n < 0)) (some (aH (-1),[])) ((D F.aRU [vsl e0_5,aH n] []).bind fun r => aL r.fst fun l => cL .i64 l fun n => aC (decide (n < 0)) (some (aH (-1),[])) ((D F.aRV [vsl e0_6,aH n] []).bind fun r => aL r.fst fun l => cL .i64 l fun n => aC (decide (n < 0)) (some (aH (-1),[])) (some (aH n,[]))))))) := by refine (aI (J := aEX D) (by kernel_rfl) (fun _ _ => rfl) []).trans ?_; generalize aEX D = J; revert J; refine id ?_; intro J; kernel_rfl
section
variable (e0 e1 : LE) (i5 : Int)
def jF := atA D F.aRO
def rR : PS := ([1,1,0,1,0],St.mk ([vsl e0,vsl e1,.any,.any,.any,aH i5] ++ cH 21) (noB 27))
theorem xM : jF D (rR e0 e1 i5) = aC (decide (i5 < (↑e0.length : Int))) (aA (decide (0 ≤ i5) && decide (i5 < (↑e0.length : Int)) && sized 11 e0) (gC (e0.getD i5.toNat []) fun e => atK e 0 fun l => cL .i64 l fun n => atK e 1 fun l => cU l fun b => atK e 2 fun l => bM l fun s => atK e 3 fun l => bM l fun s_1 => atK e 4 fun l => slK l fun c es => atK e 5 fun l => slK l fun c es_1 => atK e 6 fun l => slK l fun c es_2 => atK e 7 fun l => slK l fun c es_3 => atK e 8 fun l => slK l fun c es_4 => atK e 9 fun l => cU l fun b_1 => atK e 10 fun l => slK l fun c es_5 => aA (decide (0 ≤ i5) && decide (i5 < (↑e1.length : Int)) && sized 11 e1) (gC (e1.getD i5.toNat []) fun e => atK e 0 fun l => cL .i64 l fun n_1 => atK e 1 fun l => cU l fun b_2 => atK e 2 fun l => bM l fun s_2 => atK e 3 fun l => bM l fun s_3 => atK e 4 fun l => slK l fun c es_6 => atK e 5 fun l => slK l fun c es_7 => atK e 6 fun l => slK l fun c es_8 => atK e 7 fun l => slK l fun c es_9 => atK e 8 fun l => slK l fun c es_10 => atK e 9 fun l => cU l fun b_3 => atK e 10 fun l => slK l fun c es_11 => (D F.aSe [.agg [.int .i64 n,.bool b,.str s,.str s_1,.sl fP es,.sl fP es_1,.sl fP es_2,.sl fP es_3,.sl fP es_4,.bool b_1,.sl fP es_5],.agg [.int .i64 n_1,.bool b_2,.str s_2,.str s_3,.sl fP es_6,.sl fP es_7,.sl fP es_8,.sl fP es_9,.sl fP es_10,.bool b_3,.sl fP es_11]] []).bind fun r => aL r.fst fun l => cU l fun b => aC (!b) (some (aM false,[])) (jF D (rR e0 e1 (IntKind.i64.wrap (i5 + 1))))))) (some (aM true,[])) := by refine (aQ (J := jF D) (fun _ _ => rfl) [[1,1,0,1,0]] _).trans ?_; generalize jF D = J; revert J; refine id ?_; intro J; kernel_rfl
theorem aGP : bB Tryz.prog D Hs bQ F.aRO [vsl e0,vsl e1] [] = aC ((↑e0.length : Int) != (↑e1.length : Int)) (some (aM false,[])) (jF D (rR e0 e1 0)) := by refine (aI (J := jF D) (by kernel_rfl) (fun _ _ => rfl) [[1,1,0,1,0]]).trans ?_; generalize jF D = J; revert J; refine id ?_; intro J; kernel_rfl
end
section
variable (e0 e1 : LE) (i5 : Int)
def iE := atA D F.aRl
def qP : PS := ([1,1,0,1,0],St.mk ([vsl e0,vsl e1,.any,.any,.any,aH i5] ++ cH 21) (noB 27))
theorem vX : iE D (qP e0 e1 i5) = aC (decide (i5 < (↑e0.length : Int))) (aA (decide (0 ≤ i5) && decide (i5 < (↑e0.length : Int)) && sized 2 e0) (gC (e0.getD i5.toNat []) fun e => atK e 0 fun l => cL .i64 l fun n => atK e 1 fun l => bM l fun s => aA (decide (0 ≤ i5) && decide (i5 < (↑e1.length : Int)) && sized 2 e1) (gC (e1.getD i5.toNat []) fun e => atK e 0 fun l => cL .i64 l fun n_1 => atK e 1 fun l => bM l fun s_1 => (D F.aRJ [.agg [.int .i64 n,.str s],.agg [.int .i64 n_1,.str s_1]] []).bind fun r => aL r.fst fun l => cU l fun b => aC (!b) (some (aM false,[])) (iE D (qP e0 e1 (IntKind.i64.wrap (i5 + 1))))))) (some (aM true,[])) := by refine (aQ (J := iE D) (fun _ _ => rfl) [[1,1,0,1,0]] _).trans ?_; generalize iE D = J; revert J; refine id ?_; intro J; kernel_rfl
theorem aGj : bB Tryz.prog D Hs bQ F.aRl [vsl e0,vsl e1] [] = aC ((↑e0.length : Int) != (↑e1.length : Int)) (some (aM false,[])) (iE D (qP e0 e1 0)) := by refine (aI (J := iE D) (by kernel_rfl) (fun _ _ => rfl) [[1,1,0,1,0]]).trans ?_; generalize iE D = J; revert J; refine id ?_; intro J; kernel_rfl
end
def aEm := atA D F.aR6
theorem aHp (i0_0 : Int) (s0_1 s0_2 s0_3 : ByteArray) (e0_4 e0_5 e0_6 : LE) (i1_0 : Int) (s1_1 s1_2 s1_3 : ByteArray) (e1_4 e1_5 e1_6 : LE) : bB Tryz.prog D Hs bQ F.aR6 [.agg [.int .i64 i0_0,.str s0_1,.str s0_2,.str s0_3,.sl fP e0_4,.sl fP e0_5,.sl fP e0_6],.agg [.int .i64 i1_0,.str s1_1,.str s1_2,.str s1_3,.sl fP e1_4,.sl fP e1_5,.sl fP e1_6]] [] = aC (i0_0 != i1_0) (some (aM false,[])) (aC (!s0_1.toList == s1_1.toList) (some (aM false,[])) (aC (!s0_2.toList == s1_2.toList) (some (aM false,[])) (aC (!s0_3.toList == s1_3.toList) (some (aM false,[])) ((D F.aRX [vsl e0_4,vsl e1_4] []).bind fun r => aL r.fst fun l => cU l fun b => aC (!b) (some (aM false,[])) ((D F.aRK [vsl e0_5,vsl e1_5] []).bind fun r => aL r.fst fun l => cU l fun b => aC (!b) (some (aM false,[])) ((D F.aR0 [vsl e0_6,vsl e1_6] []).bind fun r => aL r.fst fun l => cU l fun b => aC (!b) (some (aM false,[])) (some (aM true,[])))))))) := by refine (aI (J := aEm D) (by kernel_rfl) (fun _ _ => rfl) []).trans ?_; generalize aEm D = J; revert J; refine id ?_; intro J; kernel_rfl
def yQ := atA D F.aQQ
theorem aDM (i0_0 : Int) (s0_1 s0_2 : ByteArray) (i1_0 : Int) (s1_1 s1_2 : ByteArray) : bB Tryz.prog D Hs bQ F.aQQ [.agg [.int .i64 i0_0,.str s0_1,.str s0_2],.agg [.int .i64 i1_0,.str s1_1,.str s1_2]] [] = aC (i0_0 != i1_0) (some (aM false,[])) (aC (!s0_1.toList == s1_1.toList) (some (aM false,[])) (aC (!s0_2.toList == s1_2.toList) (some (aM false,[])) (some (aM true,[])))) := by refine (aI (J := yQ D) (by kernel_rfl) (fun _ _ => rfl) []).trans ?_; generalize yQ D = J; revert J; refine id ?_; intro J; kernel_rfl
section
variable (x0 : bD) (i1 i5 : Int) (b16 : Bool) (x2 : bD)
def dA := atA D F.aRg
def oZ : PS := ([1,1,0,1,0],St.mk ([.any,aH i1,.ptr 2 0,.any,.any,aH i5] ++ cH 21) ([none,none,some x2.b] ++ noB 24))
def tK : PS := ([1,1,0,1,0,0,0,1],St.mk ([.any,aH i1,.ptr 2 0,.any,.any,aH i5] ++ cH 10 ++ [aM b16] ++ cH 10) ([none,none,some x2.b] ++ noB 24))
def aAx : List (List Nat) := [[1,1,0,1,0],[1,1,0,1,0,0,0,1]]
theorem pJ : dA D (oZ i1 i5 x2) = aC (decide (i5 < (↑x2.a6.length : Int)) == true) (dA D (tK i1 i5 (decide (i1 ≥ 0)) x2)) (dA D (tK i1 i5 false x2)) := by refine (aQ (J := dA D) (fun _ _ => rfl) aAx _).trans ?_; generalize dA D = J; revert J; refine id ?_; intro J; kernel_rfl
theorem pE : dA D (tK i1 i5 b16 x2) = aC b16 (aA (decide (0 ≤ i5) && decide (i5 < (↑x2.a6.length : Int)) && sized 7 x2.a6) (bD.rd (x2.a6.getD i5.toNat []) fun x => aEI (D F.aRg [.agg x.l,aH i1] []) fun n => dA D (oZ n (IntKind.i64.wrap (i5 + 1)) x2))) (some (aH i1,[])) := by refine (aQ (J := dA D) (fun _ _ => rfl) aAx _).trans ?_; generalize dA D = J; revert J; refine id ?_; intro J; kernel_rfl
theorem aEa : bB Tryz.prog D Hs bQ F.aRg [.agg x0.l,aH i1] [] = dA D (oZ (IntKind.i64.wrap (i1 - 1)) 0 x0) := by refine (aI (J := dA D) (by kernel_rfl) (fun _ _ => rfl) [[1,1,0,1,0],[1,1,0,1,0,0,0,1]]).trans ?_; generalize dA D = J; revert J; refine id ?_; intro J; kernel_rfl
end
section
variable (x0 : cA) (s1 s2 : ByteArray) (b17 : Bool) (i8 : Int) (b43 : Bool) (x3 : cA) (e9 : LE) (i10 : Int)
def bU := atA D F.aRa
def oR : PS := ([1,0,1],St.mk ([.any,.leaf (.str s1),.leaf (.str s2),.ptr 3 0,.any,.any,.ptr 6 0] ++ cH 10 ++ [aM b17] ++ cH 51) ([none,none,none,some x3.b,none,none,some [.leaf (.str (ByteArray.mk #[])),.leaf (.str (ByteArray.mk #[])),.own (some T.aR5) [],.leaf (.str (ByteArray.mk #[])),.leaf (.str (ByteArray.mk #[])),.own (some T.aSg) []]] ++ noB 62))
def lZ : PS := ([1,1,1,0,1],St.mk ([.any,.any,.leaf (.str s2),.ptr 3 0,.any,.any,.ptr 6 0,.any,aH i8] ++ cH 34 ++ [aM b43] ++ cH 25) ([none,none,none,some x3.b,none,none,some [.leaf (.str (ByteArray.mk #[])),.leaf (.str (ByteArray.mk #[])),.own (some T.aR5) [],.leaf (.str (ByteArray.mk #[])),.leaf (.str (ByteArray.mk #[])),.own (some T.aSg) []]] ++ noB 62))
def mE : PS := ([1,1,1,1,1,0,1,0],St.mk ([.any,.any,.leaf (.str s2),.any,.any,.any,.ptr 6 0,.any,.any,vsl e9,aH i10] ++ cH 58) (noB 6 ++ [some [.leaf (.str (ByteArray.mk #[])),.leaf (.str (ByteArray.mk #[])),.own (some T.aR5) [],.leaf (.str (ByteArray.mk #[])),.leaf (.str (ByteArray.mk #[])),.own (some T.aSg) []]] ++ noB 62))
def tH : List (List Nat) := [[1,0,1],[1,1,1,0,1],[1,1,1,1,1,0,1,0]]
theorem aD1 : bU D (oR s1 s2 b17 x3) = aC b17 (some (.tup [.agg (bC.l ⟨s2,ByteArray.mk #[],[],ByteArray.mk #[83,116,114,105,110,103],ByteArray.mk #[33],[]⟩),aM true],[])) (aEI (D F.aRT [.agg x3.l,.leaf (.str s1)] []) fun n => aC (decide (n < 0) == false) (aA (decide (0 ≤ n) && decide (n < (↑x3.a0.length : Int)) && sized 11 x3.a0) (wZ (x3.a0.getD n.toNat []) 0 fun n_1 => aC ((n_1 != 2) == true) (aA (decide (0 ≤ n) && decide (n < (↑x3.a0.length : Int)) && sized 11 x3.a0) (wZ (x3.a0.getD n.toNat []) 0 fun n_2 => bU D (lZ s2 n (n_2 != 3) x3))) (bU D (lZ s2 n false x3)))) (bU D (lZ s2 n true x3))) := by refine (aQ (J := bU D) (fun _ _ => rfl) tH _).trans ?_; generalize bU D = J; revert J; refine id ?_; intro J; kernel_rfl
theorem uX : bU D (lZ s2 i8 b43 x3) = aC b43 (some (.tup [.agg (bC.l ⟨ByteArray.mk #[],ByteArray.mk #[],[],ByteArray.mk #[],ByteArray.mk #[],[]⟩),aM false],[])) (aA (decide (0 ≤ i8) && decide (i8 < (↑x3.a0.length : Int)) && sized 11 x3.a0) (aSl (x3.a0.getD i8.toNat []) 5 fun es => bU D (mE s2 es 0))) := by refine (aQ (J := bU D) (fun _ _ => rfl) tH _).trans ?_; generalize bU D = J; revert J; refine id ?_; intro J; kernel_rfl
theorem uQ : bU D (mE s2 e9 i10) = aC (decide (i10 < (↑e9.length : Int))) (aA (decide (0 ≤ i10) && decide (i10 < (↑e9.length : Int)) && sized 6 e9) (gD (e9.getD i10.toNat []) 0 fun s => aC (s.toList == s2.toList) (aA (decide (0 ≤ i10) && decide (i10 < (↑e9.length : Int)) && sized 6 e9) (bC.rd (e9.getD i10.toNat []) fun x => some (.tup [.agg x.l,aM true],[]))) (bU D (mE s2 e9 (IntKind.i64.wrap (i10 + 1)))))) (some (.tup [.agg (bC.l ⟨ByteArray.mk #[],ByteArray.mk #[],[],ByteArray.mk #[],ByteArray.mk #[],[]⟩),aM false],[])) := by refine (aQ (J := bU D) (fun _ _ => rfl) tH _).trans ?_; generalize bU D = J; revert J; refine id ?_; intro J; kernel_rfl
theorem aEz : bB Tryz.prog D Hs bQ F.aRa [.agg x0.l,.leaf (.str s1),.leaf (.str s2)] [] = aC ((s2.toList == (ByteArray.mk #[95,95,116,121,112,101,110,97,109,101]).toList) == true) (mQ (D F.aQB [.agg x0.l,.leaf (.str s1)] []) fun b => bU D (oR s1 s2 b x0)) (bU D (oR s1 s2 false x0)) := by refine (aI (J := bU D) (by kernel_rfl) (fun _ _ => rfl) [[1,0,1],[1,1,1,0,1],[1,1,1,1,1,0,1,0]]).trans ?_; generalize bU D = J; revert J; refine id ?_; intro J; kernel_rfl
end
def aC6 := atA D F.aRM
theorem aGZ (x0 : cA) (s1 : ByteArray) : bB Tryz.prog D Hs bQ F.aRM [.agg x0.l,.leaf (.str s1)] [] = aEI (D F.aRE [.agg x0.l,.leaf (.str s1)] []) fun n => aC ((n == 1) == false) (some (.leaf (.bool (n == 5)),[])) (some (aM true,[])) := by refine (aI (J := aC6 D) (by kernel_rfl) (fun _ _ => rfl) []).trans ?_; generalize aC6 D = J; revert J; refine id ?_; intro J; kernel_rfl
def vL := atA D F.aQB
theorem aBC (x0 : cA) (s1 : ByteArray) : bB Tryz.prog D Hs bQ F.aQB [.agg x0.l,.leaf (.str s1)] [] = aEI (D F.aRE [.agg x0.l,.leaf (.str s1)] []) fun n => aC ((n == 2) == false) (aC ((n == 3) == false) (some (.leaf (.bool (n == 4)),[])) (some (aM true,[]))) (some (aM true,[])) := by refine (aI (J := vL D) (by kernel_rfl) (fun _ _ => rfl) []).trans ?_; generalize vL D = J; revert J; refine id ?_; intro J; kernel_rfl
section
variable (e7 e8 : LE) (i9 : Int) (x0 : cA) (s1 s2 : ByteArray)
def iG := atA D F.aRm
def pZ : PS := ([1,1,1,0,1,0],St.mk (cH 7 ++ [.own (some T.aSh) e7,.own (some T.aSh) e8,aH i9] ++ cH 18) (noB 28))
theorem wL : iG D (pZ e7 e8 i9) = aC (decide (i9 < (↑e7.length : Int))) (aA (decide (0 ≤ i9) && decide (i9 < (↑e7.length : Int)) && sized 1 e7) (gD (e7.getD i9.toNat []) 0 fun s => mQ (D F.aRI [vsl e8,.leaf (.str s)] []) fun b => aC b (some (aM true,[])) (iG D (pZ e7 e8 (IntKind.i64.wrap (i9 + 1)))))) (some (aM false,[])) := by refine (aQ (J := iG D) (fun _ _ => rfl) [[1,1,1,0,1,0]] _).trans ?_; generalize iG D = J; revert J; refine id ?_; intro J; kernel_rfl
theorem aFl : bB Tryz.prog D Hs bQ F.aRm [.agg x0.l,.leaf (.str s1),.leaf (.str s2)] [] = aFd T.aSh (D F.aQD [.agg x0.l,.leaf (.str s1)] []) fun es => aFd T.aSh (D F.aQD [.agg x0.l,.leaf (.str s2)] []) fun es_1 => iG D (pZ es es_1 0) := by refine (aI (J := iG D) (by kernel_rfl) (fun _ _ => rfl) [[1,1,1,0,1,0]]).trans ?_; generalize iG D = J; revert J; refine id ?_; intro J; kernel_rfl
end
section
variable (e6 : LE) (i7 i8 ix21_0 : Int) (e0 : LE) (ib0_0 : Int)
def cI (x : PS) : Ret false := atF Tryz.prog D Hs F.aQP x.1 1 x.2
def kW : PS := ([1,0],St.mk ([.any,.ptr 21 0,SV.kfn 80 [some (21,0),none],.any,.any,.any,vsl e6,aH i7,aH i8] ++ cH 12) (noB 21 ++ [some [aH ix21_0]]))
def nV : PS := ([1,0,0,1,1,1],St.mk ([.any,.ptr 21 0,SV.kfn 80 [some (21,0),none],.any,.any,.any,vsl e6,aH i7,aH i8] ++ cH 12) (noB 21 ++ [some [aH ix21_0]]))
def uC : List (List Nat) := [[1,0],[1,0,0,1,1,1]]
theorem qK : cI D (kW e6 i7 i8 ix21_0) = aC (decide (i8 < i7)) (aA (decide (0 ≤ i8) && decide (i8 < (↑e6.length : Int)) && sized 7 e6) (bD.rd (e6.getD i8.toNat []) fun x => aC (decide (IntKind.i64.wrap (ix21_0 - 1) ≥ 0)) ((D F.aQP [.leaf (.sl fP x.a6),.ptr 0 0,SV.kfn 80 [some (0,0),none]] [[.leaf (.int .i64 (IntKind.i64.wrap (ix21_0 - 1)))]]).bind fun r => qW r.snd fun d r_1 => jL d fun d r_2 => aKU d fun n => kN r_2 (kQ r_1 (lX r.fst fun vs => kN vs (cI D (nV e6 i7 i8 n))))) (cI D (nV e6 i7 i8 (IntKind.i64.wrap (ix21_0 - 1)))))) (some (.tup [],[[aH ix21_0]])) := by refine (aQ (J := cI D) (fun _ _ => rfl) uC _).trans ?_; generalize cI D = J; revert J; refine id ?_; intro J; kernel_rfl
theorem pY : cI D (nV e6 i7 i8 ix21_0) = cI D (kW e6 i7 (IntKind.i64.wrap (i8 + 1)) ix21_0) := by refine (aQ (J := cI D) (fun _ _ => rfl) uC _).trans ?_; generalize cI D = J; revert J; refine id ?_; intro J; kernel_rfl
theorem aAM : bB Tryz.prog D Hs bQ F.aQP [vsl e0,.ptr 0 0,SV.kfn 80 [some (0,0),none]] [[aH ib0_0]] = cI D (kW e0 (↑e0.length : Int) 0 ib0_0) := by refine (aI (J := cI D) (by kernel_rfl) (fun _ _ => rfl) [[1,0],[1,0,0,1,1,1]]).trans ?_; generalize cI D = J; revert J; refine id ?_; intro J; kernel_rfl
end
section
variable (x0 : cA) (s1 s2 : ByteArray) (b16 : Bool) (x3 : cA) (b32 : Bool) (x8 : aN)
def cV := atA D F.aQ4
def oK : PS := ([1,0,1],St.mk ([.any,.leaf (.str s1),.leaf (.str s2),.ptr 3 0,.any,.any,.ptr 6 0] ++ cH 9 ++ [aM b16] ++ cH 22) ([none,none,none,some x3.b,none,none,some [.leaf (.str (ByteArray.mk #[])),.leaf (.str (ByteArray.mk #[])),.own (some T.aR5) [],.leaf (.str (ByteArray.mk #[])),.leaf (.str (ByteArray.mk #[])),.own (some T.aSg) []]] ++ noB 32))
def oY : PS := ([1,1,1,0,1],St.mk ([.any,.any,.leaf (.str s2),.any,.any,.any,.ptr 6 0,.any,.ptr 8 0] ++ cH 23 ++ [aM b32] ++ cH 6) (noB 6 ++ [some [.leaf (.str (ByteArray.mk #[])),.leaf (.str (ByteArray.mk #[])),.own (some T.aR5) [],.leaf (.str (ByteArray.mk #[])),.leaf (.str (ByteArray.mk #[])),.own (some T.aSg) []],none,some x8.b] ++ noB 30))
def aAk : List (List Nat) := [[1,0,1],[1,1,1,0,1]]
theorem aD6 : cV D (oK s1 s2 b16 x3) = aC b16 (some (.tup [.agg (bC.l ⟨ByteArray.mk #[95,95,116,121,112,101,110,97,109,101],ByteArray.mk #[],[],ByteArray.mk #[83,116,114,105,110,103],ByteArray.mk #[33],[]⟩),aM true],[])) ((D F.aRw [.agg x3.l,.leaf (.str s1)] []).bind fun r => lX r.fst fun vs => jL vs fun v r => aN.va v fun x => jL r fun v r => wN v fun b => kN r (aC ((x.a0 != 2) == true) (cV D (oY s2 (x.a0 != 3) x)) (cV D (oY s2 false x)))) := by refine (aQ (J := cV D) (fun _ _ => rfl) aAk _).trans ?_; generalize cV D = J; revert J; refine id ?_; intro J; kernel_rfl
theorem aDw : cV D (oY s2 b32 x8) = aC b32 (some (.tup [.agg (bC.l ⟨ByteArray.mk #[],ByteArray.mk #[],[],ByteArray.mk #[],ByteArray.mk #[],[]⟩),aM false],[])) ((D F.aRq [.agg x8.l,.leaf (.str s2)] []).bind fun r => lX r.fst fun vs => jL vs fun v r => bC.va v fun x => jL r fun v r => wN v fun b => kN r (some (.tup [.agg x.l,aM b],[]))) := by refine (aQ (J := cV D) (fun _ _ => rfl) aAk _).trans ?_; generalize cV D = J; revert J; refine id ?_; intro J; kernel_rfl
theorem aEZ : bB Tryz.prog D Hs bQ F.aQ4 [.agg x0.l,.leaf (.str s1),.leaf (.str s2)] [] = aC ((s2.toList == (ByteArray.mk #[95,95,116,121,112,101,110,97,109,101]).toList) == true) (mQ (D F.aQA [.agg x0.l,.leaf (.str s1)] []) fun b => cV D (oK s1 s2 b x0)) (cV D (oK s1 s2 false x0)) := by refine (aI (J := cV D) (by kernel_rfl) (fun _ _ => rfl) [[1,0,1],[1,1,1,0,1]]).trans ?_; generalize cV D = J; revert J; refine id ?_; intro J; kernel_rfl
end
def tT (x : PS) : Ret false := atF Tryz.prog D Hs F.aQu x.1 1 x.2
theorem aAO (b1 : Bool) (i2 : Int) (s3 s4 : ByteArray) (eb0_0 : LE) : bB Tryz.prog D Hs bQ F.aQu [.ptr 0 0,aM b1,aH i2,.leaf (.str s3),.leaf (.str s4)] [[.own (some T.aRj) eb0_0]] = aC b1 (aA (decide ((eb0_0.length + 1) * 40 ≤ aK) && true) (some (.tup [],[[.own (some T.aRj) (eb0_0 ++ [[.int .i64 i2,.str s3,.str s4]])]]))) (some (.tup [],[[.own (some T.aRj) eb0_0]])) := by refine (aI (J := tT D) (by kernel_rfl) (fun _ _ => rfl) []).trans ?_; generalize tT D = J; revert J; refine id ?_; intro J; kernel_rfl
def aCM := atA D F.aRC
theorem aGU (x0 : cA) (s1 : ByteArray) : bB Tryz.prog D Hs bQ F.aRC [.agg x0.l,.leaf (.str s1)] [] = aEI (D F.aRS [.agg x0.l,.leaf (.str s1)] []) fun n => aC ((n == 1) == false) (some (.leaf (.bool (n == 5)),[])) (some (aM true,[])) := by refine (aI (J := aCM D) (by kernel_rfl) (fun _ _ => rfl) []).trans ?_; generalize aCM D = J; revert J; refine id ?_; intro J; kernel_rfl
def uS := atA D F.aQA
theorem aBj (x0 : cA) (s1 : ByteArray) : bB Tryz.prog D Hs bQ F.aQA [.agg x0.l,.leaf (.str s1)] [] = aEI (D F.aRS [.agg x0.l,.leaf (.str s1)] []) fun n => aC ((n == 2) == false) (aC ((n == 3) == false) (some (.leaf (.bool (n == 4)),[])) (some (aM true,[]))) (some (aM true,[])) := by refine (aI (J := uS D) (by kernel_rfl) (fun _ _ => rfl) []).trans ?_; generalize uS D = J; revert J; refine id ?_; intro J; kernel_rfl
def aBt := atA D F.aRz
theorem aFc (x0 : cA) (s1 s2 : ByteArray) : bB Tryz.prog D Hs bQ F.aRz [.agg x0.l,.leaf (.str s1),.leaf (.str s2)] [] = rSl (D F.aQM [.agg x0.l,.leaf (.str s2)] []) fun es => rSl (D F.aQM [.agg x0.l,.leaf (.str s1)] []) fun es_1 => (D F.aQh [vsl es_1,.fn F.aQY [.ptr 0 0]] [[vsl es]]).bind fun r => qW r.snd fun d r_1 => jL d fun d r_2 => vSl d fun es => kN r_2 (kQ r_1 (wN r.fst fun b => some (aM b,[]))) := by refine (aI (J := aBt D) (by kernel_rfl) (fun _ _ => rfl) []).trans ?_; generalize aBt D = J; revert J; refine id ?_; intro J; kernel_rfl
def uB (x : PS) : Ret false := atF Tryz.prog D Hs F.aQw x.1 1 x.2
theorem aAL (e1 eb0_0 : LE) : bB Tryz.prog D Hs bQ F.aQw [.ptr 0 0,vsl e1] [[.own (some T.aRj) eb0_0]] = aA (decide ((eb0_0.length + e1.length) * 40 ≤ aK) && sized 3 e1) (some (.tup [],[[.own (some T.aRj) (eb0_0 ++ e1)]])) := by refine (aI (J := uB D) (by kernel_rfl) (fun _ _ => rfl) []).trans ?_; generalize uB D = J; revert J; refine id ?_; intro J; kernel_rfl
def aEr := atA D F.aSc
theorem aIu (x0 : cA) (s1 : ByteArray) (x2 : bD) : bB Tryz.prog D Hs bQ F.aSc [.agg x0.l,.leaf (.str s1),.agg x2.l] [] = aC (x2.a0 == 1) ((D F.aQ4 [.agg x0.l,.leaf (.str s1),.leaf (.str x2.a2)] []).bind fun r => lX r.fst fun vs => jL vs fun v r => bC.va v fun x => jL r fun v r => wN v fun b => kN r (some (.leaf (.str x.a3),[]))) (aC (!x2.a3.toList == (ByteArray.mk #[]).toList) (some (.leaf (.str x2.a3),[])) (some (.leaf (.str s1),[]))) := by refine (aI (J := aEr D) (by kernel_rfl) (fun _ _ => rfl) []).trans ?_; generalize aEr D = J; revert J; refine id ?_; intro J; kernel_rfl
def aEx := atA D F.aSf
theorem aHM (i0_0 : Int) (b0_1 : Bool) (s0_2 s0_3 : ByteArray) (e0_4 e0_5 e0_6 e0_7 e0_8 : LE) (b0_9 : Bool) (e0_10 : LE) (i1 : Int) : bB Tryz.prog D Hs bQ F.aSf [.agg [.int .i64 i0_0,.bool b0_1,.str s0_2,.str s0_3,.sl fP e0_4,.sl fP e0_5,.sl fP e0_6,.sl fP e0_7,.sl fP e0_8,.bool b0_9,.sl fP e0_10],aH i1] [] = aC (decide (IntKind.i64.wrap (i1 - (↑s0_2.size : Int)) < 0)) (some (aH (-1),[])) (aC (decide (IntKind.i64.wrap (IntKind.i64.wrap (i1 - (↑s0_2.size : Int)) - (↑s0_3.size : Int)) < 0)) (some (aH (-1),[])) ((D F.aQR [vsl e0_4,.leaf (.int .i64 (IntKind.i64.wrap (IntKind.i64.wrap (i1 - (↑s0_2.size : Int)) - (↑s0_3.size : Int))))] []).bind fun r => aL r.fst fun l => cL .i64 l fun n => aC (decide (n < 0)) (some (aH (-1),[])) ((D F.aQz [vsl e0_5,aH n] []).bind fun r => aL r.fst fun l => cL .i64 l fun n => aC (decide (n < 0)) (some (aH (-1),[])) ((D F.aQ1 [vsl e0_6,aH n] []).bind fun r => aL r.fst fun l => cL .i64 l fun n => aC (decide (n < 0)) (some (aH (-1),[])) ((D F.aQJ [vsl e0_7,aH n] []).bind fun r => aL r.fst fun l => cL .i64 l fun n => aC (decide (n < 0)) (some (aH (-1),[])) ((D F.aRu [vsl e0_8,aH n] []).bind fun r => aL r.fst fun l => cL .i64 l fun n => aC (decide (n < 0)) (some (aH (-1),[])) ((D F.aRU [vsl e0_10,aH n] []).bind fun r => aL r.fst fun l => cL .i64 l fun n => aC (decide (n < 0)) (some (aH (-1),[])) (some (aH n,[]))))))))) := by refine (aI (J := aEx D) (by kernel_rfl) (fun _ _ => rfl) []).trans ?_; generalize aEx D = J; revert J; refine id ?_; intro J; kernel_rfl
def aDb := atA D F.aRN
theorem aGM (i0_0 : Int) (s0_1 : ByteArray) (i1 : Int) : bB Tryz.prog D Hs bQ F.aRN [.agg [.int .i64 i0_0,.str s0_1],aH i1] [] = aC (decide (IntKind.i64.wrap (i1 - (↑s0_1.size : Int)) < 0)) (some (aH (-1),[])) (some (.leaf (.int .i64 (IntKind.i64.wrap (i1 - (↑s0_1.size : Int)))),[])) := by refine (aI (J := aDb D) (by kernel_rfl) (fun _ _ => rfl) []).trans ?_; generalize aDb D = J; revert J; refine id ?_; intro J; kernel_rfl
section
variable (e0 : LE) (i1 i5 : Int)
def jG := atA D F.aRD
def rL : PS := ([1,1,1,0,1,0],St.mk ([vsl e0,aH i1,.any,.any,.any,aH i5] ++ cH 21) (noB 27))
theorem xZ : jG D (rL e0 i1 i5) = aC (decide (i5 < (↑e0.length : Int))) (aA (decide (0 ≤ i5) && decide (i5 < (↑e0.length : Int)) && sized 5 e0) (gC (e0.getD i5.toNat []) fun e => atK e 0 fun l => bM l fun s => atK e 1 fun l => cL .i64 l fun n => atK e 2 fun l => bM l fun s_1 => atK e 3 fun l => slK l fun c es => atK e 4 fun l => slK l fun c es_1 => (D F.aSb [.agg [.str s,.int .i64 n,.str s_1,.sl fP es,.sl fP es_1],aH i1] []).bind fun r => aL r.fst fun l => cL .i64 l fun n => aC (decide (n < 0)) (some (aH (-1),[])) (jG D (rL e0 n (IntKind.i64.wrap (i5 + 1)))))) (some (aH i1,[])) := by refine (aQ (J := jG D) (fun _ _ => rfl) [[1,1,1,0,1,0]] _).trans ?_; generalize jG D = J; revert J; refine id ?_; intro J; kernel_rfl
theorem aG7 : bB Tryz.prog D Hs bQ F.aRD [vsl e0,aH i1] [] = aC (decide (IntKind.i64.wrap (i1 - (↑e0.length : Int)) < 0)) (some (aH (-1),[])) (jG D (rL e0 (IntKind.i64.wrap (i1 - (↑e0.length : Int))) 0)) := by refine (aI (J := jG D) (by kernel_rfl) (fun _ _ => rfl) [[1,1,1,0,1,0]]).trans ?_; generalize jG D = J; revert J; refine id ?_; intro J; kernel_rfl
end
section
variable (e0 : LE) (i1 i5 : Int)
def jA := atA D F.aRU
def sA : PS := ([1,1,1,0,1,0],St.mk ([vsl e0,aH i1,.any,.any,.any,aH i5] ++ cH 21) (noB 27))
theorem yF : jA D (sA e0 i1 i5) = aC (decide (i5 < (↑e0.length : Int))) (aA (decide (0 ≤ i5) && decide (i5 < (↑e0.length : Int)) && sized 2 e0) (gC (e0.getD i5.toNat []) fun e => atK e 0 fun l => bM l fun s => atK e 1 fun l => slK l fun c es => (D F.aR7 [.agg [.str s,.sl fP es],aH i1] []).bind fun r => aL r.fst fun l => cL .i64 l fun n => aC (decide (n < 0)) (some (aH (-1),[])) (jA D (sA e0 n (IntKind.i64.wrap (i5 + 1)))))) (some (aH i1,[])) := by refine (aQ (J := jA D) (fun _ _ => rfl) [[1,1,1,0,1,0]] _).trans ?_; generalize jA D = J; revert J; refine id ?_; intro J; kernel_rfl
theorem aG6 : bB Tryz.prog D Hs bQ F.aRU [vsl e0,aH i1] [] = aC (decide (IntKind.i64.wrap (i1 - (↑e0.length : Int)) < 0)) (some (aH (-1),[])) (jA D (sA e0 (IntKind.i64.wrap (i1 - (↑e0.length : Int))) 0)) := by refine (aI (J := jA D) (by kernel_rfl) (fun _ _ => rfl) [[1,1,1,0,1,0]]).trans ?_; generalize jA D = J; revert J; refine id ?_; intro J; kernel_rfl
end
def aE7 := atA D F.aSe
theorem aHl (i0_0 : Int) (b0_1 : Bool) (s0_2 s0_3 : ByteArray) (e0_4 e0_5 e0_6 e0_7 e0_8 : LE) (b0_9 : Bool) (e0_10 : LE) (i1_0 : Int) (b1_1 : Bool) (s1_2 s1_3 : ByteArray) (e1_4 e1_5 e1_6 e1_7 e1_8 : LE) (b1_9 : Bool) (e1_10 : LE) : bB Tryz.prog D Hs bQ F.aSe [.agg [.int .i64 i0_0,.bool b0_1,.str s0_2,.str s0_3,.sl fP e0_4,.sl fP e0_5,.sl fP e0_6,.sl fP e0_7,.sl fP e0_8,.bool b0_9,.sl fP e0_10],.agg [.int .i64 i1_0,.bool b1_1,.str s1_2,.str s1_3,.sl fP e1_4,.sl fP e1_5,.sl fP e1_6,.sl fP e1_7,.sl fP e1_8,.bool b1_9,.sl fP e1_10]] [] = aC (i0_0 != i1_0) (some (aM false,[])) (aC (!b0_1 == b1_1) (some (aM false,[])) (aC (!s0_2.toList == s1_2.toList) (some (aM false,[])) (aC (!s0_3.toList == s1_3.toList) (some (aM false,[])) ((D F.aQZ [vsl e0_4,vsl e1_4] []).bind fun r => aL r.fst fun l => cU l fun b => aC (!b) (some (aM false,[])) ((D F.aQx [vsl e0_5,vsl e1_5] []).bind fun r => aL r.fst fun l => cU l fun b => aC (!b) (some (aM false,[])) ((D F.aQ9 [vsl e0_6,vsl e1_6] []).bind fun r => aL r.fst fun l => cU l fun b => aC (!b) (some (aM false,[])) ((D F.aQO [vsl e0_7,vsl e1_7] []).bind fun r => aL r.fst fun l => cU l fun b => aC (!b) (some (aM false,[])) ((D F.aRl [vsl e0_8,vsl e1_8] []).bind fun r => aL r.fst fun l => cU l fun b => aC (!b) (some (aM false,[])) (aC (!b0_9 == b1_9) (some (aM false,[])) ((D F.aRK [vsl e0_10,vsl e1_10] []).bind fun r => aL r.fst fun l => cU l fun b => aC (!b) (some (aM false,[])) (some (aM true,[])))))))))))) := by refine (aI (J := aE7 D) (by kernel_rfl) (fun _ _ => rfl) []).trans ?_; generalize aE7 D = J; revert J; refine id ?_; intro J; kernel_rfl
def aCS := atA D F.aRJ
theorem aHb (i0_0 : Int) (s0_1 : ByteArray) (i1_0 : Int) (s1_1 : ByteArray) : bB Tryz.prog D Hs bQ F.aRJ [.agg [.int .i64 i0_0,.str s0_1],.agg [.int .i64 i1_0,.str s1_1]] [] = aC (i0_0 != i1_0) (some (aM false,[])) (aC (!s0_1.toList == s1_1.toList) (some (aM false,[])) (some (aM true,[]))) := by refine (aI (J := aCS D) (by kernel_rfl) (fun _ _ => rfl) []).trans ?_; generalize aCS D = J; revert J; refine id ?_; intro J; kernel_rfl
section
variable (e0 e1 : LE) (i5 : Int)
def jD := atA D F.aRX
def rQ : PS := ([1,1,0,1,0],St.mk ([vsl e0,vsl e1,.any,.any,.any,aH i5] ++ cH 21) (noB 27))
theorem xL : jD D (rQ e0 e1 i5) = aC (decide (i5 < (↑e0.length : Int))) (aA (decide (0 ≤ i5) && decide (i5 < (↑e0.length : Int)) && sized 5 e0) (gC (e0.getD i5.toNat []) fun e => atK e 0 fun l => bM l fun s => atK e 1 fun l => cL .i64 l fun n => atK e 2 fun l => bM l fun s_1 => atK e 3 fun l => slK l fun c es => atK e 4 fun l => slK l fun c es_1 => aA (decide (0 ≤ i5) && decide (i5 < (↑e1.length : Int)) && sized 5 e1) (gC (e1.getD i5.toNat []) fun e => atK e 0 fun l => bM l fun s_2 => atK e 1 fun l => cL .i64 l fun n_1 => atK e 2 fun l => bM l fun s_3 => atK e 3 fun l => slK l fun c es_2 => atK e 4 fun l => slK l fun c es_3 => (D F.aR9 [.agg [.str s,.int .i64 n,.str s_1,.sl fP es,.sl fP es_1],.agg [.str s_2,.int .i64 n_1,.str s_3,.sl fP es_2,.sl fP es_3]] []).bind fun r => aL r.fst fun l => cU l fun b => aC (!b) (some (aM false,[])) (jD D (rQ e0 e1 (IntKind.i64.wrap (i5 + 1))))))) (some (aM true,[])) := by refine (aQ (J := jD D) (fun _ _ => rfl) [[1,1,0,1,0]] _).trans ?_; generalize jD D = J; revert J; refine id ?_; intro J; kernel_rfl
theorem aG0 : bB Tryz.prog D Hs bQ F.aRX [vsl e0,vsl e1] [] = aC ((↑e0.length : Int) != (↑e1.length : Int)) (some (aM false,[])) (jD D (rQ e0 e1 0)) := by refine (aI (J := jD D) (by kernel_rfl) (fun _ _ => rfl) [[1,1,0,1,0]]).trans ?_; generalize jD D = J; revert J; refine id ?_; intro J; kernel_rfl
end
section
variable (e0 e1 : LE) (i5 : Int)
def jC := atA D F.aRK
def rT : PS := ([1,1,0,1,0],St.mk ([vsl e0,vsl e1,.any,.any,.any,aH i5] ++ cH 21) (noB 27))
theorem yS : jC D (rT e0 e1 i5) = aC (decide (i5 < (↑e0.length : Int))) (aA (decide (0 ≤ i5) && decide (i5 < (↑e0.length : Int)) && sized 2 e0) (gC (e0.getD i5.toNat []) fun e => atK e 0 fun l => bM l fun s => atK e 1 fun l => slK l fun c es => aA (decide (0 ≤ i5) && decide (i5 < (↑e1.length : Int)) && sized 2 e1) (gC (e1.getD i5.toNat []) fun e => atK e 0 fun l => bM l fun s_1 => atK e 1 fun l => slK l fun c es_1 => (D F.aSd [.agg [.str s,.sl fP es],.agg [.str s_1,.sl fP es_1]] []).bind fun r => aL r.fst fun l => cU l fun b => aC (!b) (some (aM false,[])) (jC D (rT e0 e1 (IntKind.i64.wrap (i5 + 1))))))) (some (aM true,[])) := by refine (aQ (J := jC D) (fun _ _ => rfl) [[1,1,0,1,0]] _).trans ?_; generalize jC D = J; revert J; refine id ?_; intro J; kernel_rfl
theorem aGO : bB Tryz.prog D Hs bQ F.aRK [vsl e0,vsl e1] [] = aC ((↑e0.length : Int) != (↑e1.length : Int)) (some (aM false,[])) (jC D (rT e0 e1 0)) := by refine (aI (J := jC D) (by kernel_rfl) (fun _ _ => rfl) [[1,1,0,1,0]]).trans ?_; generalize jC D = J; revert J; refine id ?_; intro J; kernel_rfl
end
section
variable (x0 : cA) (s1 : ByteArray) (i5 : Int) (b16 : Bool) (x2 : cA)
def eC := atA D F.aRT
def rP : PS := ([1,0,1,0],St.mk ([.any,.leaf (.str s1),.ptr 2 0,.any,.any,aH i5] ++ cH 22) ([none,none,some x2.b] ++ noB 25))
def wR : PS := ([1,0,1,0,0,0,1],St.mk ([.any,.leaf (.str s1),.ptr 2 0,.any,.any,aH i5] ++ cH 10 ++ [aM b16] ++ cH 11) ([none,none,some x2.b] ++ noB 25))
def aCQ : List (List Nat) := [[1,0,1,0],[1,0,1,0,0,0,1]]
theorem rC : eC D (rP s1 i5 x2) = aC (decide (i5 < (↑x2.a0.length : Int)) == true) (eC D (wR s1 i5 (decide ((↑x2.a0.length : Int) ≤ 60)) x2)) (eC D (wR s1 i5 false x2)) := by refine (aQ (J := eC D) (fun _ _ => rfl) aCQ _).trans ?_; generalize eC D = J; revert J; refine id ?_; intro J; kernel_rfl
theorem rF : eC D (wR s1 i5 b16 x2) = aC b16 (aA (decide (0 ≤ i5) && decide (i5 < (↑x2.a0.length : Int)) && sized 11 x2.a0) (gD (x2.a0.getD i5.toNat []) 3 fun s => aC (s.toList == s1.toList) (some (aH i5,[])) (eC D (rP s1 (IntKind.i64.wrap (i5 + 1)) x2)))) (some (aH (-1),[])) := by refine (aQ (J := eC D) (fun _ _ => rfl) aCQ _).trans ?_; generalize eC D = J; revert J; refine id ?_; intro J; kernel_rfl
theorem aG4 : bB Tryz.prog D Hs bQ F.aRT [.agg x0.l,.leaf (.str s1)] [] = eC D (rP s1 0 x0) := by refine (aI (J := eC D) (by kernel_rfl) (fun _ _ => rfl) [[1,0,1,0],[1,0,1,0,0,0,1]]).trans ?_; generalize eC D = J; revert J; refine id ?_; intro J; kernel_rfl
end
def aCY := atA D F.aRE
theorem aGR (x0 : cA) (s1 : ByteArray) : bB Tryz.prog D Hs bQ F.aRE [.agg x0.l,.leaf (.str s1)] [] = aEI (D F.aRT [.agg x0.l,.leaf (.str s1)] []) fun n => aC (decide (n ≥ 0)) (aA (decide (0 ≤ n) && decide (n < (↑x0.a0.length : Int)) && sized 11 x0.a0) (wZ (x0.a0.getD n.toNat []) 0 fun n => some (aH n,[]))) (mQ (D F.aRo [.leaf (.str s1)] []) fun b => aC b (some (aH 1,[])) (some (aH 0,[]))) := by refine (aI (J := aCY D) (by kernel_rfl) (fun _ _ => rfl) []).trans ?_; generalize aCY D = J; revert J; refine id ?_; intro J; kernel_rfl
section
variable (e0 : LE) (s1 : ByteArray) (i5 : Int)
def jE := atA D F.aRI
def rO : PS := ([1,0,1,0],St.mk ([vsl e0,.leaf (.str s1),.any,.any,.any,aH i5] ++ cH 12) (noB 18))
theorem yT : jE D (rO e0 s1 i5) = aC (decide (i5 < (↑e0.length : Int))) (aA (decide (0 ≤ i5) && decide (i5 < (↑e0.length : Int)) && sized 1 e0) (gD (e0.getD i5.toNat []) 0 fun s => aC (s.toList == s1.toList) (some (aM true,[])) (jE D (rO e0 s1 (IntKind.i64.wrap (i5 + 1)))))) (some (aM false,[])) := by refine (aQ (J := jE D) (fun _ _ => rfl) [[1,0,1,0]] _).trans ?_; generalize jE D = J; revert J; refine id ?_; intro J; kernel_rfl
theorem aG5 : bB Tryz.prog D Hs bQ F.aRI [vsl e0,.leaf (.str s1)] [] = jE D (rO e0 s1 0) := by refine (aI (J := jE D) (by kernel_rfl) (fun _ _ => rfl) [[1,0,1,0]]).trans ?_; generalize jE D = J; revert J; refine id ?_; intro J; kernel_rfl
end
section
variable (x0 : cA) (s1 : ByteArray) (e5 : LE) (i8 : Int) (b68 : Bool) (x2 : cA) (x7 x9 : aN)
def aW := atA D F.aQD
def kC : PS := ([1,1,1,1,1,0,1,0],St.mk ([.any,.leaf (.str s1),.ptr 2 0,.any,.any,.own (some T.aSh) e5,.any,.ptr 7 0,aH i8] ++ cH 67) ([none,none,some x2.b,none,none,none,none,some x7.b] ++ noB 68))
def mN : PS := ([1,1,1,1,1,0,1,0,0,1,1],St.mk ([.any,.leaf (.str s1),.ptr 2 0,.any,.any,.own (some T.aSh) e5,.any,.ptr 7 0,aH i8] ++ cH 67) ([none,none,some x2.b,none,none,none,none,some x7.b] ++ noB 68))
def cO : PS := ([1,1,1,1,1,0,1,0,0,1,0,0,1,1,1],St.mk ([.any,.leaf (.str s1),.ptr 2 0,.any,.any,.own (some T.aSh) e5,.any,.ptr 7 0,aH i8,.ptr 9 0] ++ cH 58 ++ [aM b68] ++ cH 7) ([none,none,some x2.b,none,none,none,none,some x7.b,none,some x9.b] ++ noB 66))
def pX : List (List Nat) := [[1,1,1,1,1,0,1,0],[1,1,1,1,1,0,1,0,0,1,1],[1,1,1,1,1,0,1,0,0,1,0,0,1,1,1]]
theorem sY : aW D (kC s1 e5 i8 x2 x7) = aC (decide (i8 < (↑x2.a0.length : Int))) (aA (decide (0 ≤ i8) && decide (i8 < (↑x2.a0.length : Int)) && sized 11 x2.a0) (aN.rd (x2.a0.getD i8.toNat []) fun x => aC (x.a0 != 2) (aW D (mN s1 e5 i8 x2 x7)) (aC ((x7.a0 == 2) == true) (aC ((x.a3.toList == s1.toList) == false) (aC ((x7.a0 == 3) == true) (mQ (D F.aRI [.leaf (.sl fP x.a4),.leaf (.str s1)] []) fun b => aC (b == false) (aC ((x7.a0 == 4) == true) (mQ (D F.aRI [.leaf (.sl fP x7.a4),.leaf (.str x.a3)] []) fun b => aW D (cO s1 e5 i8 b x2 x7 x)) (aW D (cO s1 e5 i8 false x2 x7 x))) (aW D (cO s1 e5 i8 true x2 x7 x))) (aC ((x7.a0 == 4) == true) (mQ (D F.aRI [.leaf (.sl fP x7.a4),.leaf (.str x.a3)] []) fun b => aW D (cO s1 e5 i8 b x2 x7 x)) (aW D (cO s1 e5 i8 false x2 x7 x)))) (aW D (cO s1 e5 i8 true x2 x7 x))) (aC ((x7.a0 == 3) == true) (mQ (D F.aRI [.leaf (.sl fP x.a4),.leaf (.str s1)] []) fun b => aC (b == false) (aC ((x7.a0 == 4) == true) (mQ (D F.aRI [.leaf (.sl fP x7.a4),.leaf (.str x.a3)] []) fun b => aW D (cO s1 e5 i8 b x2 x7 x)) (aW D (cO s1 e5 i8 false x2 x7 x))) (aW D (cO s1 e5 i8 true x2 x7 x))) (aC ((x7.a0 == 4) == true) (mQ (D F.aRI [.leaf (.sl fP x7.a4),.leaf (.str x.a3)] []) fun b => aW D (cO s1 e5 i8 b x2 x7 x)) (aW D (cO s1 e5 i8 false x2 x7 x))))))) (aFd T.aSh (D F.aQV [vsl e5] []) fun es => some (.own (some T.aSh) es,[])) := by refine (aQ (J := aW D) (fun _ _ => rfl) pX _).trans ?_; generalize aW D = J; revert J; refine id ?_; intro J; kernel_rfl
theorem sX : aW D (mN s1 e5 i8 x2 x7) = aW D (kC s1 e5 (IntKind.i64.wrap (i8 + 1)) x2 x7) := by refine (aQ (J := aW D) (fun _ _ => rfl) pX _).trans ?_; generalize aW D = J; revert J; refine id ?_; intro J; kernel_rfl
theorem aA1 : aW D (cO s1 e5 i8 b68 x2 x7 x9) = aC b68 (aA (decide ((e5.length + 1) * 16 ≤ aK) && true) (aW D (mN s1 (e5 ++ [[.str x9.a3]]) i8 x2 x7))) (aW D (mN s1 e5 i8 x2 x7)) := by refine (aQ (J := aW D) (fun _ _ => rfl) pX _).trans ?_; generalize aW D = J; revert J; refine id ?_; intro J; kernel_rfl
theorem aCq : bB Tryz.prog D Hs bQ F.aQD [.agg x0.l,.leaf (.str s1)] [] = aEI (D F.aRT [.agg x0.l,.leaf (.str s1)] []) fun n => aC (decide (n < 0)) (some (.own (some T.aSh) [],[])) (aA (decide (0 ≤ n) && decide (n < (↑x0.a0.length : Int)) && sized 11 x0.a0) (aN.rd (x0.a0.getD n.toNat []) fun x => aW D (kC s1 [] 0 x0 x))) := by refine (aI (J := aW D) (by kernel_rfl) (fun _ _ => rfl) [[1,1,1,1,1,0,1,0],[1,1,1,1,1,0,1,0,0,1,1],[1,1,1,1,1,0,1,0,0,1,0,0,1,1,1]]).trans ?_; generalize aW D = J; revert J; refine id ?_; intro J; kernel_rfl
end
def aBu := atA D F.aRw
theorem aF5 (x0 : cA) (s1 : ByteArray) : bB Tryz.prog D Hs bQ F.aRw [.agg x0.l,.leaf (.str s1)] [] = aEI (D F.aRP [.agg x0.l,.leaf (.str s1)] []) fun n => aC (decide (n < 0)) (some (.tup [.agg (aN.l ⟨0,false,ByteArray.mk #[],ByteArray.mk #[],[],[],[],[],[],false,[]⟩),aM false],[])) (aA (decide (0 ≤ n) && decide (n < (↑x0.a0.length : Int)) && sized 11 x0.a0) (aN.rd (x0.a0.getD n.toNat []) fun x => some (.tup [.agg x.l,aM true],[]))) := by refine (aI (J := aBu D) (by kernel_rfl) (fun _ _ => rfl) []).trans ?_; generalize aBu D = J; revert J; refine id ?_; intro J; kernel_rfl
def aB0 := atA D F.aRq
theorem aGh (x0 : aN) (s1 : ByteArray) : bB Tryz.prog D Hs bQ F.aRq [.agg x0.l,.leaf (.str s1)] [] = aMH (D F.aQf [.leaf (.sl fP x0.a5),.fn F.aQ0 [.ptr 0 0]] [[.leaf (.str s1)]]) fun s n => aC (decide (n < 0)) (some (.tup [.agg (bC.l ⟨ByteArray.mk #[],ByteArray.mk #[],[],ByteArray.mk #[],ByteArray.mk #[],[]⟩),aM false],[])) (aA (decide (0 ≤ n) && decide (n < (↑x0.a5.length : Int)) && sized 6 x0.a5) (bC.rd (x0.a5.getD n.toNat []) fun x => some (.tup [.agg x.l,aM true],[]))) := by refine (aI (J := aB0 D) (by kernel_rfl) (fun _ _ => rfl) []).trans ?_; generalize aB0 D = J; revert J; refine id ?_; intro J; kernel_rfl
def aCU := atA D F.aRS
theorem aHc (x0 : cA) (s1 : ByteArray) : bB Tryz.prog D Hs bQ F.aRS [.agg x0.l,.leaf (.str s1)] [] = (D F.aRw [.agg x0.l,.leaf (.str s1)] []).bind fun r => lX r.fst fun vs => jL vs fun v r => aN.va v fun x => jL r fun v r => wN v fun b => kN r (aC b (some (.leaf (.int .i64 x.a0),[])) (mQ (D F.aRv [.leaf (.str s1)] []) fun b => aC b (some (aH 1,[])) (some (aH 0,[])))) := by refine (aI (J := aCU D) (by kernel_rfl) (fun _ _ => rfl) []).trans ?_; generalize aCU D = J; revert J; refine id ?_; intro J; kernel_rfl
section
variable (x0 : cA) (s1 : ByteArray) (e7 : LE) (b10 : Bool) (e19 : LE) (i20 i21 : Int) (b51 : Bool) (x2 : cA) (x5 x9 : aN)
def aX := atA D F.aQM
def gL : PS := ([1,1,1,0,1,0],St.mk ([.any,.leaf (.str s1),.any,.any,.any,.ptr 5 0,.any,SV.raw (some T.aSh) e7] ++ cH 11 ++ [vsl e19,aH i20,aH i21] ++ cH 40) ([none,none,some x2.b,none,none,some x5.b] ++ noB 56))
def iJ : PS := ([1,1,1,0,1,0,0,1,1,0,0,1,1,1],St.mk ([.any,.leaf (.str s1),.any,.any,.any,.ptr 5 0,.any,SV.raw (some T.aSh) e7,.any,.ptr 9 0,aM b10] ++ cH 8 ++ [vsl e19,aH i20,aH i21] ++ cH 40) ([none,none,some x2.b,none,none,some x5.b,none,none,none,some x9.b] ++ noB 52))
def mH : PS := ([1,1,1,0,1,0,0,1,1,0,0,1,1,1,1],St.mk ([.any,.leaf (.str s1),.any,.any,.any,.ptr 5 0,.any,SV.raw (some T.aSh) e7,.any,.ptr 9 0] ++ cH 9 ++ [vsl e19,aH i20,aH i21] ++ cH 29 ++ [aM b51] ++ cH 10) ([none,none,some x2.b,none,none,some x5.b,none,none,none,some x9.b] ++ noB 52))
def qF : PS := ([1,1,1,0,1,0,0,1,1,1],St.mk ([.any,.leaf (.str s1),.any,.any,.any,.ptr 5 0,.any,SV.raw (some T.aSh) e7] ++ cH 11 ++ [vsl e19,aH i20,aH i21] ++ cH 40) ([none,none,some x2.b,none,none,some x5.b,none,none,none,some x9.b] ++ noB 52))
def mP : List (List Nat) := [[1,1,1,0,1,0],[1,1,1,0,1,0,0,1,1,1],[1,1,1,0,1,0,0,1,1,0,0,1,1,1],[1,1,1,0,1,0,0,1,1,0,0,1,1,1,1]]
theorem sI : aX D (gL s1 e7 e19 i20 i21 x2 x5) = aC (decide (i21 < i20)) (aA (decide (0 ≤ i21) && decide (i21 < (↑e19.length : Int)) && sized 11 e19) (aN.rd (e19.getD i21.toNat []) fun x => aC (x5.a0 == 2) (aX D (iJ s1 e7 (x.a3.toList == s1.toList) e19 i20 i21 x2 x5 x)) (aC (x5.a0 == 3) (mQ (D F.aQj [.leaf (.sl fP x.a4),.leaf (.str s1)] []) fun b => aX D (iJ s1 e7 b e19 i20 i21 x2 x5 x)) (aC (x5.a0 == 4) (mQ (D F.aQj [.leaf (.sl fP x5.a4),.leaf (.str x.a3)] []) fun b => aX D (iJ s1 e7 b e19 i20 i21 x2 x5 x)) (aX D (iJ s1 e7 false e19 i20 i21 x2 x5 x)))))) (aA ([aAJ e7].all fun x => x.all SV.flat) ((D F.aQm [.bsl 0 1 0 e7.length] [aAJ e7]).bind fun r => qW r.snd fun d r_1 => kQ r_1 (lX r.fst fun vs => kN vs (aA ([d].all fun x => x.all SV.flat) ((D F.aQk [.bsl 0 1 0 e7.length] [d]).bind fun r => qW r.snd fun d r_2 => kQ r_2 (aB3 0 1 r.fst fun lo n => aA (lo == 0 && true) (aA (decide (n * 1 ≤ d.length)) ((bX (List.take (n * 1) d)).bind fun l => some (vsl (hU 1 n l),[]))))))))) := by refine (aQ (J := aX D) (fun _ _ => rfl) mP _).trans ?_; generalize aX D = J; revert J; refine id ?_; intro J; kernel_rfl
theorem aBa : aX D (iJ s1 e7 b10 e19 i20 i21 x2 x5 x9) = aC (b10 == true) (aX D (mH s1 e7 e19 i20 i21 (x9.a0 == 2) x2 x5 x9)) (aX D (mH s1 e7 e19 i20 i21 false x2 x5 x9)) := by refine (aQ (J := aX D) (fun _ _ => rfl) mP _).trans ?_; generalize aX D = J; revert J; refine id ?_; intro J; kernel_rfl
theorem aCb : aX D (mH s1 e7 e19 i20 i21 b51 x2 x5 x9) = aC b51 (aA (decide ((e7.length + 1) * 16 ≤ aK) && true) (aX D (qF s1 (e7 ++ [[.str x9.a3]]) e19 i20 i21 x2 x5 x9))) (aX D (qF s1 e7 e19 i20 i21 x2 x5 x9)) := by refine (aQ (J := aX D) (fun _ _ => rfl) mP _).trans ?_; generalize aX D = J; revert J; refine id ?_; intro J; kernel_rfl
theorem aB8 : aX D (qF s1 e7 e19 i20 i21 x2 x5 x9) = aX D (gL s1 e7 e19 i20 (IntKind.i64.wrap (i21 + 1)) x2 x5) := by refine (aQ (J := aX D) (fun _ _ => rfl) mP _).trans ?_; generalize aX D = J; revert J; refine id ?_; intro J; kernel_rfl
theorem aCI : bB Tryz.prog D Hs bQ F.aQM [.agg x0.l,.leaf (.str s1)] [] = (D F.aRw [.agg x0.l,.leaf (.str s1)] []).bind fun r => lX r.fst fun vs => jL vs fun v r => aN.va v fun x => jL r fun v r => wN v fun b => kN r (aX D (gL s1 [] x0.a0 (↑x0.a0.length : Int) 0 x0 x)) := by refine (aI (J := aX D) (by kernel_rfl) (fun _ _ => rfl) [[1,1,1,0,1,0],[1,1,1,0,1,0,0,1,1,1],[1,1,1,0,1,0,0,1,1,0,0,1,1,1],[1,1,1,0,1,0,0,1,1,0,0,1,1,1,1]]).trans ?_; generalize aX D = J; revert J; refine id ?_; intro J; kernel_rfl
end
def gJ (x : PS) : Ret false := atF Tryz.prog D Hs F.aQh x.1 1 x.2
theorem lD (e0 : LE) (n1 : Nat) (eb0_0 : LE) : bB Tryz.prog D Hs bQ F.aQh [vsl e0,.fn n1 [.ptr 0 0]] [[vsl eb0_0]] = (D F.aQi [vsl e0,.fn n1 [.ptr 0 0]] [[vsl eb0_0]]).bind fun r => qW r.snd fun d r_1 => jL d fun d r_2 => vSl d fun es => kN r_2 (kQ r_1 (aKU r.fst fun n => some (.leaf (.bool (decide (n ≥ 0))),[[vsl es]]))) := by refine (aI (J := gJ D) (by kernel_rfl) (fun _ _ => rfl) []).trans ?_; generalize gJ D = J; revert J; refine id ?_; intro J; kernel_rfl
section
variable (e0 : LE) (i1 i5 : Int)
def fV := atA D F.aQR
def nO : PS := ([1,1,1,0,1,0],St.mk ([vsl e0,aH i1,.any,.any,.any,aH i5] ++ cH 22) (noB 28))
theorem uE : fV D (nO e0 i1 i5) = aC (decide (i5 < (↑e0.length : Int))) (aA (decide (0 ≤ i5) && decide (i5 < (↑e0.length : Int)) && sized 1 e0) (atK (e0.getD i5.toNat []) 0 fun l => bM l fun s => aC (decide (IntKind.i64.wrap (i1 - (↑s.size : Int)) < 0)) (some (aH (-1),[])) (fV D (nO e0 (IntKind.i64.wrap (i1 - (↑s.size : Int))) (IntKind.i64.wrap (i5 + 1)))))) (some (aH i1,[])) := by refine (aQ (J := fV D) (fun _ _ => rfl) [[1,1,1,0,1,0]] _).trans ?_; generalize fV D = J; revert J; refine id ?_; intro J; kernel_rfl
theorem aDy : bB Tryz.prog D Hs bQ F.aQR [vsl e0,aH i1] [] = aC (decide (IntKind.i64.wrap (i1 - (↑e0.length : Int)) < 0)) (some (aH (-1),[])) (fV D (nO e0 (IntKind.i64.wrap (i1 - (↑e0.length : Int))) 0)) := by refine (aI (J := fV D) (by kernel_rfl) (fun _ _ => rfl) [[1,1,1,0,1,0]]).trans ?_; generalize fV D = J; revert J; refine id ?_; intro J; kernel_rfl
end
section
variable (e0 : LE) (i1 i5 : Int)
def eS := atA D F.aQz
def lO : PS := ([1,1,1,0,1,0],St.mk ([vsl e0,aH i1,.any,.any,.any,aH i5] ++ cH 21) (noB 27))
theorem rA : eS D (lO e0 i1 i5) = aC (decide (i5 < (↑e0.length : Int))) (aA (decide (0 ≤ i5) && decide (i5 < (↑e0.length : Int)) && sized 6 e0) (gC (e0.getD i5.toNat []) fun e => atK e 0 fun l => bM l fun s => atK e 1 fun l => bM l fun s_1 => atK e 2 fun l => slK l fun c es => atK e 3 fun l => bM l fun s_2 => atK e 4 fun l => bM l fun s_3 => atK e 5 fun l => slK l fun c es_1 => (D F.aQH [.agg [.str s,.str s_1,.sl fP es,.str s_2,.str s_3,.sl fP es_1],aH i1] []).bind fun r => aL r.fst fun l => cL .i64 l fun n => aC (decide (n < 0)) (some (aH (-1),[])) (eS D (lO e0 n (IntKind.i64.wrap (i5 + 1)))))) (some (aH i1,[])) := by refine (aQ (J := eS D) (fun _ _ => rfl) [[1,1,1,0,1,0]] _).trans ?_; generalize eS D = J; revert J; refine id ?_; intro J; kernel_rfl
theorem aBz : bB Tryz.prog D Hs bQ F.aQz [vsl e0,aH i1] [] = aC (decide (IntKind.i64.wrap (i1 - (↑e0.length : Int)) < 0)) (some (aH (-1),[])) (eS D (lO e0 (IntKind.i64.wrap (i1 - (↑e0.length : Int))) 0)) := by refine (aI (J := eS D) (by kernel_rfl) (fun _ _ => rfl) [[1,1,1,0,1,0]]).trans ?_; generalize eS D = J; revert J; refine id ?_; intro J; kernel_rfl
end
section
variable (e0 : LE) (i1 i5 : Int)
def gU := atA D F.aQ1
def oP : PS := ([1,1,1,0,1,0],St.mk ([vsl e0,aH i1,.any,.any,.any,aH i5] ++ cH 21) (noB 27))
theorem uM : gU D (oP e0 i1 i5) = aC (decide (i5 < (↑e0.length : Int))) (aA (decide (0 ≤ i5) && decide (i5 < (↑e0.length : Int)) && sized 10 e0) (gC (e0.getD i5.toNat []) fun e => atK e 0 fun l => bM l fun s => atK e 1 fun l => bM l fun s_1 => atK e 2 fun l => bM l fun s_2 => atK e 3 fun l => bM l fun s_3 => atK e 4 fun l => cU l fun b => atK e 5 fun l => cL .i64 l fun n => atK e 6 fun l => bM l fun s_4 => atK e 7 fun l => slK l fun c es => atK e 8 fun l => slK l fun c es_1 => atK e 9 fun l => slK l fun c es_2 => (D F.aRk [.agg [.str s,.str s_1,.str s_2,.str s_3,.bool b,.int .i64 n,.str s_4,.sl fP es,.sl fP es_1,.sl fP es_2],aH i1] []).bind fun r => aL r.fst fun l => cL .i64 l fun n => aC (decide (n < 0)) (some (aH (-1),[])) (gU D (oP e0 n (IntKind.i64.wrap (i5 + 1)))))) (some (aH i1,[])) := by refine (aQ (J := gU D) (fun _ _ => rfl) [[1,1,1,0,1,0]] _).trans ?_; generalize gU D = J; revert J; refine id ?_; intro J; kernel_rfl
theorem aEk : bB Tryz.prog D Hs bQ F.aQ1 [vsl e0,aH i1] [] = aC (decide (IntKind.i64.wrap (i1 - (↑e0.length : Int)) < 0)) (some (aH (-1),[])) (gU D (oP e0 (IntKind.i64.wrap (i1 - (↑e0.length : Int))) 0)) := by refine (aI (J := gU D) (by kernel_rfl) (fun _ _ => rfl) [[1,1,1,0,1,0]]).trans ?_; generalize gU D = J; revert J; refine id ?_; intro J; kernel_rfl
end
section
variable (e0 : LE) (i1 i5 : Int)
def fN := atA D F.aQJ
def mJ : PS := ([1,1,1,0,1,0],St.mk ([vsl e0,aH i1,.any,.any,.any,aH i5] ++ cH 21) (noB 27))
theorem sJ : fN D (mJ e0 i1 i5) = aC (decide (i5 < (↑e0.length : Int))) (aA (decide (0 ≤ i5) && decide (i5 < (↑e0.length : Int)) && sized 3 e0) (gC (e0.getD i5.toNat []) fun e => atK e 0 fun l => bM l fun s => atK e 1 fun l => bM l fun s_1 => atK e 2 fun l => slK l fun c es => (D F.aQX [.agg [.str s,.str s_1,.sl fP es],aH i1] []).bind fun r => aL r.fst fun l => cL .i64 l fun n => aC (decide (n < 0)) (some (aH (-1),[])) (fN D (mJ e0 n (IntKind.i64.wrap (i5 + 1)))))) (some (aH i1,[])) := by refine (aQ (J := fN D) (fun _ _ => rfl) [[1,1,1,0,1,0]] _).trans ?_; generalize fN D = J; revert J; refine id ?_; intro J; kernel_rfl
theorem aCr : bB Tryz.prog D Hs bQ F.aQJ [vsl e0,aH i1] [] = aC (decide (IntKind.i64.wrap (i1 - (↑e0.length : Int)) < 0)) (some (aH (-1),[])) (fN D (mJ e0 (IntKind.i64.wrap (i1 - (↑e0.length : Int))) 0)) := by refine (aI (J := fN D) (by kernel_rfl) (fun _ _ => rfl) [[1,1,1,0,1,0]]).trans ?_; generalize fN D = J; revert J; refine id ?_; intro J; kernel_rfl
end
def aEu := atA D F.aSb
theorem aIg (s0_0 : ByteArray) (i0_1 : Int) (s0_2 : ByteArray) (e0_3 e0_4 : LE) (i1 : Int) : bB Tryz.prog D Hs bQ F.aSb [.agg [.str s0_0,.int .i64 i0_1,.str s0_2,.sl fP e0_3,.sl fP e0_4],aH i1] [] = aC (decide (IntKind.i64.wrap (i1 - (↑s0_0.size : Int)) < 0)) (some (aH (-1),[])) ((D F.aRt [.agg [.int .i64 i0_1,.str s0_2,.sl fP e0_3,.sl fP e0_4],.leaf (.int .i64 (IntKind.i64.wrap (i1 - (↑s0_0.size : Int))))] []).bind fun r => aL r.fst fun l => cL .i64 l fun n => aC (decide (n < 0)) (some (aH (-1),[])) (some (aH n,[]))) := by refine (aI (J := aEu D) (by kernel_rfl) (fun _ _ => rfl) []).trans ?_; generalize aEu D = J; revert J; refine id ?_; intro J; kernel_rfl
def aEg := atA D F.aR7
theorem aH0 (s0_0 : ByteArray) (e0_1 : LE) (i1 : Int) : bB Tryz.prog D Hs bQ F.aR7 [.agg [.str s0_0,.sl fP e0_1],aH i1] [] = aC (decide (IntKind.i64.wrap (i1 - (↑s0_0.size : Int)) < 0)) (some (aH (-1),[])) ((D F.aRD [vsl e0_1,.leaf (.int .i64 (IntKind.i64.wrap (i1 - (↑s0_0.size : Int))))] []).bind fun r => aL r.fst fun l => cL .i64 l fun n => aC (decide (n < 0)) (some (aH (-1),[])) (some (aH n,[]))) := by refine (aI (J := aEg D) (by kernel_rfl) (fun _ _ => rfl) []).trans ?_; generalize aEg D = J; revert J; refine id ?_; intro J; kernel_rfl
section
variable (e0 e1 : LE) (i5 : Int)
def gA := atA D F.aQZ
def nJ : PS := ([1,1,0,1,0],St.mk ([vsl e0,vsl e1,.any,.any,.any,aH i5] ++ cH 20) (noB 26))
theorem tR : gA D (nJ e0 e1 i5) = aC (decide (i5 < (↑e0.length : Int))) (aA (decide (0 ≤ i5) && decide (i5 < (↑e0.length : Int)) && sized 1 e0) (atK (e0.getD i5.toNat []) 0 fun l => bM l fun s => aA (decide (0 ≤ i5) && decide (i5 < (↑e1.length : Int)) && sized 1 e1) (atK (e1.getD i5.toNat []) 0 fun l => bM l fun s_1 => aC (!s.toList == s_1.toList) (some (aM false,[])) (gA D (nJ e0 e1 (IntKind.i64.wrap (i5 + 1))))))) (some (aM true,[])) := by refine (aQ (J := gA D) (fun _ _ => rfl) [[1,1,0,1,0]] _).trans ?_; generalize gA D = J; revert J; refine id ?_; intro J; kernel_rfl
theorem aDR : bB Tryz.prog D Hs bQ F.aQZ [vsl e0,vsl e1] [] = aC ((↑e0.length : Int) != (↑e1.length : Int)) (some (aM false,[])) (gA D (nJ e0 e1 0)) := by refine (aI (J := gA D) (by kernel_rfl) (fun _ _ => rfl) [[1,1,0,1,0]]).trans ?_; generalize gA D = J; revert J; refine id ?_; intro J; kernel_rfl
end
section
variable (e0 e1 : LE) (i5 : Int)
def eW := atA D F.aQx
def lN : PS := ([1,1,0,1,0],St.mk ([vsl e0,vsl e1,.any,.any,.any,aH i5] ++ cH 21) (noB 27))
theorem qX : eW D (lN e0 e1 i5) = aC (decide (i5 < (↑e0.length : Int))) (aA (decide (0 ≤ i5) && decide (i5 < (↑e0.length : Int)) && sized 6 e0) (gC (e0.getD i5.toNat []) fun e => atK e 0 fun l => bM l fun s => atK e 1 fun l => bM l fun s_1 => atK e 2 fun l => slK l fun c es => atK e 3 fun l => bM l fun s_2 => atK e 4 fun l => bM l fun s_3 => atK e 5 fun l => slK l fun c es_1 => aA (decide (0 ≤ i5) && decide (i5 < (↑e1.length : Int)) && sized 6 e1) (gC (e1.getD i5.toNat []) fun e => atK e 0 fun l => bM l fun s_4 => atK e 1 fun l => bM l fun s_5 => atK e 2 fun l => slK l fun c es_2 => atK e 3 fun l => bM l fun s_6 => atK e 4 fun l => bM l fun s_7 => atK e 5 fun l => slK l fun c es_3 => (D F.aQI [.agg [.str s,.str s_1,.sl fP es,.str s_2,.str s_3,.sl fP es_1],.agg [.str s_4,.str s_5,.sl fP es_2,.str s_6,.str s_7,.sl fP es_3]] []).bind fun r => aL r.fst fun l => cU l fun b => aC (!b) (some (aM false,[])) (eW D (lN e0 e1 (IntKind.i64.wrap (i5 + 1))))))) (some (aM true,[])) := by refine (aQ (J := eW D) (fun _ _ => rfl) [[1,1,0,1,0]] _).trans ?_; generalize eW D = J; revert J; refine id ?_; intro J; kernel_rfl
theorem aBR : bB Tryz.prog D Hs bQ F.aQx [vsl e0,vsl e1] [] = aC ((↑e0.length : Int) != (↑e1.length : Int)) (some (aM false,[])) (eW D (lN e0 e1 0)) := by refine (aI (J := eW D) (by kernel_rfl) (fun _ _ => rfl) [[1,1,0,1,0]]).trans ?_; generalize eW D = J; revert J; refine id ?_; intro J; kernel_rfl
end
section
variable (e0 e1 : LE) (i5 : Int)
def gY := atA D F.aQ9
def pB : PS := ([1,1,0,1,0],St.mk ([vsl e0,vsl e1,.any,.any,.any,aH i5] ++ cH 21) (noB 27))
theorem vF : gY D (pB e0 e1 i5) = aC (decide (i5 < (↑e0.length : Int))) (aA (decide (0 ≤ i5) && decide (i5 < (↑e0.length : Int)) && sized 10 e0) (gC (e0.getD i5.toNat []) fun e => atK e 0 fun l => bM l fun s => atK e 1 fun l => bM l fun s_1 => atK e 2 fun l => bM l fun s_2 => atK e 3 fun l => bM l fun s_3 => atK e 4 fun l => cU l fun b => atK e 5 fun l => cL .i64 l fun n => atK e 6 fun l => bM l fun s_4 => atK e 7 fun l => slK l fun c es => atK e 8 fun l => slK l fun c es_1 => atK e 9 fun l => slK l fun c es_2 => aA (decide (0 ≤ i5) && decide (i5 < (↑e1.length : Int)) && sized 10 e1) (gC (e1.getD i5.toNat []) fun e => atK e 0 fun l => bM l fun s_5 => atK e 1 fun l => bM l fun s_6 => atK e 2 fun l => bM l fun s_7 => atK e 3 fun l => bM l fun s_8 => atK e 4 fun l => cU l fun b_1 => atK e 5 fun l => cL .i64 l fun n_1 => atK e 6 fun l => bM l fun s_9 => atK e 7 fun l => slK l fun c es_3 => atK e 8 fun l => slK l fun c es_4 => atK e 9 fun l => slK l fun c es_5 => (D F.aRB [.agg [.str s,.str s_1,.str s_2,.str s_3,.bool b,.int .i64 n,.str s_4,.sl fP es,.sl fP es_1,.sl fP es_2],.agg [.str s_5,.str s_6,.str s_7,.str s_8,.bool b_1,.int .i64 n_1,.str s_9,.sl fP es_3,.sl fP es_4,.sl fP es_5]] []).bind fun r => aL r.fst fun l => cU l fun b => aC (!b) (some (aM false,[])) (gY D (pB e0 e1 (IntKind.i64.wrap (i5 + 1))))))) (some (aM true,[])) := by refine (aQ (J := gY D) (fun _ _ => rfl) [[1,1,0,1,0]] _).trans ?_; generalize gY D = J; revert J; refine id ?_; intro J; kernel_rfl
theorem aEb : bB Tryz.prog D Hs bQ F.aQ9 [vsl e0,vsl e1] [] = aC ((↑e0.length : Int) != (↑e1.length : Int)) (some (aM false,[])) (gY D (pB e0 e1 0)) := by refine (aI (J := gY D) (by kernel_rfl) (fun _ _ => rfl) [[1,1,0,1,0]]).trans ?_; generalize gY D = J; revert J; refine id ?_; intro J; kernel_rfl
end
section
variable (e0 e1 : LE) (i5 : Int)
def fJ := atA D F.aQO
def mI : PS := ([1,1,0,1,0],St.mk ([vsl e0,vsl e1,.any,.any,.any,aH i5] ++ cH 21) (noB 27))
theorem sF : fJ D (mI e0 e1 i5) = aC (decide (i5 < (↑e0.length : Int))) (aA (decide (0 ≤ i5) && decide (i5 < (↑e0.length : Int)) && sized 3 e0) (gC (e0.getD i5.toNat []) fun e => atK e 0 fun l => bM l fun s => atK e 1 fun l => bM l fun s_1 => atK e 2 fun l => slK l fun c es => aA (decide (0 ≤ i5) && decide (i5 < (↑e1.length : Int)) && sized 3 e1) (gC (e1.getD i5.toNat []) fun e => atK e 0 fun l => bM l fun s_2 => atK e 1 fun l => bM l fun s_3 => atK e 2 fun l => slK l fun c es_1 => (D F.aQU [.agg [.str s,.str s_1,.sl fP es],.agg [.str s_2,.str s_3,.sl fP es_1]] []).bind fun r => aL r.fst fun l => cU l fun b => aC (!b) (some (aM false,[])) (fJ D (mI e0 e1 (IntKind.i64.wrap (i5 + 1))))))) (some (aM true,[])) := by refine (aQ (J := fJ D) (fun _ _ => rfl) [[1,1,0,1,0]] _).trans ?_; generalize fJ D = J; revert J; refine id ?_; intro J; kernel_rfl
theorem aCA : bB Tryz.prog D Hs bQ F.aQO [vsl e0,vsl e1] [] = aC ((↑e0.length : Int) != (↑e1.length : Int)) (some (aM false,[])) (fJ D (mI e0 e1 0)) := by refine (aI (J := fJ D) (by kernel_rfl) (fun _ _ => rfl) [[1,1,0,1,0]]).trans ?_; generalize fJ D = J; revert J; refine id ?_; intro J; kernel_rfl
end
def aEW := atA D F.aR9
theorem aHk (s0_0 : ByteArray) (i0_1 : Int) (s0_2 : ByteArray) (e0_3 e0_4 : LE) (s1_0 : ByteArray) (i1_1 : Int) (s1_2 : ByteArray) (e1_3 e1_4 : LE) : bB Tryz.prog D Hs bQ F.aR9 [.agg [.str s0_0,.int .i64 i0_1,.str s0_2,.sl fP e0_3,.sl fP e0_4],.agg [.str s1_0,.int .i64 i1_1,.str s1_2,.sl fP e1_3,.sl fP e1_4]] [] = aC (!s0_0.toList == s1_0.toList) (some (aM false,[])) ((D F.aRn [.agg [.int .i64 i0_1,.str s0_2,.sl fP e0_3,.sl fP e0_4],.agg [.int .i64 i1_1,.str s1_2,.sl fP e1_3,.sl fP e1_4]] []).bind fun r => aL r.fst fun l => cU l fun b => aC (!b) (some (aM false,[])) (some (aM true,[]))) := by refine (aI (J := aEW D) (by kernel_rfl) (fun _ _ => rfl) []).trans ?_; generalize aEW D = J; revert J; refine id ?_; intro J; kernel_rfl
def aEq := atA D F.aSd
theorem aHm (s0_0 : ByteArray) (e0_1 : LE) (s1_0 : ByteArray) (e1_1 : LE) : bB Tryz.prog D Hs bQ F.aSd [.agg [.str s0_0,.sl fP e0_1],.agg [.str s1_0,.sl fP e1_1]] [] = aC (!s0_0.toList == s1_0.toList) (some (aM false,[])) ((D F.aRX [vsl e0_1,vsl e1_1] []).bind fun r => aL r.fst fun l => cU l fun b => aC (!b) (some (aM false,[])) (some (aM true,[]))) := by refine (aI (J := aEq D) (by kernel_rfl) (fun _ _ => rfl) []).trans ?_; generalize aEq D = J; revert J; refine id ?_; intro J; kernel_rfl
def aBS := atA D F.aRo
theorem aFM (s0 : ByteArray) : bB Tryz.prog D Hs bQ F.aRo [.leaf (.str s0)] [] = aC ((s0.toList == (ByteArray.mk #[73,110,116]).toList) == false) (aC ((s0.toList == (ByteArray.mk #[70,108,111,97,116]).toList) == false) (aC ((s0.toList == (ByteArray.mk #[83,116,114,105,110,103]).toList) == false) (aC ((s0.toList == (ByteArray.mk #[66,111,111,108,101,97,110]).toList) == false) (some (.leaf (.bool (s0.toList == (ByteArray.mk #[73,68]).toList)),[])) (some (aM true,[]))) (some (aM true,[]))) (some (aM true,[]))) (some (aM true,[])) := by refine (aI (J := aBS D) (by kernel_rfl) (fun _ _ => rfl) []).trans ?_; generalize aBS D = J; revert J; refine id ?_; intro J; kernel_rfl
section
variable (e3 e4 e5 : LE) (i6 i7 : Int) (b37 b58 : Bool) (s8 : ByteArray) (b83 : Bool) (e0 : LE)
end
def aDc := atA D F.aRP
theorem aG3 (x0 : cA) (s1 : ByteArray) : bB Tryz.prog D Hs bQ F.aRP [.agg x0.l,.leaf (.str s1)] [] = aEI (D F.aR8 [.leaf (.sl fP x0.a0),.leaf (.str s1)] []) fun n => some (aH n,[]) := by refine (aI (J := aDc D) (by kernel_rfl) (fun _ _ => rfl) []).trans ?_; generalize aDc D = J; revert J; refine id ?_; intro J; kernel_rfl
section
variable (e0 : LE) (n1 : Nat) (i7 i8 : Int) (sx19_0 sb0_0 : ByteArray)
def aY (x : PS) : Ret false := atF Tryz.prog D Hs F.aQf x.1 1 x.2
def cB : PS := ([1,0,1,0],St.mk ([vsl e0,.fn n1 [.ptr 19 0]] ++ cH 5 ++ [aH i7,aH i8] ++ cH 10) (noB 19 ++ [some [.leaf (.str sx19_0)]]))
theorem dW : aY D (cB e0 n1 i7 i8 sx19_0) = aC (decide (i8 < i7)) (aA (decide (0 ≤ i8) && decide (i8 < (↑e0.length : Int)) && sized 6 e0) (bC.rd (e0.getD i8.toNat []) fun x => aKg (D n1 [.agg x.l,.ptr 0 0] [[.leaf (.str sx19_0)]]) fun s b => aC b (some (aH i8,[[.leaf (.str s)]])) (aY D (cB e0 n1 i7 (IntKind.i64.wrap (i8 + 1)) s)))) (some (aH (-1),[[.leaf (.str sx19_0)]])) := by refine (aQ (J := aY D) (fun _ _ => rfl) [[1,0,1,0]] _).trans ?_; generalize aY D = J; revert J; refine id ?_; intro J; kernel_rfl
theorem iI : bB Tryz.prog D Hs bQ F.aQf [vsl e0,.fn n1 [.ptr 0 0]] [[.leaf (.str sb0_0)]] = aY D (cB e0 n1 (↑e0.length : Int) 0 sb0_0) := by refine (aI (J := aY D) (by kernel_rfl) (fun _ _ => rfl) [[1,0,1,0]]).trans ?_; generalize aY D = J; revert J; refine id ?_; intro J; kernel_rfl
end
section
variable (s3 : ByteArray) (b4 : Bool) (s0 : ByteArray)
def fO := atA D F.aRv
def lC : PS := ([1,0,1,0,1],St.mk ([.any,.any,.any,.leaf (.str s3),aM b4] ++ cH 5) (noB 10))
theorem aEE : fO D (lC s3 b4) = aC b4 (some (aM true,[])) (some (aM false,[])) := by refine (aQ (J := fO D) (fun _ _ => rfl) [[1,0,1,0,1]] _).trans ?_; generalize fO D = J; revert J; refine id ?_; intro J; kernel_rfl
theorem aGe : bB Tryz.prog D Hs bQ F.aRv [.leaf (.str s0)] [] = aC (s0.toList == (ByteArray.mk #[73,110,116]).toList) (fO D (lC s0 (s0.toList == (ByteArray.mk #[73,110,116]).toList))) (aC (s0.toList == (ByteArray.mk #[70,108,111,97,116]).toList) (fO D (lC s0 (s0.toList == (ByteArray.mk #[70,108,111,97,116]).toList))) (aC (s0.toList == (ByteArray.mk #[83,116,114,105,110,103]).toList) (fO D (lC s0 (s0.toList == (ByteArray.mk #[83,116,114,105,110,103]).toList))) (aC (s0.toList == (ByteArray.mk #[66,111,111,108,101,97,110]).toList) (fO D (lC s0 (s0.toList == (ByteArray.mk #[66,111,111,108,101,97,110]).toList))) (fO D (lC s0 (s0.toList == (ByteArray.mk #[73,68]).toList)))))) := by refine (aI (J := fO D) (by kernel_rfl) (fun _ _ => rfl) [[1,0,1,0,1]]).trans ?_; generalize fO D = J; revert J; refine id ?_; intro J; kernel_rfl
end
def jS := atA D F.aQj
theorem nY (e0 : LE) (s1 : ByteArray) : bB Tryz.prog D Hs bQ F.aQj [vsl e0,.leaf (.str s1)] [] = aEI (D F.aQl [vsl e0,.leaf (.str s1)] []) fun n => some (.leaf (.bool (decide (n ≥ 0))),[]) := by refine (aI (J := jS D) (by kernel_rfl) (fun _ _ => rfl) []).trans ?_; generalize jS D = J; revert J; refine id ?_; intro J; kernel_rfl
section
variable (e0 : LE) (n1 : Nat) (i7 i8 : Int) (ex19_0 eb0_0 : LE)
def bN (x : PS) : Ret false := atF Tryz.prog D Hs F.aQi x.1 1 x.2
def cZ : PS := ([1,0,1,0],St.mk ([vsl e0,.fn n1 [.ptr 19 0]] ++ cH 5 ++ [aH i7,aH i8] ++ cH 10) (noB 19 ++ [some [vsl ex19_0]]))
theorem gM : bN D (cZ e0 n1 i7 i8 ex19_0) = aC (decide (i8 < i7)) (aA (decide (0 ≤ i8) && decide (i8 < (↑e0.length : Int)) && sized 1 e0) (gD (e0.getD i8.toNat []) 0 fun s => (D n1 [.leaf (.str s),.ptr 0 0] [[vsl ex19_0]]).bind fun r => qW r.snd fun d r_1 => jL d fun d r_2 => vSl d fun es => kN r_2 (kQ r_1 (wN r.fst fun b => aC b (some (aH i8,[[vsl es]])) (bN D (cZ e0 n1 i7 (IntKind.i64.wrap (i8 + 1)) es)))))) (some (aH (-1),[[vsl ex19_0]])) := by refine (aQ (J := bN D) (fun _ _ => rfl) [[1,0,1,0]] _).trans ?_; generalize bN D = J; revert J; refine id ?_; intro J; kernel_rfl
theorem mD : bB Tryz.prog D Hs bQ F.aQi [vsl e0,.fn n1 [.ptr 0 0]] [[vsl eb0_0]] = bN D (cZ e0 n1 (↑e0.length : Int) 0 eb0_0) := by refine (aI (J := bN D) (by kernel_rfl) (fun _ _ => rfl) [[1,0,1,0]]).trans ?_; generalize bN D = J; revert J; refine id ?_; intro J; kernel_rfl
end
def wO := atA D F.aQH
theorem aCu (s0_0 s0_1 : ByteArray) (e0_2 : LE) (s0_3 s0_4 : ByteArray) (e0_5 : LE) (i1 : Int) : bB Tryz.prog D Hs bQ F.aQH [.agg [.str s0_0,.str s0_1,.sl fP e0_2,.str s0_3,.str s0_4,.sl fP e0_5],aH i1] [] = aC (decide (IntKind.i64.wrap (i1 - (↑s0_0.size : Int)) < 0)) (some (aH (-1),[])) (aC (decide (IntKind.i64.wrap (IntKind.i64.wrap (i1 - (↑s0_0.size : Int)) - (↑s0_1.size : Int)) < 0)) (some (aH (-1),[])) ((D F.aQ1 [vsl e0_2,.leaf (.int .i64 (IntKind.i64.wrap (IntKind.i64.wrap (i1 - (↑s0_0.size : Int)) - (↑s0_1.size : Int))))] []).bind fun r => aL r.fst fun l => cL .i64 l fun n => aC (decide (n < 0)) (some (aH (-1),[])) ((D F.aRQ [.agg [.str s0_3,.str s0_4],aH n] []).bind fun r => aL r.fst fun l => cL .i64 l fun n => aC (decide (n < 0)) (some (aH (-1),[])) ((D F.aRU [vsl e0_5,aH n] []).bind fun r => aL r.fst fun l => cL .i64 l fun n => aC (decide (n < 0)) (some (aH (-1),[])) (some (aH n,[])))))) := by refine (aI (J := wO D) (by kernel_rfl) (fun _ _ => rfl) []).trans ?_; generalize wO D = J; revert J; refine id ?_; intro J; kernel_rfl
def aA3 := atA D F.aRk
theorem aFn (s0_0 s0_1 s0_2 s0_3 : ByteArray) (b0_4 : Bool) (i0_5 : Int) (s0_6 : ByteArray) (e0_7 e0_8 e0_9 : LE) (i1 : Int) : bB Tryz.prog D Hs bQ F.aRk [.agg [.str s0_0,.str s0_1,.str s0_2,.str s0_3,.bool b0_4,.int .i64 i0_5,.str s0_6,.sl fP e0_7,.sl fP e0_8,.sl fP e0_9],aH i1] [] = aC (decide (IntKind.i64.wrap (i1 - (↑s0_0.size : Int)) < 0)) (some (aH (-1),[])) (aC (decide (IntKind.i64.wrap (IntKind.i64.wrap (i1 - (↑s0_0.size : Int)) - (↑s0_1.size : Int)) < 0)) (some (aH (-1),[])) ((D F.aRQ [.agg [.str s0_2,.str s0_3],.leaf (.int .i64 (IntKind.i64.wrap (IntKind.i64.wrap (i1 - (↑s0_0.size : Int)) - (↑s0_1.size : Int))))] []).bind fun r => aL r.fst fun l => cL .i64 l fun n => aC (decide (n < 0)) (some (aH (-1),[])) ((D F.aRt [.agg [.int .i64 i0_5,.str s0_6,.sl fP e0_7,.sl fP e0_8],aH n] []).bind fun r => aL r.fst fun l => cL .i64 l fun n => aC (decide (n < 0)) (some (aH (-1),[])) ((D F.aRU [vsl e0_9,aH n] []).bind fun r => aL r.fst fun l => cL .i64 l fun n => aC (decide (n < 0)) (some (aH (-1),[])) (some (aH n,[])))))) := by refine (aI (J := aA3 D) (by kernel_rfl) (fun _ _ => rfl) []).trans ?_; generalize aA3 D = J; revert J; refine id ?_; intro J; kernel_rfl
def yV := atA D F.aQX
theorem aDT (s0_0 s0_1 : ByteArray) (e0_2 : LE) (i1 : Int) : bB Tryz.prog D Hs bQ F.aQX [.agg [.str s0_0,.str s0_1,.sl fP e0_2],aH i1] [] = aC (decide (IntKind.i64.wrap (i1 - (↑s0_0.size : Int)) < 0)) (some (aH (-1),[])) (aC (decide (IntKind.i64.wrap (IntKind.i64.wrap (i1 - (↑s0_0.size : Int)) - (↑s0_1.size : Int)) < 0)) (some (aH (-1),[])) ((D F.aRU [vsl e0_2,.leaf (.int .i64 (IntKind.i64.wrap (IntKind.i64.wrap (i1 - (↑s0_0.size : Int)) - (↑s0_1.size : Int))))] []).bind fun r => aL r.fst fun l => cL .i64 l fun n => aC (decide (n < 0)) (some (aH (-1),[])) (some (aH n,[])))) := by refine (aI (J := yV D) (by kernel_rfl) (fun _ _ => rfl) []).trans ?_; generalize yV D = J; revert J; refine id ?_; intro J; kernel_rfl
def aBD := atA D F.aRt
theorem aFy (i0_0 : Int) (s0_1 : ByteArray) (e0_2 e0_3 : LE) (i1 : Int) : bB Tryz.prog D Hs bQ F.aRt [.agg [.int .i64 i0_0,.str s0_1,.sl fP e0_2,.sl fP e0_3],aH i1] [] = aC (decide (IntKind.i64.wrap (i1 - (↑s0_1.size : Int)) < 0)) (some (aH (-1),[])) ((D F.aQ2 [vsl e0_2,.leaf (.int .i64 (IntKind.i64.wrap (i1 - (↑s0_1.size : Int))))] []).bind fun r => aL r.fst fun l => cL .i64 l fun n => aC (decide (n < 0)) (some (aH (-1),[])) ((D F.aQR [vsl e0_3,aH n] []).bind fun r => aL r.fst fun l => cL .i64 l fun n => aC (decide (n < 0)) (some (aH (-1),[])) (some (aH n,[])))) := by refine (aI (J := aBD D) (by kernel_rfl) (fun _ _ => rfl) []).trans ?_; generalize aBD D = J; revert J; refine id ?_; intro J; kernel_rfl
def vU := atA D F.aQI
theorem aCs (s0_0 s0_1 : ByteArray) (e0_2 : LE) (s0_3 s0_4 : ByteArray) (e0_5 : LE) (s1_0 s1_1 : ByteArray) (e1_2 : LE) (s1_3 s1_4 : ByteArray) (e1_5 : LE) : bB Tryz.prog D Hs bQ F.aQI [.agg [.str s0_0,.str s0_1,.sl fP e0_2,.str s0_3,.str s0_4,.sl fP e0_5],.agg [.str s1_0,.str s1_1,.sl fP e1_2,.str s1_3,.str s1_4,.sl fP e1_5]] [] = aC (!s0_0.toList == s1_0.toList) (some (aM false,[])) (aC (!s0_1.toList == s1_1.toList) (some (aM false,[])) ((D F.aQ9 [vsl e0_2,vsl e1_2] []).bind fun r => aL r.fst fun l => cU l fun b => aC (!b) (some (aM false,[])) ((D F.aRR [.agg [.str s0_3,.str s0_4],.agg [.str s1_3,.str s1_4]] []).bind fun r => aL r.fst fun l => cU l fun b => aC (!b) (some (aM false,[])) ((D F.aRK [vsl e0_5,vsl e1_5] []).bind fun r => aL r.fst fun l => cU l fun b => aC (!b) (some (aM false,[])) (some (aM true,[])))))) := by refine (aI (J := vU D) (by kernel_rfl) (fun _ _ => rfl) []).trans ?_; generalize vU D = J; revert J; refine id ?_; intro J; kernel_rfl
def aBf := atA D F.aRB
theorem aFD (s0_0 s0_1 s0_2 s0_3 : ByteArray) (b0_4 : Bool) (i0_5 : Int) (s0_6 : ByteArray) (e0_7 e0_8 e0_9 : LE) (s1_0 s1_1 s1_2 s1_3 : ByteArray) (b1_4 : Bool) (i1_5 : Int) (s1_6 : ByteArray) (e1_7 e1_8 e1_9 : LE) : bB Tryz.prog D Hs bQ F.aRB [.agg [.str s0_0,.str s0_1,.str s0_2,.str s0_3,.bool b0_4,.int .i64 i0_5,.str s0_6,.sl fP e0_7,.sl fP e0_8,.sl fP e0_9],.agg [.str s1_0,.str s1_1,.str s1_2,.str s1_3,.bool b1_4,.int .i64 i1_5,.str s1_6,.sl fP e1_7,.sl fP e1_8,.sl fP e1_9]] [] = aC (!s0_0.toList == s1_0.toList) (some (aM false,[])) (aC (!s0_1.toList == s1_1.toList) (some (aM false,[])) ((D F.aRR [.agg [.str s0_2,.str s0_3],.agg [.str s1_2,.str s1_3]] []).bind fun r => aL r.fst fun l => cU l fun b => aC (!b) (some (aM false,[])) (aC (!b0_4 == b1_4) (some (aM false,[])) ((D F.aRn [.agg [.int .i64 i0_5,.str s0_6,.sl fP e0_7,.sl fP e0_8],.agg [.int .i64 i1_5,.str s1_6,.sl fP e1_7,.sl fP e1_8]] []).bind fun r => aL r.fst fun l => cU l fun b => aC (!b) (some (aM false,[])) ((D F.aRK [vsl e0_9,vsl e1_9] []).bind fun r => aL r.fst fun l => cU l fun b => aC (!b) (some (aM false,[])) (some (aM true,[]))))))) := by refine (aI (J := aBf D) (by kernel_rfl) (fun _ _ => rfl) []).trans ?_; generalize aBf D = J; revert J; refine id ?_; intro J; kernel_rfl
def xI := atA D F.aQU
theorem aD2 (s0_0 s0_1 : ByteArray) (e0_2 : LE) (s1_0 s1_1 : ByteArray) (e1_2 : LE) : bB Tryz.prog D Hs bQ F.aQU [.agg [.str s0_0,.str s0_1,.sl fP e0_2],.agg [.str s1_0,.str s1_1,.sl fP e1_2]] [] = aC (!s0_0.toList == s1_0.toList) (some (aM false,[])) (aC (!s0_1.toList == s1_1.toList) (some (aM false,[])) ((D F.aRK [vsl e0_2,vsl e1_2] []).bind fun r => aL r.fst fun l => cU l fun b => aC (!b) (some (aM false,[])) (some (aM true,[])))) := by refine (aI (J := xI D) (by kernel_rfl) (fun _ _ => rfl) []).trans ?_; generalize xI D = J; revert J; refine id ?_; intro J; kernel_rfl
def aBv := atA D F.aRn
theorem aFX (i0_0 : Int) (s0_1 : ByteArray) (e0_2 e0_3 : LE) (i1_0 : Int) (s1_1 : ByteArray) (e1_2 e1_3 : LE) : bB Tryz.prog D Hs bQ F.aRn [.agg [.int .i64 i0_0,.str s0_1,.sl fP e0_2,.sl fP e0_3],.agg [.int .i64 i1_0,.str s1_1,.sl fP e1_2,.sl fP e1_3]] [] = aC (i0_0 != i1_0) (some (aM false,[])) (aC (!s0_1.toList == s1_1.toList) (some (aM false,[])) ((D F.aRh [vsl e0_2,vsl e1_2] []).bind fun r => aL r.fst fun l => cU l fun b => aC (!b) (some (aM false,[])) ((D F.aQZ [vsl e0_3,vsl e1_3] []).bind fun r => aL r.fst fun l => cU l fun b => aC (!b) (some (aM false,[])) (some (aM true,[]))))) := by refine (aI (J := aBv D) (by kernel_rfl) (fun _ _ => rfl) []).trans ?_; generalize aBv D = J; revert J; refine id ?_; intro J; kernel_rfl
section
variable (e3 e4 e5 : LE) (i6 i7 : Int) (b37 b58 : Bool) (s8 : ByteArray) (b83 : Bool) (c0 : Fl false) (e0 : LE)
end
def aEH := atA D F.aR8
theorem aIx (e0 : LE) (s1 : ByteArray) : bB Tryz.prog D Hs bQ F.aR8 [vsl e0,.leaf (.str s1)] [] = aC (decide ((↑e0.length : Int) > 60)) (some (aH (-1),[])) (aMH (D F.aQg [vsl e0,.fn F.aRr [.ptr 0 0]] [[.leaf (.str s1)]]) fun s n => some (aH n,[])) := by refine (aI (J := aEH D) (by kernel_rfl) (fun _ _ => rfl) []).trans ?_; generalize aEH D = J; revert J; refine id ?_; intro J; kernel_rfl
def xU (x : PS) : Ret false := atF Tryz.prog D Hs F.aQ0 x.1 1 x.2
theorem aDQ (x0 : bC) (sb0_0 : ByteArray) : bB Tryz.prog D Hs bQ F.aQ0 [.agg x0.l,.ptr 0 0] [[.leaf (.str sb0_0)]] = some (.leaf (.bool (x0.a0.toList == sb0_0.toList)),[[.leaf (.str sb0_0)]]) := by refine (aI (J := xU D) (by kernel_rfl) (fun _ _ => rfl) []).trans ?_; generalize xU D = J; revert J; refine id ?_; intro J; kernel_rfl
section
variable (e0 : LE) (s1 : ByteArray) (i7 i8 : Int)
def cF := atA D F.aQl
def fA : PS := ([1,0,1,0],St.mk ([vsl e0,.leaf (.str s1)] ++ cH 5 ++ [aH i7,aH i8] ++ cH 10) (noB 19))
theorem jT : cF D (fA e0 s1 i7 i8) = aC (decide (i8 < i7)) (aA (decide (0 ≤ i8) && decide (i8 < (↑e0.length : Int)) && sized 1 e0) (gD (e0.getD i8.toNat []) 0 fun s => aC (s1.toList == s.toList) (some (aH i8,[])) (cF D (fA e0 s1 i7 (IntKind.i64.wrap (i8 + 1)))))) (some (aH (-1),[])) := by refine (aQ (J := cF D) (fun _ _ => rfl) [[1,0,1,0]] _).trans ?_; generalize cF D = J; revert J; refine id ?_; intro J; kernel_rfl
theorem qJ : bB Tryz.prog D Hs bQ F.aQl [vsl e0,.leaf (.str s1)] [] = cF D (fA e0 s1 (↑e0.length : Int) 0) := by refine (aI (J := cF D) (by kernel_rfl) (fun _ _ => rfl) [[1,0,1,0]]).trans ?_; generalize cF D = J; revert J; refine id ?_; intro J; kernel_rfl
end
def yG (x : PS) : Ret false := atF Tryz.prog D Hs F.aQY x.1 1 x.2
theorem aDC (s0 : ByteArray) (eb0_0 : LE) : bB Tryz.prog D Hs bQ F.aQY [.leaf (.str s0),.ptr 0 0] [[vsl eb0_0]] = mQ (D F.aQj [vsl eb0_0,.leaf (.str s0)] []) fun b => some (aM b,[[vsl eb0_0]]) := by refine (aI (J := yG D) (by kernel_rfl) (fun _ _ => rfl) []).trans ?_; generalize yG D = J; revert J; refine id ?_; intro J; kernel_rfl
def aCL := atA D F.aRQ
theorem aGX (s0_0 s0_1 : ByteArray) (i1 : Int) : bB Tryz.prog D Hs bQ F.aRQ [.agg [.str s0_0,.str s0_1],aH i1] [] = aC (decide (IntKind.i64.wrap (i1 - (↑s0_0.size : Int)) < 0)) (some (aH (-1),[])) (aC (decide (IntKind.i64.wrap (IntKind.i64.wrap (i1 - (↑s0_0.size : Int)) - (↑s0_1.size : Int)) < 0)) (some (aH (-1),[])) (some (.leaf (.int .i64 (IntKind.i64.wrap (IntKind.i64.wrap (i1 - (↑s0_0.size : Int)) - (↑s0_1.size : Int)))),[]))) := by refine (aI (J := aCL D) (by kernel_rfl) (fun _ _ => rfl) []).trans ?_; generalize aCL D = J; revert J; refine id ?_; intro J; kernel_rfl
section
variable (e0 : LE) (i1 i5 : Int)
def gX := atA D F.aQ2
def oL : PS := ([1,1,1,0,1,0],St.mk ([vsl e0,aH i1,.any,.any,.any,aH i5] ++ cH 21) (noB 27))
theorem vC : gX D (oL e0 i1 i5) = aC (decide (i5 < (↑e0.length : Int))) (aA (decide (0 ≤ i5) && decide (i5 < (↑e0.length : Int)) && sized 4 e0) (gC (e0.getD i5.toNat []) fun e => atK e 0 fun l => cL .i64 l fun n => atK e 1 fun l => bM l fun s => atK e 2 fun l => slK l fun c es => atK e 3 fun l => slK l fun c es_1 => (D F.aRt [.agg [.int .i64 n,.str s,.sl fP es,.sl fP es_1],aH i1] []).bind fun r => aL r.fst fun l => cL .i64 l fun n => aC (decide (n < 0)) (some (aH (-1),[])) (gX D (oL e0 n (IntKind.i64.wrap (i5 + 1)))))) (some (aH i1,[])) := by refine (aQ (J := gX D) (fun _ _ => rfl) [[1,1,1,0,1,0]] _).trans ?_; generalize gX D = J; revert J; refine id ?_; intro J; kernel_rfl
theorem aEs : bB Tryz.prog D Hs bQ F.aQ2 [vsl e0,aH i1] [] = aC (decide (IntKind.i64.wrap (i1 - (↑e0.length : Int)) < 0)) (some (aH (-1),[])) (gX D (oL e0 (IntKind.i64.wrap (i1 - (↑e0.length : Int))) 0)) := by refine (aI (J := gX D) (by kernel_rfl) (fun _ _ => rfl) [[1,1,1,0,1,0]]).trans ?_; generalize gX D = J; revert J; refine id ?_; intro J; kernel_rfl
end
def aC0 := atA D F.aRR
theorem aG9 (s0_0 s0_1 s1_0 s1_1 : ByteArray) : bB Tryz.prog D Hs bQ F.aRR [.agg [.str s0_0,.str s0_1],.agg [.str s1_0,.str s1_1]] [] = aC (!s0_0.toList == s1_0.toList) (some (aM false,[])) (aC (!s0_1.toList == s1_1.toList) (some (aM false,[])) (some (aM true,[]))) := by refine (aI (J := aC0 D) (by kernel_rfl) (fun _ _ => rfl) []).trans ?_; generalize aC0 D = J; revert J; refine id ?_; intro J; kernel_rfl
section
variable (e0 e1 : LE) (i5 : Int)
def gW := atA D F.aRh
def oM : PS := ([1,1,0,1,0],St.mk ([vsl e0,vsl e1,.any,.any,.any,aH i5] ++ cH 21) (noB 27))
theorem vM : gW D (oM e0 e1 i5) = aC (decide (i5 < (↑e0.length : Int))) (aA (decide (0 ≤ i5) && decide (i5 < (↑e0.length : Int)) && sized 4 e0) (gC (e0.getD i5.toNat []) fun e => atK e 0 fun l => cL .i64 l fun n => atK e 1 fun l => bM l fun s => atK e 2 fun l => slK l fun c es => atK e 3 fun l => slK l fun c es_1 => aA (decide (0 ≤ i5) && decide (i5 < (↑e1.length : Int)) && sized 4 e1) (gC (e1.getD i5.toNat []) fun e => atK e 0 fun l => cL .i64 l fun n_1 => atK e 1 fun l => bM l fun s_1 => atK e 2 fun l => slK l fun c es_2 => atK e 3 fun l => slK l fun c es_3 => (D F.aRn [.agg [.int .i64 n,.str s,.sl fP es,.sl fP es_1],.agg [.int .i64 n_1,.str s_1,.sl fP es_2,.sl fP es_3]] []).bind fun r => aL r.fst fun l => cU l fun b => aC (!b) (some (aM false,[])) (gW D (oM e0 e1 (IntKind.i64.wrap (i5 + 1))))))) (some (aM true,[])) := by refine (aQ (J := gW D) (fun _ _ => rfl) [[1,1,0,1,0]] _).trans ?_; generalize gW D = J; revert J; refine id ?_; intro J; kernel_rfl
theorem aEj : bB Tryz.prog D Hs bQ F.aRh [vsl e0,vsl e1] [] = aC ((↑e0.length : Int) != (↑e1.length : Int)) (some (aM false,[])) (gW D (oM e0 e1 0)) := by refine (aI (J := gW D) (by kernel_rfl) (fun _ _ => rfl) [[1,1,0,1,0]]).trans ?_; generalize gW D = J; revert J; refine id ?_; intro J; kernel_rfl
end
section
variable (e0 : LE) (n1 : Nat) (i7 i8 : Int) (sx19_0 sb0_0 : ByteArray)
def bE (x : PS) : Ret false := atF Tryz.prog D Hs F.aQg x.1 1 x.2
def cR : PS := ([1,0,1,0],St.mk ([vsl e0,.fn n1 [.ptr 19 0]] ++ cH 5 ++ [aH i7,aH i8] ++ cH 10) (noB 19 ++ [some [.leaf (.str sx19_0)]]))
theorem fR : bE D (cR e0 n1 i7 i8 sx19_0) = aC (decide (i8 < i7)) (aA (decide (0 ≤ i8) && decide (i8 < (↑e0.length : Int)) && sized 11 e0) (aN.rd (e0.getD i8.toNat []) fun x => aKg (D n1 [.agg x.l,.ptr 0 0] [[.leaf (.str sx19_0)]]) fun s b => aC b (some (aH i8,[[.leaf (.str s)]])) (bE D (cR e0 n1 i7 (IntKind.i64.wrap (i8 + 1)) s)))) (some (aH (-1),[[.leaf (.str sx19_0)]])) := by refine (aQ (J := bE D) (fun _ _ => rfl) [[1,0,1,0]] _).trans ?_; generalize bE D = J; revert J; refine id ?_; intro J; kernel_rfl
theorem kR : bB Tryz.prog D Hs bQ F.aQg [vsl e0,.fn n1 [.ptr 0 0]] [[.leaf (.str sb0_0)]] = bE D (cR e0 n1 (↑e0.length : Int) 0 sb0_0) := by refine (aI (J := bE D) (by kernel_rfl) (fun _ _ => rfl) [[1,0,1,0]]).trans ?_; generalize bE D = J; revert J; refine id ?_; intro J; kernel_rfl
end
def aBU (x : PS) : Ret false := atF Tryz.prog D Hs F.aRr x.1 1 x.2
theorem aGd (x0 : aN) (sb0_0 : ByteArray) : bB Tryz.prog D Hs bQ F.aRr [.agg x0.l,.ptr 0 0] [[.leaf (.str sb0_0)]] = some (.leaf (.bool (x0.a3.toList == sb0_0.toList)),[[.leaf (.str sb0_0)]]) := by refine (aI (J := aBU D) (by kernel_rfl) (fun _ _ => rfl) []).trans ?_; generalize aBU D = J; revert J; refine id ?_; intro J; kernel_rfl
end
end Go.Vs
end
section
open Go Go.Vs Go.Proofs
set_option linter.unusedVariables false
set_option linter.unusedSimpArgs false
namespace Go.Vs
def lS (xs : List (List UInt8)) : List (List UInt8) := xs.mergeSort fun x y => decide (x ≤ y)
def aAi (xs : List (List UInt8)) : List (List UInt8) := Lib.compact xs ++ List.replicate (xs.length - (Lib.compact xs).length) []
open Classical in
noncomputable def aI5 : List (SV false) → List (List (SV false)) → Ret false
  | [.bsl 0 1 0 n], [cs] => if h : ∃ xs, cs = lF xs ∧ n = xs.length ∧ xs.length ≤ 1000000 then some (.tup [], [lF (lS h.choose)]) else none
  | _, _ => none
open Classical in
noncomputable def yK : List (SV false) → List (List (SV false)) → Ret false
  | [.bsl 0 1 0 n], [cs] => if h : ∃ xs, cs = lF xs ∧ n = xs.length ∧ xs.length ≤ 1000000 then some (.bsl 0 1 0 (Lib.compact h.choose).length, [lF (aAi h.choose)]) else none
  | _, _ => none
theorem zQ (xs : List (List UInt8)) : (lS xs).length = xs.length := List.length_mergeSort xs
theorem zT (xs : List (List UInt8)) : (Lib.compact xs).length ≤ xs.length := by
  unfold Lib.compact Lib.compactUpTo
  rw [List.length_map]
  exact Nat.le_trans (List.length_filter_le _ _) (by simp)
theorem aDq : lS [] = [] := List.eq_nil_of_length_eq_zero (zQ [])
theorem aJr (xs : List (List UInt8)) : (aAi xs).length = xs.length := by
  have := zT xs
  unfold aAi
  rw [List.length_append, List.length_replicate]; omega
noncomputable def aLn : aGT false := fun f => if f = F.aQm then some aI5 else if f = F.aQk then some yK else none
theorem aOO : ∃ fn, Tryz.prog.funcs[F.aQm]? = some fn ∧ (fn.name == "runtime.NumGoroutine") = false ∧ fn.body.isNone = false := ⟨sN Tryz.prog F.aQm, by kernel_rfl, by kernel_rfl, by kernel_rfl⟩
theorem aLF : ∃ fn, Tryz.prog.funcs[F.aQk]? = some fn ∧ (fn.name == "runtime.NumGoroutine") = false ∧ fn.body.isNone = false := ⟨sN Tryz.prog F.aQk, by kernel_rfl, by kernel_rfl, by kernel_rfl⟩
theorem aML {s : St false} {vals : Array Value} {a : SV false} (h : s.tmps = [a]) (hl : s.tmps.length = vals.size) : vals = #[vals.getD 0 undef] := by
  have h3 : vals.size = 1 := by rw [← hl, h]; rfl
  apply Array.ext
  · simpa using h3
  · intro i hi hi2
    have : i = 0 := by omega
    subst this
    simp [Array.getD, hi]
theorem aKL {N : Env} {w : World} {F1 : Fr} {Ow : Own} {bm : Nat → Nat} {al : Nat → Bool} {loc : Loc} {n : Nat} {v : Value} (h : aP Tryz.prog w F1 N Ow bm al loc (.bsl 0 1 0 n : SV false) v) : vY bm al 0 1 0 n v := by simp -implicitDefEqProofs only [aP, cJ] at h; exact h
theorem aLX {N : Env} : jU Tryz.prog N (fun g a b => if g = F.aQm then aI5 a b else none) := by
  intro g args boxes r hr hh hf
  replace hr : (if g = F.aQm then aI5 args boxes else none) = some r := hr
  split at hr
  · rename_i hg
    subst hg
    unfold aI5 at hr
    split at hr
    · rename_i n cs
      split at hr
      · rename_i hn
        simp -implicitDefEqProofs only [Option.some.injEq] at hr
        subst hr
        obtain ⟨hcs, hnn, hlx⟩ := hn.choose_spec
        generalize hn.choose = xs at hcs hnn hlx
        subst hcs hnn
        refine ⟨rfl, rfl, fun cs hcs c hc => ?_, aOO, fun w F1 Ow bm vals hI => ?_⟩
        · obtain rfl : cs = lF (lS xs) := by simpa using hcs
          exact aGc _ c hc
        have htup : ∀ w', aP Tryz.prog w' F1 N Ow bm (fun b => (aR [some (lF (lS xs))] b).isSome) (.tmp 0) (.tup [] : SV false) (.tuple #[]) := fun w' => by
          simp -implicitDefEqProofs only [aP]
          exact ⟨#[], rfl, rfl, fun j c u hc => by simp at hc⟩
        have hv := aML rfl hI.len
        rcases aKL (hI.slot 0) with ⟨⟨h0, A, cap, hu⟩ | ⟨cap, hu, hcap⟩, _⟩
        · have hx : xs = [] := List.eq_nil_of_length_eq_zero h0
          subst hx
          simp -implicitDefEqProofs only [aDq] at htup ⊢
          rw [hu] at hv
          subst hv
          refine (Go.Proofs.Any.slices_Sort_string_none Tryz.lays190 A cap w).mono fun e w' ⟨he, hw⟩ => ?_
          subst hw
          obtain ⟨q1, q2⟩ := aH7 hI (htup w')
          exact ⟨_, F1, Ow, he, q1, q2⟩
        · by_cases hx : xs = []
          · subst hx
            simp -implicitDefEqProofs only [aDq] at htup ⊢
            rw [hu] at hv
            subst hv
            refine (Go.Proofs.Any.slices_Sort_string_none Tryz.lays190 _ cap w).mono fun e w' ⟨he, hw⟩ => ?_
            subst hw
            obtain ⟨q1, q2⟩ := aH7 hI (htup w')
            exact ⟨_, F1, Ow, he, q1, q2⟩
          · obtain ⟨cur, e0, hb, hl, hF, hO, hH⟩ := aIX hI rfl hx
            rw [hu] at hv
            subst hv
            refine (Tryz.slices_Sort_string (bm 0) 0 cap xs w hH (Array.getElem?_eq_some_iff.1 hb).1 (by omega)).mono fun e w' ⟨he, k, os, hw⟩ => ?_
            obtain ⟨q1, q2⟩ := aIj (ys := lS xs) hI hb (by rw [zQ]; exact hl) hF hO hw (htup w')
            exact ⟨_, F1, Ow, he, q1, q2⟩
      · simp at hr
    · simp at hr
  · simp at hr
theorem aIL {N : Env} : jU Tryz.prog N (fun g a b => if g = F.aQk then yK a b else none) := by
  intro g args boxes r hr hh hf
  replace hr : (if g = F.aQk then yK args boxes else none) = some r := hr
  split at hr
  · rename_i hg
    subst hg
    unfold yK at hr
    split at hr
    · rename_i n cs
      split at hr
      · rename_i hn
        simp -implicitDefEqProofs only [Option.some.injEq] at hr
        subst hr
        obtain ⟨hcs, hnn, hlx⟩ := hn.choose_spec
        generalize hn.choose = xs at hcs hnn hlx
        subst hcs hnn
        refine ⟨rfl, rfl, fun cs hcs c hc => ?_, aLF, fun w F1 Ow bm vals hI => ?_⟩
        · obtain rfl : cs = lF (aAi xs) := by simpa using hcs
          exact aGc _ c hc
        have hbs : ∀ (w' : World) (u : Value), ((Lib.compact xs).length = 0 ∧ (∃ A cap, u = .slice A 0 cap) ∨ ∃ cap, u = .slice (some ⟨bm 0, 0 * 1, none⟩) (Lib.compact xs).length cap ∧ (Lib.compact xs).length ≤ cap) →
            aP Tryz.prog w' F1 N Ow bm (fun b => (aR [some (lF (aAi xs))] b).isSome) (.tmp 0) (.bsl 0 1 0 (Lib.compact xs).length : SV false) u := fun w' u hu => by
          have h : vY bm (fun b => (aR [some (lF (aAi xs))] b).isSome) 0 1 0 (Lib.compact xs).length u := ⟨hu, rfl⟩
          simp -implicitDefEqProofs only [aP, cJ]; exact h
        have hv := aML rfl hI.len
        have none_ : ∀ A cap, xs = [] → vals = #[.slice A 0 cap] → Calls Tryz.prog F.aQk vals w fun e w' => ∃ v F' Ow', e = .returned v ∧ Inv Tryz.prog { tmps := [(.bsl 0 1 0 (Lib.compact xs).length : SV false)], boxes := [lF (aAi xs)].map some } #[v] w' F' N Ow' bm ∧ Far N w F1 Ow w' F' Ow' := by
          intro A cap hx hvv
          subst hx hvv
          refine (Tryz.slices_Compact_string_empty A cap w).mono fun e w' ⟨he, hw⟩ => ?_
          subst hw
          obtain ⟨q1, q2⟩ := aH7 hI (hbs w' (.slice A 0 cap) (.inl ⟨rfl, A, cap, rfl⟩))
          exact ⟨_, F1, Ow, he, q1, q2⟩
        rcases aKL (hI.slot 0) with ⟨⟨h0, A, cap, hu⟩ | ⟨cap, hu, hcap⟩, _⟩
        · rw [hu] at hv
          exact none_ A cap (List.eq_nil_of_length_eq_zero h0) hv
        · by_cases hx : xs = []
          · rw [hu] at hv
            exact none_ (some ⟨bm 0, 0 * 1, none⟩) cap hx (by rw [hv, hx]; rfl)
          · obtain ⟨cur, e0, hb, hl, hF, hO, hH⟩ := aIX hI rfl hx
            rw [hu] at hv
            subst hv
            refine (Tryz.slices_Compact_string (bm 0) 0 cap xs w hH (by omega) hcap).mono fun e w' ⟨he, k, hw⟩ => ?_
            have hw2 : w' = Go.Sort.grow (Go.Sort.putRow encStr (Go.Sort.ahead w k) (bm 0) 0 (aAi xs).toArray) #[] := by rw [Go.Sort.grow_empty]; exact hw
            obtain ⟨q1, q2⟩ := aIj (ys := aAi xs) hI hb (by rw [aJr]; exact hl) hF hO hw2 (hbs w' _ (.inr ⟨cap, rfl, Nat.le_trans (zT xs) hcap⟩))
            exact ⟨_, F1, Ow, he, q1, q2⟩
      · simp at hr
    · simp at hr
  · simp at hr
theorem aMn {N : Env} : aJL Tryz.prog N aLn := by
  intro f t ht
  unfold aLn at ht
  split at ht
  · rename_i hff
    subst hff
    simp -implicitDefEqProofs only [Option.some.injEq] at ht
    subst ht
    exact aLX
  · split at ht
    · rename_i _ hff
      subst hff
      simp -implicitDefEqProofs only [Option.some.injEq] at ht
      subst ht
      exact aIL
    · simp at ht
end Go.Vs
end
section
set_option linter.unusedVariables false
namespace Go.Vs
mutual
def bdF (B : Nat) : aB false → Prop
  | .str s => s.size ≤ B
  | .sl _ es => es.length ≤ B ∧ bdE B es
  | _ => True
def bdL (B : Nat) : List (aB false) → Prop
  | [] => True
  | l :: r => bdF B l ∧ bdL B r
def bdE (B : Nat) : List (List (aB false)) → Prop
  | [] => True
  | e :: es => bdL B e ∧ bdE B es
end
mutual
theorem aN0 {z B : Nat} (hB : (B : Int) ≤ cap) : ∀ (l : aB false) (n : Int), okF z l → 0 ≤ n → n ≤ B → 0 ≤ szF l n → bdF B l
  | .str s, n, ho, h0, hn, h => by
    have hm : maxLen = 9223372036854775807 := rfl
    simp only [okF] at ho
    simp only [szF, bdF, cap] at *
    rw [pI (by omega) (by omega)] at h
    split at h <;> omega
  | .sl _ es, n, ho, h0, hn, h => by
    have hm : maxLen = 9223372036854775807 := rfl
    simp only [okF] at ho
    simp only [szF, bdF] at *
    rw [pI (by simp only [cap] at hB; omega) (by simp only [cap] at hB; omega)] at h
    by_cases hl : n - (es.length : Int) < 0
    · simp [hl] at h
    · simp only [hl, if_false] at h
      exact ⟨by omega, aNK hB es _ ho.2 (by omega) (by omega) h⟩
  | .bool _, n, _, _, _, _ => by simp [bdF]
  | .int _ _, n, _, _, _, _ => by simp [bdF]
  | .unk, n, _, _, _, _ => by simp [bdF]
  | .nl _, n, _, _, _, _ => by simp [bdF]
theorem aL4 {z B : Nat} (hB : (B : Int) ≤ cap) : ∀ (l : List (aB false)) (n : Int), okL z l → 0 ≤ n → n ≤ B → 0 ≤ szL l n → bdL B l
  | [], n, _, _, _, _ => by simp [bdL]
  | l :: r, n, ho, h0, hn, h => by
    simp only [okL] at ho
    simp only [szL, bdL] at *
    by_cases hl : szF l n < 0
    · simp [hl] at h
    · simp only [hl, if_false] at h
      have h1 := aOf l n ho.1 h0 (by omega) (by omega)
      exact ⟨aN0 hB l n ho.1 h0 hn (by omega), aL4 hB r _ ho.2 (by omega) (by omega) h⟩
theorem aNK {z B : Nat} (hB : (B : Int) ≤ cap) : ∀ (l : List (List (aB false))) (n : Int), okE z l → 0 ≤ n → n ≤ B → 0 ≤ szE l n → bdE B l
  | [], n, _, _, _, _ => by simp [bdE]
  | e :: r, n, ho, h0, hn, h => by
    simp only [okE] at ho
    simp only [szE, bdE] at *
    by_cases hl : szL e n < 0
    · simp [hl] at h
    · simp only [hl, if_false] at h
      have h1 := aMD e n ho.2.1 h0 (by omega) (by omega)
      exact ⟨aL4 hB e n ho.2.1 h0 hn (by omega), aNK hB r _ ho.2.2 (by omega) (by omega) h⟩
end
end Go.Vs
end
section
open Go Go.Vs Go.Proofs
set_option linter.unusedVariables false
set_option linter.unusedSimpArgs false
namespace Go.Vs
noncomputable abbrev Dn : bA false := den Go.Proofs.Tryz.prog aLn Hs
theorem bG {f : FuncId} {a : List (SV false)} {b : List (List (SV false))} {r : SV false × List (List (SV false))} (h : bB Go.Proofs.Tryz.prog Dn Hs bQ f a b = some r) (hf : aLn f = none := by rfl) : Dn f a b = some r :=
  aLk hf h
inductive kL : List (aB false) → Prop
  | mk (s0 : ByteArray) (s1 : ByteArray) (h0 : s0.size ≤ maxLen) (h1 : s1.size ≤ maxLen) : kL [.str s0, .str s1]
theorem kL.ex {ls : List (aB false)} (h : kL ls) : ∃ (s0 : ByteArray) (s1 : ByteArray), ls = [.str s0, .str s1] ∧ s0.size ≤ maxLen ∧ s1.size ≤ maxLen := by
  cases h with
  | mk s0 s1 h0 h1 => exact ⟨s0, s1, rfl, h0, h1⟩
theorem kL.len {ls : List (aB false)} (h : kL ls) : ls.length = 2 := by cases h; rfl
theorem kL.ok {ls : List (aB false)} (h : kL ls) : okL 16 ls := by
  cases h with
  | mk s0 s1 h0 h1 => simp only [okL, okF]; exact ⟨h0, h1, trivial⟩
inductive cS : List (aB false) → Prop
  | mk (i0 : Int) (s1 : ByteArray) (e2 : List (List (aB false))) (e3 : List (List (aB false))) (h1 : s1.size ≤ maxLen) (h2 : e2.length ≤ maxLen) (q2 : ∀ e ∈ e2, cS e) (h3 : e3.length ≤ maxLen) (q3 : ∀ e ∈ e3, gB e) : cS [.int .i64 i0, .str s1, .sl fP e2, .sl fP e3]
theorem cS.ex {ls : List (aB false)} (h : cS ls) : ∃ (i0 : Int) (s1 : ByteArray) (e2 : List (List (aB false))) (e3 : List (List (aB false))), ls = [.int .i64 i0, .str s1, .sl fP e2, .sl fP e3] ∧ s1.size ≤ maxLen ∧ e2.length ≤ maxLen ∧ (∀ e ∈ e2, cS e) ∧ e3.length ≤ maxLen ∧ (∀ e ∈ e3, gB e) := by
  cases h with
  | mk i0 s1 e2 e3 h1 h2 q2 h3 q3 => exact ⟨i0, s1, e2, e3, rfl, h1, h2, q2, h3, q3⟩
theorem cS.len {ls : List (aB false)} (h : cS ls) : ls.length = 4 := by cases h; rfl
theorem cS.ok {ls : List (aB false)} (h : cS ls) : okL 16 ls := by
  induction h with
  | mk i0 s1 e2 e3 h1 h2 q2 h3 q3 ih2 => simp only [okL, okF]; exact ⟨trivial, h1, ⟨h2, iP fun e he => ⟨by have := (q2 e he).len; omega, ih2 e he⟩⟩, ⟨h3, iP fun e he => ⟨by have := (q3 e he).len; omega, (q3 e he).ok⟩⟩, trivial⟩
inductive gR : List (aB false) → Prop
  | mk (s0 : ByteArray) (i1 : Int) (s2 : ByteArray) (e3 : List (List (aB false))) (e4 : List (List (aB false))) (h0 : s0.size ≤ maxLen) (h2 : s2.size ≤ maxLen) (h3 : e3.length ≤ maxLen) (q3 : ∀ e ∈ e3, cS e) (h4 : e4.length ≤ maxLen) (q4 : ∀ e ∈ e4, gB e) : gR [.str s0, .int .i64 i1, .str s2, .sl fP e3, .sl fP e4]
theorem gR.ex {ls : List (aB false)} (h : gR ls) : ∃ (s0 : ByteArray) (i1 : Int) (s2 : ByteArray) (e3 : List (List (aB false))) (e4 : List (List (aB false))), ls = [.str s0, .int .i64 i1, .str s2, .sl fP e3, .sl fP e4] ∧ s0.size ≤ maxLen ∧ s2.size ≤ maxLen ∧ e3.length ≤ maxLen ∧ (∀ e ∈ e3, cS e) ∧ e4.length ≤ maxLen ∧ (∀ e ∈ e4, gB e) := by
  cases h with
  | mk s0 i1 s2 e3 e4 h0 h2 h3 q3 h4 q4 => exact ⟨s0, i1, s2, e3, e4, rfl, h0, h2, h3, q3, h4, q4⟩
theorem gR.len {ls : List (aB false)} (h : gR ls) : ls.length = 5 := by cases h; rfl
theorem gR.ok {ls : List (aB false)} (h : gR ls) : okL 16 ls := by
  cases h with
  | mk s0 i1 s2 e3 e4 h0 h2 h3 q3 h4 q4 => simp only [okL, okF]; exact ⟨h0, trivial, h2, ⟨h3, iP fun e he => ⟨by have := (q3 e he).len; omega, (q3 e he).ok⟩⟩, ⟨h4, iP fun e he => ⟨by have := (q4 e he).len; omega, (q4 e he).ok⟩⟩, trivial⟩
inductive eD : List (aB false) → Prop
  | mk (s0 : ByteArray) (e1 : List (List (aB false))) (h0 : s0.size ≤ maxLen) (h1 : e1.length ≤ maxLen) (q1 : ∀ e ∈ e1, gR e) : eD [.str s0, .sl fP e1]
theorem eD.ex {ls : List (aB false)} (h : eD ls) : ∃ (s0 : ByteArray) (e1 : List (List (aB false))), ls = [.str s0, .sl fP e1] ∧ s0.size ≤ maxLen ∧ e1.length ≤ maxLen ∧ (∀ e ∈ e1, gR e) := by
  cases h with
  | mk s0 e1 h0 h1 q1 => exact ⟨s0, e1, rfl, h0, h1, q1⟩
theorem eD.len {ls : List (aB false)} (h : eD ls) : ls.length = 2 := by cases h; rfl
theorem eD.ok {ls : List (aB false)} (h : eD ls) : okL 16 ls := by
  cases h with
  | mk s0 e1 h0 h1 q1 => simp only [okL, okF]; exact ⟨h0, ⟨h1, iP fun e he => ⟨by have := (q1 e he).len; omega, (q1 e he).ok⟩⟩, trivial⟩
inductive cW : List (aB false) → Prop
  | mk (s0 : ByteArray) (s1 : ByteArray) (s2 : ByteArray) (s3 : ByteArray) (b4 : Bool) (i5 : Int) (s6 : ByteArray) (e7 : List (List (aB false))) (e8 : List (List (aB false))) (e9 : List (List (aB false))) (h0 : s0.size ≤ maxLen) (h1 : s1.size ≤ maxLen) (h2 : s2.size ≤ maxLen) (h3 : s3.size ≤ maxLen) (h6 : s6.size ≤ maxLen) (h7 : e7.length ≤ maxLen) (q7 : ∀ e ∈ e7, cS e) (h8 : e8.length ≤ maxLen) (q8 : ∀ e ∈ e8, gB e) (h9 : e9.length ≤ maxLen) (q9 : ∀ e ∈ e9, eD e) : cW [.str s0, .str s1, .str s2, .str s3, .bool b4, .int .i64 i5, .str s6, .sl fP e7, .sl fP e8, .sl fP e9]
theorem cW.ex {ls : List (aB false)} (h : cW ls) : ∃ (s0 : ByteArray) (s1 : ByteArray) (s2 : ByteArray) (s3 : ByteArray) (b4 : Bool) (i5 : Int) (s6 : ByteArray) (e7 : List (List (aB false))) (e8 : List (List (aB false))) (e9 : List (List (aB false))), ls = [.str s0, .str s1, .str s2, .str s3, .bool b4, .int .i64 i5, .str s6, .sl fP e7, .sl fP e8, .sl fP e9] ∧ s0.size ≤ maxLen ∧ s1.size ≤ maxLen ∧ s2.size ≤ maxLen ∧ s3.size ≤ maxLen ∧ s6.size ≤ maxLen ∧ e7.length ≤ maxLen ∧ (∀ e ∈ e7, cS e) ∧ e8.length ≤ maxLen ∧ (∀ e ∈ e8, gB e) ∧ e9.length ≤ maxLen ∧ (∀ e ∈ e9, eD e) := by
  cases h with
  | mk s0 s1 s2 s3 b4 i5 s6 e7 e8 e9 h0 h1 h2 h3 h6 h7 q7 h8 q8 h9 q9 => exact ⟨s0, s1, s2, s3, b4, i5, s6, e7, e8, e9, rfl, h0, h1, h2, h3, h6, h7, q7, h8, q8, h9, q9⟩
theorem cW.len {ls : List (aB false)} (h : cW ls) : ls.length = 10 := by cases h; rfl
theorem cW.ok {ls : List (aB false)} (h : cW ls) : okL 16 ls := by
  cases h with
  | mk s0 s1 s2 s3 b4 i5 s6 e7 e8 e9 h0 h1 h2 h3 h6 h7 q7 h8 q8 h9 q9 => simp only [okL, okF]; exact ⟨h0, h1, h2, h3, trivial, trivial, h6, ⟨h7, iP fun e he => ⟨by have := (q7 e he).len; omega, (q7 e he).ok⟩⟩, ⟨h8, iP fun e he => ⟨by have := (q8 e he).len; omega, (q8 e he).ok⟩⟩, ⟨h9, iP fun e he => ⟨by have := (q9 e he).len; omega, (q9 e he).ok⟩⟩, trivial⟩
inductive bY : List (aB false) → Prop
  | mk (s0 : ByteArray) (s1 : ByteArray) (e2 : List (List (aB false))) (s3 : ByteArray) (s4 : ByteArray) (e5 : List (List (aB false))) (h0 : s0.size ≤ maxLen) (h1 : s1.size ≤ maxLen) (h2 : e2.length ≤ maxLen) (q2 : ∀ e ∈ e2, cW e) (h3 : s3.size ≤ maxLen) (h4 : s4.size ≤ maxLen) (h5 : e5.length ≤ maxLen) (q5 : ∀ e ∈ e5, eD e) : bY [.str s0, .str s1, .sl fP e2, .str s3, .str s4, .sl fP e5]
theorem bY.ex {ls : List (aB false)} (h : bY ls) : ∃ (s0 : ByteArray) (s1 : ByteArray) (e2 : List (List (aB false))) (s3 : ByteArray) (s4 : ByteArray) (e5 : List (List (aB false))), ls = [.str s0, .str s1, .sl fP e2, .str s3, .str s4, .sl fP e5] ∧ s0.size ≤ maxLen ∧ s1.size ≤ maxLen ∧ e2.length ≤ maxLen ∧ (∀ e ∈ e2, cW e) ∧ s3.size ≤ maxLen ∧ s4.size ≤ maxLen ∧ e5.length ≤ maxLen ∧ (∀ e ∈ e5, eD e) := by
  cases h with
  | mk s0 s1 e2 s3 s4 e5 h0 h1 h2 q2 h3 h4 h5 q5 => exact ⟨s0, s1, e2, s3, s4, e5, rfl, h0, h1, h2, q2, h3, h4, h5, q5⟩
theorem bY.len {ls : List (aB false)} (h : bY ls) : ls.length = 6 := by cases h; rfl
theorem bY.ok {ls : List (aB false)} (h : bY ls) : okL 16 ls := by
  cases h with
  | mk s0 s1 e2 s3 s4 e5 h0 h1 h2 q2 h3 h4 h5 q5 => simp only [okL, okF]; exact ⟨h0, h1, ⟨h2, iP fun e he => ⟨by have := (q2 e he).len; omega, (q2 e he).ok⟩⟩, h3, h4, ⟨h5, iP fun e he => ⟨by have := (q5 e he).len; omega, (q5 e he).ok⟩⟩, trivial⟩
inductive cG : List (aB false) → Prop
  | mk (s0 : ByteArray) (s1 : ByteArray) (e2 : List (List (aB false))) (h0 : s0.size ≤ maxLen) (h1 : s1.size ≤ maxLen) (h2 : e2.length ≤ maxLen) (q2 : ∀ e ∈ e2, eD e) : cG [.str s0, .str s1, .sl fP e2]
theorem cG.ex {ls : List (aB false)} (h : cG ls) : ∃ (s0 : ByteArray) (s1 : ByteArray) (e2 : List (List (aB false))), ls = [.str s0, .str s1, .sl fP e2] ∧ s0.size ≤ maxLen ∧ s1.size ≤ maxLen ∧ e2.length ≤ maxLen ∧ (∀ e ∈ e2, eD e) := by
  cases h with
  | mk s0 s1 e2 h0 h1 h2 q2 => exact ⟨s0, s1, e2, rfl, h0, h1, h2, q2⟩
theorem cG.len {ls : List (aB false)} (h : cG ls) : ls.length = 3 := by cases h; rfl
theorem cG.ok {ls : List (aB false)} (h : cG ls) : okL 16 ls := by
  cases h with
  | mk s0 s1 e2 h0 h1 h2 q2 => simp only [okL, okF]; exact ⟨h0, h1, ⟨h2, iP fun e he => ⟨by have := (q2 e he).len; omega, (q2 e he).ok⟩⟩, trivial⟩
inductive dT : List (aB false) → Prop
  | mk (i0 : Int) (s1 : ByteArray) (h1 : s1.size ≤ maxLen) : dT [.int .i64 i0, .str s1]
theorem dT.ex {ls : List (aB false)} (h : dT ls) : ∃ (i0 : Int) (s1 : ByteArray), ls = [.int .i64 i0, .str s1] ∧ s1.size ≤ maxLen := by
  cases h with
  | mk i0 s1 h1 => exact ⟨i0, s1, rfl, h1⟩
theorem dT.len {ls : List (aB false)} (h : dT ls) : ls.length = 2 := by cases h; rfl
theorem dT.ok {ls : List (aB false)} (h : dT ls) : okL 16 ls := by
  cases h with
  | mk i0 s1 h1 => simp only [okL, okF]; exact ⟨trivial, h1, trivial⟩
inductive fQ : List (aB false) → Prop
  | mk (i0 : Int) (b1 : Bool) (s2 : ByteArray) (s3 : ByteArray) (e4 : List (List (aB false))) (e5 : List (List (aB false))) (e6 : List (List (aB false))) (e7 : List (List (aB false))) (e8 : List (List (aB false))) (b9 : Bool) (e10 : List (List (aB false))) (h2 : s2.size ≤ maxLen) (h3 : s3.size ≤ maxLen) (h4 : e4.length ≤ maxLen) (q4 : ∀ e ∈ e4, gB e) (h5 : e5.length ≤ maxLen) (q5 : ∀ e ∈ e5, bY e) (h6 : e6.length ≤ maxLen) (q6 : ∀ e ∈ e6, cW e) (h7 : e7.length ≤ maxLen) (q7 : ∀ e ∈ e7, cG e) (h8 : e8.length ≤ maxLen) (q8 : ∀ e ∈ e8, dT e) (h10 : e10.length ≤ maxLen) (q10 : ∀ e ∈ e10, eD e) : fQ [.int .i64 i0, .bool b1, .str s2, .str s3, .sl fP e4, .sl fP e5, .sl fP e6, .sl fP e7, .sl fP e8, .bool b9, .sl fP e10]
theorem fQ.ex {ls : List (aB false)} (h : fQ ls) : ∃ (i0 : Int) (b1 : Bool) (s2 : ByteArray) (s3 : ByteArray) (e4 : List (List (aB false))) (e5 : List (List (aB false))) (e6 : List (List (aB false))) (e7 : List (List (aB false))) (e8 : List (List (aB false))) (b9 : Bool) (e10 : List (List (aB false))), ls = [.int .i64 i0, .bool b1, .str s2, .str s3, .sl fP e4, .sl fP e5, .sl fP e6, .sl fP e7, .sl fP e8, .bool b9, .sl fP e10] ∧ s2.size ≤ maxLen ∧ s3.size ≤ maxLen ∧ e4.length ≤ maxLen ∧ (∀ e ∈ e4, gB e) ∧ e5.length ≤ maxLen ∧ (∀ e ∈ e5, bY e) ∧ e6.length ≤ maxLen ∧ (∀ e ∈ e6, cW e) ∧ e7.length ≤ maxLen ∧ (∀ e ∈ e7, cG e) ∧ e8.length ≤ maxLen ∧ (∀ e ∈ e8, dT e) ∧ e10.length ≤ maxLen ∧ (∀ e ∈ e10, eD e) := by
  cases h with
  | mk i0 b1 s2 s3 e4 e5 e6 e7 e8 b9 e10 h2 h3 h4 q4 h5 q5 h6 q6 h7 q7 h8 q8 h10 q10 => exact ⟨i0, b1, s2, s3, e4, e5, e6, e7, e8, b9, e10, rfl, h2, h3, h4, q4, h5, q5, h6, q6, h7, q7, h8, q8, h10, q10⟩
theorem fQ.len {ls : List (aB false)} (h : fQ ls) : ls.length = 11 := by cases h; rfl
theorem fQ.ok {ls : List (aB false)} (h : fQ ls) : okL 16 ls := by
  cases h with
  | mk i0 b1 s2 s3 e4 e5 e6 e7 e8 b9 e10 h2 h3 h4 q4 h5 q5 h6 q6 h7 q7 h8 q8 h10 q10 => simp only [okL, okF]; exact ⟨trivial, trivial, h2, h3, ⟨h4, iP fun e he => ⟨by have := (q4 e he).len; omega, (q4 e he).ok⟩⟩, ⟨h5, iP fun e he => ⟨by have := (q5 e he).len; omega, (q5 e he).ok⟩⟩, ⟨h6, iP fun e he => ⟨by have := (q6 e he).len; omega, (q6 e he).ok⟩⟩, ⟨h7, iP fun e he => ⟨by have := (q7 e he).len; omega, (q7 e he).ok⟩⟩, ⟨h8, iP fun e he => ⟨by have := (q8 e he).len; omega, (q8 e he).ok⟩⟩, trivial, ⟨h10, iP fun e he => ⟨by have := (q10 e he).len; omega, (q10 e he).ok⟩⟩, trivial⟩
inductive bK : List (aB false) → Prop
  | mk (e0 : List (List (aB false))) (e1 : List (List (aB false))) (e2 : List (List (aB false))) (h0 : e0.length ≤ maxLen) (q0 : ∀ e ∈ e0, fQ e) (h1 : e1.length ≤ maxLen) (q1 : ∀ e ∈ e1, fQ e) (h2 : e2.length ≤ maxLen) (q2 : ∀ e ∈ e2, dT e) : bK [.sl fP e0, .sl fP e1, .sl fP e2]
theorem bK.ex {ls : List (aB false)} (h : bK ls) : ∃ (e0 : List (List (aB false))) (e1 : List (List (aB false))) (e2 : List (List (aB false))), ls = [.sl fP e0, .sl fP e1, .sl fP e2] ∧ e0.length ≤ maxLen ∧ (∀ e ∈ e0, fQ e) ∧ e1.length ≤ maxLen ∧ (∀ e ∈ e1, fQ e) ∧ e2.length ≤ maxLen ∧ (∀ e ∈ e2, dT e) := by
  cases h with
  | mk e0 e1 e2 h0 q0 h1 q1 h2 q2 => exact ⟨e0, e1, e2, rfl, h0, q0, h1, q1, h2, q2⟩
theorem bK.len {ls : List (aB false)} (h : bK ls) : ls.length = 3 := by cases h; rfl
theorem bK.ok {ls : List (aB false)} (h : bK ls) : okL 16 ls := by
  cases h with
  | mk e0 e1 e2 h0 q0 h1 q1 h2 q2 => simp only [okL, okF]; exact ⟨⟨h0, iP fun e he => ⟨by have := (q0 e he).len; omega, (q0 e he).ok⟩⟩, ⟨h1, iP fun e he => ⟨by have := (q1 e he).len; omega, (q1 e he).ok⟩⟩, ⟨h2, iP fun e he => ⟨by have := (q2 e he).len; omega, (q2 e he).ok⟩⟩, trivial⟩
inductive dM : List (aB false) → Prop
  | mk (i0 : Int) (s1 : ByteArray) (s2 : ByteArray) (s3 : ByteArray) (e4 : List (List (aB false))) (e5 : List (List (aB false))) (e6 : List (List (aB false))) (h1 : s1.size ≤ maxLen) (h2 : s2.size ≤ maxLen) (h3 : s3.size ≤ maxLen) (h4 : e4.length ≤ maxLen) (q4 : ∀ e ∈ e4, gR e) (h5 : e5.length ≤ maxLen) (q5 : ∀ e ∈ e5, eD e) (h6 : e6.length ≤ maxLen) (q6 : ∀ e ∈ e6, dM e) : dM [.int .i64 i0, .str s1, .str s2, .str s3, .sl fP e4, .sl fP e5, .sl fP e6]
theorem dM.ex {ls : List (aB false)} (h : dM ls) : ∃ (i0 : Int) (s1 : ByteArray) (s2 : ByteArray) (s3 : ByteArray) (e4 : List (List (aB false))) (e5 : List (List (aB false))) (e6 : List (List (aB false))), ls = [.int .i64 i0, .str s1, .str s2, .str s3, .sl fP e4, .sl fP e5, .sl fP e6] ∧ s1.size ≤ maxLen ∧ s2.size ≤ maxLen ∧ s3.size ≤ maxLen ∧ e4.length ≤ maxLen ∧ (∀ e ∈ e4, gR e) ∧ e5.length ≤ maxLen ∧ (∀ e ∈ e5, eD e) ∧ e6.length ≤ maxLen ∧ (∀ e ∈ e6, dM e) := by
  cases h with
  | mk i0 s1 s2 s3 e4 e5 e6 h1 h2 h3 h4 q4 h5 q5 h6 q6 => exact ⟨i0, s1, s2, s3, e4, e5, e6, rfl, h1, h2, h3, h4, q4, h5, q5, h6, q6⟩
theorem dM.len {ls : List (aB false)} (h : dM ls) : ls.length = 7 := by cases h; rfl
theorem dM.ok {ls : List (aB false)} (h : dM ls) : okL 16 ls := by
  induction h with
  | mk i0 s1 s2 s3 e4 e5 e6 h1 h2 h3 h4 q4 h5 q5 h6 q6 ih6 => simp only [okL, okF]; exact ⟨trivial, h1, h2, h3, ⟨h4, iP fun e he => ⟨by have := (q4 e he).len; omega, (q4 e he).ok⟩⟩, ⟨h5, iP fun e he => ⟨by have := (q5 e he).len; omega, (q5 e he).ok⟩⟩, ⟨h6, iP fun e he => ⟨by have := (q6 e he).len; omega, ih6 e he⟩⟩, trivial⟩
inductive cM : List (aB false) → Prop
  | mk (i0 : Int) (s1 : ByteArray) (s2 : ByteArray)  : cM [.int .i64 i0, .str s1, .str s2]
theorem cM.ex {ls : List (aB false)} (h : cM ls) : ∃ (i0 : Int) (s1 : ByteArray) (s2 : ByteArray), ls = [.int .i64 i0, .str s1, .str s2] := by
  cases h with
  | mk i0 s1 s2  => exact ⟨i0, s1, s2, rfl⟩
theorem cM.len {ls : List (aB false)} (h : cM ls) : ls.length = 3 := by cases h; rfl
theorem kL.st {e : El} (h : kL e) : ∃ x : qS, e = x.l ∧ kL x.l := by
  cases h with
  | mk s0 s1 h0 h1 => exact ⟨⟨s0, s1⟩, rfl, .mk s0 s1 h0 h1⟩
theorem kL.of {e : El} (h : kL e) : (qS.of e).l = e := by obtain ⟨x, rfl, _⟩ := h.st; rfl
theorem kL.nosl {e : El} (h : kL e) : e.all aNb = true := by obtain ⟨x, rfl, _⟩ := h.st; rfl
theorem kL.p {x : qS} (h : kL x.l) : (x.a0.size ≤ maxLen) ∧ (x.a1.size ≤ maxLen) := by
  obtain ⟨s0, s1⟩ := x
  have h1 : kL [.str s0, .str s1] := h
  cases h1 with
  | mk _ _ h0 h1 => exact ⟨h0, h1⟩
theorem cS.st {e : El} (h : cS e) : ∃ x : hE, e = x.l ∧ cS x.l := by
  cases h with
  | mk i0 s1 e2 e3 h1 h2 q2 h3 q3 => exact ⟨⟨i0, s1, e2, e3⟩, rfl, .mk i0 s1 e2 e3 h1 h2 q2 h3 q3⟩
theorem cS.of {e : El} (h : cS e) : (hE.of e).l = e := by obtain ⟨x, rfl, _⟩ := h.st; rfl
theorem cS.p {x : hE} (h : cS x.l) : (x.a1.size ≤ maxLen) ∧ (x.a2.length ≤ maxLen) ∧ (∀ e ∈ x.a2, cS e) ∧ (x.a3.length ≤ maxLen) ∧ (∀ e ∈ x.a3, gB e) := by
  obtain ⟨i0, s1, e2, e3⟩ := x
  have h1 : cS [.int .i64 i0, .str s1, .sl fP e2, .sl fP e3] := h
  cases h1 with
  | mk _ _ _ _ h1 h2 q2 h3 q3 => exact ⟨h1, h2, q2, h3, q3⟩
theorem gR.st {e : El} (h : gR e) : ∃ x : eO, e = x.l ∧ gR x.l := by
  cases h with
  | mk s0 i1 s2 e3 e4 h0 h2 h3 q3 h4 q4 => exact ⟨⟨s0, i1, s2, e3, e4⟩, rfl, .mk s0 i1 s2 e3 e4 h0 h2 h3 q3 h4 q4⟩
theorem gR.of {e : El} (h : gR e) : (eO.of e).l = e := by obtain ⟨x, rfl, _⟩ := h.st; rfl
theorem gR.p {x : eO} (h : gR x.l) : (x.a0.size ≤ maxLen) ∧ (x.a2.size ≤ maxLen) ∧ (x.a3.length ≤ maxLen) ∧ (∀ e ∈ x.a3, cS e) ∧ (x.a4.length ≤ maxLen) ∧ (∀ e ∈ x.a4, gB e) := by
  obtain ⟨s0, i1, s2, e3, e4⟩ := x
  have h1 : gR [.str s0, .int .i64 i1, .str s2, .sl fP e3, .sl fP e4] := h
  cases h1 with
  | mk _ _ _ _ _ h0 h2 h3 q3 h4 q4 => exact ⟨h0, h2, h3, q3, h4, q4⟩
theorem eD.st {e : El} (h : eD e) : ∃ x : qV, e = x.l ∧ eD x.l := by
  cases h with
  | mk s0 e1 h0 h1 q1 => exact ⟨⟨s0, e1⟩, rfl, .mk s0 e1 h0 h1 q1⟩
theorem eD.of {e : El} (h : eD e) : (qV.of e).l = e := by obtain ⟨x, rfl, _⟩ := h.st; rfl
theorem eD.p {x : qV} (h : eD x.l) : (x.a0.size ≤ maxLen) ∧ (x.a1.length ≤ maxLen) ∧ (∀ e ∈ x.a1, gR e) := by
  obtain ⟨s0, e1⟩ := x
  have h1 : eD [.str s0, .sl fP e1] := h
  cases h1 with
  | mk _ _ h0 h1 q1 => exact ⟨h0, h1, q1⟩
theorem cW.st {e : El} (h : cW e) : ∃ x : bV, e = x.l ∧ cW x.l := by
  cases h with
  | mk s0 s1 s2 s3 b4 i5 s6 e7 e8 e9 h0 h1 h2 h3 h6 h7 q7 h8 q8 h9 q9 => exact ⟨⟨s0, s1, s2, s3, b4, i5, s6, e7, e8, e9⟩, rfl, .mk s0 s1 s2 s3 b4 i5 s6 e7 e8 e9 h0 h1 h2 h3 h6 h7 q7 h8 q8 h9 q9⟩
theorem cW.of {e : El} (h : cW e) : (bV.of e).l = e := by obtain ⟨x, rfl, _⟩ := h.st; rfl
theorem cW.p {x : bV} (h : cW x.l) : (x.a0.size ≤ maxLen) ∧ (x.a1.size ≤ maxLen) ∧ (x.a2.size ≤ maxLen) ∧ (x.a3.size ≤ maxLen) ∧ (x.a6.size ≤ maxLen) ∧ (x.a7.length ≤ maxLen) ∧ (∀ e ∈ x.a7, cS e) ∧ (x.a8.length ≤ maxLen) ∧ (∀ e ∈ x.a8, gB e) ∧ (x.a9.length ≤ maxLen) ∧ (∀ e ∈ x.a9, eD e) := by
  obtain ⟨s0, s1, s2, s3, b4, i5, s6, e7, e8, e9⟩ := x
  have h1 : cW [.str s0, .str s1, .str s2, .str s3, .bool b4, .int .i64 i5, .str s6, .sl fP e7, .sl fP e8, .sl fP e9] := h
  cases h1 with
  | mk _ _ _ _ _ _ _ _ _ _ h0 h1 h2 h3 h6 h7 q7 h8 q8 h9 q9 => exact ⟨h0, h1, h2, h3, h6, h7, q7, h8, q8, h9, q9⟩
theorem bY.st {e : El} (h : bY e) : ∃ x : bC, e = x.l ∧ bY x.l := by
  cases h with
  | mk s0 s1 e2 s3 s4 e5 h0 h1 h2 q2 h3 h4 h5 q5 => exact ⟨⟨s0, s1, e2, s3, s4, e5⟩, rfl, .mk s0 s1 e2 s3 s4 e5 h0 h1 h2 q2 h3 h4 h5 q5⟩
theorem bY.of {e : El} (h : bY e) : (bC.of e).l = e := by obtain ⟨x, rfl, _⟩ := h.st; rfl
theorem bY.p {x : bC} (h : bY x.l) : (x.a0.size ≤ maxLen) ∧ (x.a1.size ≤ maxLen) ∧ (x.a2.length ≤ maxLen) ∧ (∀ e ∈ x.a2, cW e) ∧ (x.a3.size ≤ maxLen) ∧ (x.a4.size ≤ maxLen) ∧ (x.a5.length ≤ maxLen) ∧ (∀ e ∈ x.a5, eD e) := by
  obtain ⟨s0, s1, e2, s3, s4, e5⟩ := x
  have h1 : bY [.str s0, .str s1, .sl fP e2, .str s3, .str s4, .sl fP e5] := h
  cases h1 with
  | mk _ _ _ _ _ _ h0 h1 h2 q2 h3 h4 h5 q5 => exact ⟨h0, h1, h2, q2, h3, h4, h5, q5⟩
theorem cG.st {e : El} (h : cG e) : ∃ x : kP, e = x.l ∧ cG x.l := by
  cases h with
  | mk s0 s1 e2 h0 h1 h2 q2 => exact ⟨⟨s0, s1, e2⟩, rfl, .mk s0 s1 e2 h0 h1 h2 q2⟩
theorem cG.of {e : El} (h : cG e) : (kP.of e).l = e := by obtain ⟨x, rfl, _⟩ := h.st; rfl
theorem cG.p {x : kP} (h : cG x.l) : (x.a0.size ≤ maxLen) ∧ (x.a1.size ≤ maxLen) ∧ (x.a2.length ≤ maxLen) ∧ (∀ e ∈ x.a2, eD e) := by
  obtain ⟨s0, s1, e2⟩ := x
  have h1 : cG [.str s0, .str s1, .sl fP e2] := h
  cases h1 with
  | mk _ _ _ h0 h1 h2 q2 => exact ⟨h0, h1, h2, q2⟩
theorem dT.st {e : El} (h : dT e) : ∃ x : qU, e = x.l ∧ dT x.l := by
  cases h with
  | mk i0 s1 h1 => exact ⟨⟨i0, s1⟩, rfl, .mk i0 s1 h1⟩
theorem dT.of {e : El} (h : dT e) : (qU.of e).l = e := by obtain ⟨x, rfl, _⟩ := h.st; rfl
theorem dT.nosl {e : El} (h : dT e) : e.all aNb = true := by obtain ⟨x, rfl, _⟩ := h.st; rfl
theorem dT.p {x : qU} (h : dT x.l) : (x.a1.size ≤ maxLen) := by
  obtain ⟨i0, s1⟩ := x
  have h1 : dT [.int .i64 i0, .str s1] := h
  cases h1 with
  | mk _ _ h1 => exact h1
theorem fQ.st {e : El} (h : fQ e) : ∃ x : aN, e = x.l ∧ fQ x.l := by
  cases h with
  | mk i0 b1 s2 s3 e4 e5 e6 e7 e8 b9 e10 h2 h3 h4 q4 h5 q5 h6 q6 h7 q7 h8 q8 h10 q10 => exact ⟨⟨i0, b1, s2, s3, e4, e5, e6, e7, e8, b9, e10⟩, rfl, .mk i0 b1 s2 s3 e4 e5 e6 e7 e8 b9 e10 h2 h3 h4 q4 h5 q5 h6 q6 h7 q7 h8 q8 h10 q10⟩
theorem fQ.of {e : El} (h : fQ e) : (aN.of e).l = e := by obtain ⟨x, rfl, _⟩ := h.st; rfl
theorem fQ.p {x : aN} (h : fQ x.l) : (x.a2.size ≤ maxLen) ∧ (x.a3.size ≤ maxLen) ∧ (x.a4.length ≤ maxLen) ∧ (∀ e ∈ x.a4, gB e) ∧ (x.a5.length ≤ maxLen) ∧ (∀ e ∈ x.a5, bY e) ∧ (x.a6.length ≤ maxLen) ∧ (∀ e ∈ x.a6, cW e) ∧ (x.a7.length ≤ maxLen) ∧ (∀ e ∈ x.a7, cG e) ∧ (x.a8.length ≤ maxLen) ∧ (∀ e ∈ x.a8, dT e) ∧ (x.a10.length ≤ maxLen) ∧ (∀ e ∈ x.a10, eD e) := by
  obtain ⟨i0, b1, s2, s3, e4, e5, e6, e7, e8, b9, e10⟩ := x
  have h1 : fQ [.int .i64 i0, .bool b1, .str s2, .str s3, .sl fP e4, .sl fP e5, .sl fP e6, .sl fP e7, .sl fP e8, .bool b9, .sl fP e10] := h
  cases h1 with
  | mk _ _ _ _ _ _ _ _ _ _ _ h2 h3 h4 q4 h5 q5 h6 q6 h7 q7 h8 q8 h10 q10 => exact ⟨h2, h3, h4, q4, h5, q5, h6, q6, h7, q7, h8, q8, h10, q10⟩
theorem bK.st {e : El} (h : bK e) : ∃ x : cA, e = x.l ∧ bK x.l := by
  cases h with
  | mk e0 e1 e2 h0 q0 h1 q1 h2 q2 => exact ⟨⟨e0, e1, e2⟩, rfl, .mk e0 e1 e2 h0 q0 h1 q1 h2 q2⟩
theorem bK.of {e : El} (h : bK e) : (cA.of e).l = e := by obtain ⟨x, rfl, _⟩ := h.st; rfl
theorem bK.p {x : cA} (h : bK x.l) : (x.a0.length ≤ maxLen) ∧ (∀ e ∈ x.a0, fQ e) ∧ (x.a1.length ≤ maxLen) ∧ (∀ e ∈ x.a1, fQ e) ∧ (x.a2.length ≤ maxLen) ∧ (∀ e ∈ x.a2, dT e) := by
  obtain ⟨e0, e1, e2⟩ := x
  have h1 : bK [.sl fP e0, .sl fP e1, .sl fP e2] := h
  cases h1 with
  | mk _ _ _ h0 q0 h1 q1 h2 q2 => exact ⟨h0, q0, h1, q1, h2, q2⟩
theorem dM.st {e : El} (h : dM e) : ∃ x : bD, e = x.l ∧ dM x.l := by
  cases h with
  | mk i0 s1 s2 s3 e4 e5 e6 h1 h2 h3 h4 q4 h5 q5 h6 q6 => exact ⟨⟨i0, s1, s2, s3, e4, e5, e6⟩, rfl, .mk i0 s1 s2 s3 e4 e5 e6 h1 h2 h3 h4 q4 h5 q5 h6 q6⟩
theorem dM.of {e : El} (h : dM e) : (bD.of e).l = e := by obtain ⟨x, rfl, _⟩ := h.st; rfl
theorem dM.p {x : bD} (h : dM x.l) : (x.a1.size ≤ maxLen) ∧ (x.a2.size ≤ maxLen) ∧ (x.a3.size ≤ maxLen) ∧ (x.a4.length ≤ maxLen) ∧ (∀ e ∈ x.a4, gR e) ∧ (x.a5.length ≤ maxLen) ∧ (∀ e ∈ x.a5, eD e) ∧ (x.a6.length ≤ maxLen) ∧ (∀ e ∈ x.a6, dM e) := by
  obtain ⟨i0, s1, s2, s3, e4, e5, e6⟩ := x
  have h1 : dM [.int .i64 i0, .str s1, .str s2, .str s3, .sl fP e4, .sl fP e5, .sl fP e6] := h
  cases h1 with
  | mk _ _ _ _ _ _ _ h1 h2 h3 h4 q4 h5 q5 h6 q6 => exact ⟨h1, h2, h3, h4, q4, h5, q5, h6, q6⟩
theorem cM.st {e : El} (h : cM e) : ∃ x : lA, e = x.l ∧ cM x.l := by
  cases h with
  | mk i0 s1 s2 => exact ⟨⟨i0, s1, s2⟩, rfl, .mk i0 s1 s2⟩
theorem cM.of {e : El} (h : cM e) : (lA.of e).l = e := by obtain ⟨x, rfl, _⟩ := h.st; rfl
theorem cM.nosl {e : El} (h : cM e) : e.all aNb = true := by obtain ⟨x, rfl, _⟩ := h.st; rfl
end Go.Vs
end
