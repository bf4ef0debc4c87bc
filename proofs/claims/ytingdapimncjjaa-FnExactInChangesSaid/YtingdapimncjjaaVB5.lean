/- What the program's functions compute, read off their text by the shadow runner (CP); no condition. -/
import Derived.Test.YtingdapimncjjaaVB4
section
open Go Go.Vs Go.Proofs
set_option maxRecDepth 100000
set_option linter.unusedVariables false
namespace Go.Vs
-- FN 12 laws_szInDefS
noncomputable def laws_szInDefS_A (D : Oracle false) (x : List Nat × St false) : Option (SV false × List (List (SV false))) := atF Go.Proofs.Try.prog D Go.Vs.Hs F.laws_szInDefS x.1 0 x.2
def laws_szInDefS_0 (e0 : List (List (Leaf false))) (i1 : Int) (i5 : Int) : List Nat × St false := ([1, 1, 1, 0, 1, 0], St.mk
 [SV.leaf (Leaf.sl fP e0), SV.leaf (Leaf.int Go.IntKind.i64 i1), SV.any, SV.any, SV.any,
  SV.leaf (Leaf.int Go.IntKind.i64 i5), SV.any, SV.any, SV.any, SV.any, SV.any, SV.any, SV.any, SV.any, SV.any, SV.any,
  SV.any, SV.any, SV.any, SV.any, SV.any, SV.any, SV.any, SV.any, SV.any, SV.any, SV.any]
 [none, none, none, none, none, none, none, none, none, none, none, none, none, none, none, none, none, none, none,
  none, none, none, none, none, none, none, none])
theorem laws_szInDefS_0_eq (D : Oracle false) (e0 : List (List (Leaf false))) (i1 : Int) (i5 : Int) : laws_szInDefS_A D (laws_szInDefS_0 e0 i1 i5) =
  branch (decide (i5 < (↑e0.length : Int)))
 (guarded (decide (0 ≤ i5) && decide (i5 < (↑e0.length : Int)) && sized 10 e0)
  (bindE (e0.getD i5.toNat []) fun (e : List (Leaf false)) =>
   atK e 0 fun (l : Leaf false) =>
    strK l fun (s : ByteArray) =>
     atK e 1 fun (l : Leaf false) =>
      strK l fun (s_1 : ByteArray) =>
       atK e 2 fun (l : Leaf false) =>
        strK l fun (s_2 : ByteArray) =>
         atK e 3 fun (l : Leaf false) =>
          strK l fun (s_3 : ByteArray) =>
           atK e 4 fun (l : Leaf false) =>
            boolK l fun (b : Bool) =>
             atK e 5 fun (l : Leaf false) =>
              intK Go.IntKind.i64 l fun (n : Int) =>
               atK e 6 fun (l : Leaf false) =>
                strK l fun (s_4 : ByteArray) =>
                 atK e 7 fun (l : Leaf false) =>
                  slK l fun (c : Fl false) (es : List (List (Leaf false))) =>
                   atK e 8 fun (l : Leaf false) =>
                    slK l fun (c : Fl false) (es_1 : List (List (Leaf false))) =>
                     atK e 9 fun (l : Leaf false) =>
                      slK l fun (c : Fl false) (es_2 : List (List (Leaf false))) =>
                       (D F.laws_szInDef
                          [SV.agg
                            [Leaf.str s, Leaf.str s_1, Leaf.str s_2, Leaf.str s_3, Leaf.bool b,
                             Leaf.int Go.IntKind.i64 n, Leaf.str s_4, Leaf.sl fP es, Leaf.sl fP es_1, Leaf.sl fP es_2],
                           SV.leaf (Leaf.int Go.IntKind.i64 i1)]
                          []).bind
                        fun (r : SV false × List (List (SV false))) =>
                        svLeafK r.fst fun (l : Leaf false) =>
                         intK Go.IntKind.i64 l fun (n : Int) =>
                          branch (decide (n < 0)) (some (SV.leaf (Leaf.int Go.IntKind.i64 (-1)), []))
                           (laws_szInDefS_A D (laws_szInDefS_0 e0 n (Go.IntKind.i64.wrap (i5 + 1))))))
 (some (SV.leaf (Leaf.int Go.IntKind.i64 i1), [])) := by
  refine (nameF_eq (J := laws_szInDefS_A D) (fun _ _ => rfl) [[1, 1, 1, 0, 1, 0]] (laws_szInDefS_0 e0 i1 i5)).trans ?_
  generalize laws_szInDefS_A D = J
  revert J
  refine id ?_
  intro J
  kernel_rfl
theorem run_laws_szInDefS (D : Oracle false) (e0 : List (List (Leaf false))) (i1 : Int) : run2V Go.Proofs.Try.prog D Go.Vs.Hs limR F.laws_szInDefS [SV.leaf (Leaf.sl fP e0), SV.leaf (Leaf.int Go.IntKind.i64 i1)] [] =
  branch (decide (Go.IntKind.i64.wrap (i1 - (↑e0.length : Int)) < 0)) (some (SV.leaf (Leaf.int Go.IntKind.i64 (-1)), []))
 (laws_szInDefS_A D (laws_szInDefS_0 e0 (Go.IntKind.i64.wrap (i1 - (↑e0.length : Int))) 0)) := by
  refine (run_names (J := laws_szInDefS_A D) (by kernel_rfl) (fun _ _ => rfl) [[1, 1, 1, 0, 1, 0]]).trans ?_
  generalize laws_szInDefS_A D = J
  revert J
  refine id ?_
  intro J
  kernel_rfl
-- FN 13 spec_InChanges
noncomputable def spec_InChanges_A (D : Oracle false) (x : List Nat × St false) : Option (SV false × List (List (SV false))) := atF Go.Proofs.Try.prog D Go.Vs.Hs F.spec_InChanges x.1 0 x.2
def spec_InChanges_0 (s0 : ByteArray) (e1 : List (List (Leaf false))) (e2 : List (List (Leaf false))) (e7 : List (List (Leaf false))) (i8 : Int) : List Nat × St false := ([1, 1, 0, 1, 0], St.mk
 [SV.leaf (Leaf.str s0), SV.leaf (Leaf.sl fP e1), SV.leaf (Leaf.sl fP e2), SV.any, SV.any, SV.any, SV.any,
  SV.own (some T.impl_Change) e7, SV.leaf (Leaf.int Go.IntKind.i64 i8), SV.any, SV.any, SV.any, SV.any, SV.any, SV.any,
  SV.any, SV.any, SV.any, SV.any, SV.any, SV.any, SV.any, SV.any, SV.any, SV.any, SV.any, SV.any, SV.any, SV.any,
  SV.any, SV.any, SV.any, SV.any, SV.any, SV.any, SV.any, SV.any, SV.any, SV.any, SV.any, SV.any, SV.any, SV.any,
  SV.any, SV.any, SV.any, SV.any, SV.any, SV.any, SV.any, SV.any, SV.any, SV.any, SV.any, SV.any, SV.any, SV.any,
  SV.any, SV.any, SV.any, SV.any, SV.any, SV.any, SV.any, SV.any, SV.any, SV.any, SV.any, SV.any, SV.any, SV.any,
  SV.any, SV.any, SV.any, SV.any, SV.any, SV.any, SV.any, SV.any, SV.any, SV.any, SV.any, SV.any, SV.any, SV.any,
  SV.any, SV.any, SV.any, SV.any, SV.any, SV.any, SV.any, SV.any, SV.any, SV.any, SV.any, SV.any, SV.any, SV.any,
  SV.any, SV.any, SV.any, SV.any, SV.any, SV.any, SV.any, SV.any, SV.any, SV.any, SV.any, SV.any, SV.any, SV.any,
  SV.any, SV.any, SV.any, SV.any, SV.any, SV.any, SV.any, SV.any, SV.any, SV.any, SV.any, SV.any, SV.any, SV.any,
  SV.any, SV.any, SV.any, SV.any, SV.any, SV.any, SV.any, SV.any, SV.any, SV.any, SV.any, SV.any, SV.any, SV.any,
  SV.any]
 [none, none, none, none, none, none, none, none, none, none, none, none, none, none, none, none, none, none, none,
  none, none, none, none, none, none, none, none, none, none, none, none, none, none, none, none, none, none, none,
  none, none, none, none, none, none, none, none, none, none, none, none, none, none, none, none, none, none, none,
  none, none, none, none, none, none, none, none, none, none, none, none, none, none, none, none, none, none, none,
  none, none, none, none, none, none, none, none, none, none, none, none, none, none, none, none, none, none, none,
  none, none, none, none, none, none, none, none, none, none, none, none, none, none, none, none, none, none, none,
  none, none, none, none, none, none, none, none, none, none, none, none, none, none, none, none, none, none, none,
  none, none, none, none, none, none, none, none, none])
def spec_InChanges_1 (s0 : ByteArray) (e1 : List (List (Leaf false))) (e2 : List (List (Leaf false))) (e7 : List (List (Leaf false))) (i8 : Int) : List Nat × St false := ([1, 1, 0, 1, 0, 0, 1, 1], St.mk
 [SV.leaf (Leaf.str s0), SV.leaf (Leaf.sl fP e1), SV.leaf (Leaf.sl fP e2), SV.any, SV.any, SV.any, SV.any,
  SV.own (some T.impl_Change) e7, SV.leaf (Leaf.int Go.IntKind.i64 i8), SV.any, SV.any, SV.any, SV.any, SV.any, SV.any,
  SV.any, SV.any, SV.any, SV.any, SV.any, SV.any, SV.any, SV.any, SV.any, SV.any, SV.any, SV.any, SV.any, SV.any,
  SV.any, SV.any, SV.any, SV.any, SV.any, SV.any, SV.any, SV.any, SV.any, SV.any, SV.any, SV.any, SV.any, SV.any,
  SV.any, SV.any, SV.any, SV.any, SV.any, SV.any, SV.any, SV.any, SV.any, SV.any, SV.any, SV.any, SV.any, SV.any,
  SV.any, SV.any, SV.any, SV.any, SV.any, SV.any, SV.any, SV.any, SV.any, SV.any, SV.any, SV.any, SV.any, SV.any,
  SV.any, SV.any, SV.any, SV.any, SV.any, SV.any, SV.any, SV.any, SV.any, SV.any, SV.any, SV.any, SV.any, SV.any,
  SV.any, SV.any, SV.any, SV.any, SV.any, SV.any, SV.any, SV.any, SV.any, SV.any, SV.any, SV.any, SV.any, SV.any,
  SV.any, SV.any, SV.any, SV.any, SV.any, SV.any, SV.any, SV.any, SV.any, SV.any, SV.any, SV.any, SV.any, SV.any,
  SV.any, SV.any, SV.any, SV.any, SV.any, SV.any, SV.any, SV.any, SV.any, SV.any, SV.any, SV.any, SV.any, SV.any,
  SV.any, SV.any, SV.any, SV.any, SV.any, SV.any, SV.any, SV.any, SV.any, SV.any, SV.any, SV.any, SV.any, SV.any,
  SV.any]
 [none, none, none, none, none, none, none, none, none, none, none, none, none, none, none, none, none, none, none,
  none, none, none, none, none, none, none, none, none, none, none, none, none, none, none, none, none, none, none,
  none, none, none, none, none, none, none, none, none, none, none, none, none, none, none, none, none, none, none,
  none, none, none, none, none, none, none, none, none, none, none, none, none, none, none, none, none, none, none,
  none, none, none, none, none, none, none, none, none, none, none, none, none, none, none, none, none, none, none,
  none, none, none, none, none, none, none, none, none, none, none, none, none, none, none, none, none, none, none,
  none, none, none, none, none, none, none, none, none, none, none, none, none, none, none, none, none, none, none,
  none, none, none, none, none, none, none, none, none])
def spec_InChanges_2 (s0 : ByteArray) (e1 : List (List (Leaf false))) (e2 : List (List (Leaf false))) (e7 : List (List (Leaf false))) (i8 : Int) (i12 : Int) (sx9_0 : ByteArray) (sx9_1 : ByteArray) (sx9_2 : ByteArray) (sx9_3 : ByteArray) (bx9_4 : Bool) (ix9_5 : Int) (sx9_6 : ByteArray) (ex9_7 : List (List (Leaf false))) (ex9_8 : List (List (Leaf false))) (ex9_9 : List (List (Leaf false))) (sx11_0 : ByteArray) (sx11_1 : ByteArray) (sx11_2 : ByteArray) (sx11_3 : ByteArray) (bx11_4 : Bool) (ix11_5 : Int) (sx11_6 : ByteArray) (ex11_7 : List (List (Leaf false))) (ex11_8 : List (List (Leaf false))) (ex11_9 : List (List (Leaf false))) : List Nat × St false := ([1, 1, 0, 1, 0, 0, 1, 0, 0, 1, 1, 1, 1, 0, 1, 0, 1, 1], St.mk
 [SV.leaf (Leaf.str s0), SV.leaf (Leaf.sl fP e1), SV.leaf (Leaf.sl fP e2), SV.any, SV.any, SV.any, SV.any,
  SV.own (some T.impl_Change) e7, SV.leaf (Leaf.int Go.IntKind.i64 i8), SV.ptr 9 0, SV.any, SV.ptr 11 0,
  SV.leaf (Leaf.int Go.IntKind.i64 i12), SV.any, SV.any, SV.any, SV.any, SV.any, SV.any, SV.any, SV.any, SV.any, SV.any,
  SV.any, SV.any, SV.any, SV.any, SV.any, SV.any, SV.any, SV.any, SV.any, SV.any, SV.any, SV.any, SV.any, SV.any,
  SV.any, SV.any, SV.any, SV.any, SV.any, SV.any, SV.any, SV.any, SV.any, SV.any, SV.any, SV.any, SV.any, SV.any,
  SV.any, SV.any, SV.any, SV.any, SV.any, SV.any, SV.any, SV.any, SV.any, SV.any, SV.any, SV.any, SV.any, SV.any,
  SV.any, SV.any, SV.any, SV.any, SV.any, SV.any, SV.any, SV.any, SV.any, SV.any, SV.any, SV.any, SV.any, SV.any,
  SV.any, SV.any, SV.any, SV.any, SV.any, SV.any, SV.any, SV.any, SV.any, SV.any, SV.any, SV.any, SV.any, SV.any,
  SV.any, SV.any, SV.any, SV.any, SV.any, SV.any, SV.any, SV.any, SV.any, SV.any, SV.any, SV.any, SV.any, SV.any,
  SV.any, SV.any, SV.any, SV.any, SV.any, SV.any, SV.any, SV.any, SV.any, SV.any, SV.any, SV.any, SV.any, SV.any,
  SV.any, SV.any, SV.any, SV.any, SV.any, SV.any, SV.any, SV.any, SV.any, SV.any, SV.any, SV.any, SV.any, SV.any,
  SV.any, SV.any, SV.any, SV.any, SV.any, SV.any, SV.any]
 [none, none, none, none, none, none, none, none, none,
  some
   [SV.leaf (Leaf.str sx9_0), SV.leaf (Leaf.str sx9_1), SV.leaf (Leaf.str sx9_2), SV.leaf (Leaf.str sx9_3),
    SV.leaf (Leaf.bool bx9_4), SV.leaf (Leaf.int Go.IntKind.i64 ix9_5), SV.leaf (Leaf.str sx9_6),
    SV.leaf (Leaf.sl fP ex9_7), SV.leaf (Leaf.sl fP ex9_8), SV.leaf (Leaf.sl fP ex9_9)],
  none,
  some
   [SV.leaf (Leaf.str sx11_0), SV.leaf (Leaf.str sx11_1), SV.leaf (Leaf.str sx11_2), SV.leaf (Leaf.str sx11_3),
    SV.leaf (Leaf.bool bx11_4), SV.leaf (Leaf.int Go.IntKind.i64 ix11_5), SV.leaf (Leaf.str sx11_6),
    SV.leaf (Leaf.sl fP ex11_7), SV.leaf (Leaf.sl fP ex11_8), SV.leaf (Leaf.sl fP ex11_9)],
  none, none, none, none, none, none, none, none, none, none, none, none, none, none, none, none, none, none, none,
  none, none, none, none, none, none, none, none, none, none, none, none, none, none, none, none, none, none, none,
  none, none, none, none, none, none, none, none, none, none, none, none, none, none, none, none, none, none, none,
  none, none, none, none, none, none, none, none, none, none, none, none, none, none, none, none, none, none, none,
  none, none, none, none, none, none, none, none, none, none, none, none, none, none, none, none, none, none, none,
  none, none, none, none, none, none, none, none, none, none, none, none, none, none, none, none, none, none, none,
  none, none, none, none, none, none, none, none, none, none, none, none, none, none, none, none])
def spec_InChanges_3 (s0 : ByteArray) (e1 : List (List (Leaf false))) (e2 : List (List (Leaf false))) (e7 : List (List (Leaf false))) (i8 : Int) (sx9_0 : ByteArray) (sx9_1 : ByteArray) (sx9_2 : ByteArray) (sx9_3 : ByteArray) (bx9_4 : Bool) (ix9_5 : Int) (sx9_6 : ByteArray) (ex9_7 : List (List (Leaf false))) (ex9_8 : List (List (Leaf false))) (ex9_9 : List (List (Leaf false))) (sx11_0 : ByteArray) (sx11_1 : ByteArray) (sx11_2 : ByteArray) (sx11_3 : ByteArray) (bx11_4 : Bool) (ix11_5 : Int) (sx11_6 : ByteArray) (ex11_7 : List (List (Leaf false))) (ex11_8 : List (List (Leaf false))) (ex11_9 : List (List (Leaf false))) : List Nat × St false := ([1, 1, 0, 1, 0, 0, 1, 0, 0, 1, 1, 1, 1, 1], St.mk
 [SV.leaf (Leaf.str s0), SV.leaf (Leaf.sl fP e1), SV.leaf (Leaf.sl fP e2), SV.any, SV.any, SV.any, SV.any,
  SV.own (some T.impl_Change) e7, SV.leaf (Leaf.int Go.IntKind.i64 i8), SV.ptr 9 0, SV.any, SV.ptr 11 0, SV.any, SV.any,
  SV.any, SV.any, SV.any, SV.any, SV.any, SV.any, SV.any, SV.any, SV.any, SV.any, SV.any, SV.any, SV.any, SV.any,
  SV.any, SV.any, SV.any, SV.any, SV.any, SV.any, SV.any, SV.any, SV.any, SV.any, SV.any, SV.any, SV.any, SV.any,
  SV.any, SV.any, SV.any, SV.any, SV.any, SV.any, SV.any, SV.any, SV.any, SV.any, SV.any, SV.any, SV.any, SV.any,
  SV.any, SV.any, SV.any, SV.any, SV.any, SV.any, SV.any, SV.any, SV.any, SV.any, SV.any, SV.any, SV.any, SV.any,
  SV.any, SV.any, SV.any, SV.any, SV.any, SV.any, SV.any, SV.any, SV.any, SV.any, SV.any, SV.any, SV.any, SV.any,
  SV.any, SV.any, SV.any, SV.any, SV.any, SV.any, SV.any, SV.any, SV.any, SV.any, SV.any, SV.any, SV.any, SV.any,
  SV.any, SV.any, SV.any, SV.any, SV.any, SV.any, SV.any, SV.any, SV.any, SV.any, SV.any, SV.any, SV.any, SV.any,
  SV.any, SV.any, SV.any, SV.any, SV.any, SV.any, SV.any, SV.any, SV.any, SV.any, SV.any, SV.any, SV.any, SV.any,
  SV.any, SV.any, SV.any, SV.any, SV.any, SV.any, SV.any, SV.any, SV.any, SV.any, SV.any, SV.any, SV.any, SV.any,
  SV.any, SV.any]
 [none, none, none, none, none, none, none, none, none,
  some
   [SV.leaf (Leaf.str sx9_0), SV.leaf (Leaf.str sx9_1), SV.leaf (Leaf.str sx9_2), SV.leaf (Leaf.str sx9_3),
    SV.leaf (Leaf.bool bx9_4), SV.leaf (Leaf.int Go.IntKind.i64 ix9_5), SV.leaf (Leaf.str sx9_6),
    SV.leaf (Leaf.sl fP ex9_7), SV.leaf (Leaf.sl fP ex9_8), SV.leaf (Leaf.sl fP ex9_9)],
  none,
  some
   [SV.leaf (Leaf.str sx11_0), SV.leaf (Leaf.str sx11_1), SV.leaf (Leaf.str sx11_2), SV.leaf (Leaf.str sx11_3),
    SV.leaf (Leaf.bool bx11_4), SV.leaf (Leaf.int Go.IntKind.i64 ix11_5), SV.leaf (Leaf.str sx11_6),
    SV.leaf (Leaf.sl fP ex11_7), SV.leaf (Leaf.sl fP ex11_8), SV.leaf (Leaf.sl fP ex11_9)],
  none, none, none, none, none, none, none, none, none, none, none, none, none, none, none, none, none, none, none,
  none, none, none, none, none, none, none, none, none, none, none, none, none, none, none, none, none, none, none,
  none, none, none, none, none, none, none, none, none, none, none, none, none, none, none, none, none, none, none,
  none, none, none, none, none, none, none, none, none, none, none, none, none, none, none, none, none, none, none,
  none, none, none, none, none, none, none, none, none, none, none, none, none, none, none, none, none, none, none,
  none, none, none, none, none, none, none, none, none, none, none, none, none, none, none, none, none, none, none,
  none, none, none, none, none, none, none, none, none, none, none, none, none, none, none, none])
def spec_InChanges_4 (s0 : ByteArray) (e1 : List (List (Leaf false))) (e2 : List (List (Leaf false))) (e7 : List (List (Leaf false))) (i13 : Int) : List Nat × St false := ([1, 1, 1, 0, 1, 0], St.mk
 [SV.leaf (Leaf.str s0), SV.leaf (Leaf.sl fP e1), SV.leaf (Leaf.sl fP e2), SV.any, SV.any, SV.any, SV.any,
  SV.own (some T.impl_Change) e7, SV.any, SV.any, SV.any, SV.any, SV.any, SV.leaf (Leaf.int Go.IntKind.i64 i13), SV.any,
  SV.any, SV.any, SV.any, SV.any, SV.any, SV.any, SV.any, SV.any, SV.any, SV.any, SV.any, SV.any, SV.any, SV.any,
  SV.any, SV.any, SV.any, SV.any, SV.any, SV.any, SV.any, SV.any, SV.any, SV.any, SV.any, SV.any, SV.any, SV.any,
  SV.any, SV.any, SV.any, SV.any, SV.any, SV.any, SV.any, SV.any, SV.any, SV.any, SV.any, SV.any, SV.any, SV.any,
  SV.any, SV.any, SV.any, SV.any, SV.any, SV.any, SV.any, SV.any, SV.any, SV.any, SV.any, SV.any, SV.any, SV.any,
  SV.any, SV.any, SV.any, SV.any, SV.any, SV.any, SV.any, SV.any, SV.any, SV.any, SV.any, SV.any, SV.any, SV.any,
  SV.any, SV.any, SV.any, SV.any, SV.any, SV.any, SV.any, SV.any, SV.any, SV.any, SV.any, SV.any, SV.any, SV.any,
  SV.any, SV.any, SV.any, SV.any, SV.any, SV.any, SV.any, SV.any, SV.any, SV.any, SV.any, SV.any, SV.any, SV.any,
  SV.any, SV.any, SV.any, SV.any, SV.any, SV.any, SV.any, SV.any, SV.any, SV.any, SV.any, SV.any, SV.any, SV.any,
  SV.any, SV.any, SV.any, SV.any, SV.any, SV.any, SV.any, SV.any, SV.any, SV.any, SV.any, SV.any, SV.any, SV.any,
  SV.any]
 [none, none, none, none, none, none, none, none, none, none, none, none, none, none, none, none, none, none, none,
  none, none, none, none, none, none, none, none, none, none, none, none, none, none, none, none, none, none, none,
  none, none, none, none, none, none, none, none, none, none, none, none, none, none, none, none, none, none, none,
  none, none, none, none, none, none, none, none, none, none, none, none, none, none, none, none, none, none, none,
  none, none, none, none, none, none, none, none, none, none, none, none, none, none, none, none, none, none, none,
  none, none, none, none, none, none, none, none, none, none, none, none, none, none, none, none, none, none, none,
  none, none, none, none, none, none, none, none, none, none, none, none, none, none, none, none, none, none, none,
  none, none, none, none, none, none, none, none, none])
def spec_InChanges_5 (s0 : ByteArray) (e1 : List (List (Leaf false))) (e2 : List (List (Leaf false))) (e7 : List (List (Leaf false))) (i8 : Int) (b61 : Bool) (sx9_0 : ByteArray) (sx9_1 : ByteArray) (sx9_2 : ByteArray) (sx9_3 : ByteArray) (bx9_4 : Bool) (ix9_5 : Int) (sx9_6 : ByteArray) (ex9_7 : List (List (Leaf false))) (ex9_8 : List (List (Leaf false))) (ex9_9 : List (List (Leaf false))) (sx11_0 : ByteArray) (sx11_1 : ByteArray) (sx11_2 : ByteArray) (sx11_3 : ByteArray) (bx11_4 : Bool) (ix11_5 : Int) (sx11_6 : ByteArray) (ex11_7 : List (List (Leaf false))) (ex11_8 : List (List (Leaf false))) (ex11_9 : List (List (Leaf false))) : List Nat × St false := ([1, 1, 0, 1, 0, 0, 1, 0, 0, 1, 1, 1, 1, 1, 0, 1], St.mk
 [SV.leaf (Leaf.str s0), SV.leaf (Leaf.sl fP e1), SV.leaf (Leaf.sl fP e2), SV.any, SV.any, SV.any, SV.any,
  SV.own (some T.impl_Change) e7, SV.leaf (Leaf.int Go.IntKind.i64 i8), SV.ptr 9 0, SV.any, SV.ptr 11 0, SV.any, SV.any,
  SV.any, SV.any, SV.any, SV.any, SV.any, SV.any, SV.any, SV.any, SV.any, SV.any, SV.any, SV.any, SV.any, SV.any,
  SV.any, SV.any, SV.any, SV.any, SV.any, SV.any, SV.any, SV.any, SV.any, SV.any, SV.any, SV.any, SV.any, SV.any,
  SV.any, SV.any, SV.any, SV.any, SV.any, SV.any, SV.any, SV.any, SV.any, SV.any, SV.any, SV.any, SV.any, SV.any,
  SV.any, SV.any, SV.any, SV.any, SV.any, SV.leaf (Leaf.bool b61), SV.any, SV.any, SV.any, SV.any, SV.any, SV.any,
  SV.any, SV.any, SV.any, SV.any, SV.any, SV.any, SV.any, SV.any, SV.any, SV.any, SV.any, SV.any, SV.any, SV.any,
  SV.any, SV.any, SV.any, SV.any, SV.any, SV.any, SV.any, SV.any, SV.any, SV.any, SV.any, SV.any, SV.any, SV.any,
  SV.any, SV.any, SV.any, SV.any, SV.any, SV.any, SV.any, SV.any, SV.any, SV.any, SV.any, SV.any, SV.any, SV.any,
  SV.any, SV.any, SV.any, SV.any, SV.any, SV.any, SV.any, SV.any, SV.any, SV.any, SV.any, SV.any, SV.any, SV.any,
  SV.any, SV.any, SV.any, SV.any, SV.any, SV.any, SV.any, SV.any, SV.any, SV.any, SV.any, SV.any, SV.any, SV.any,
  SV.any, SV.any, SV.any, SV.any]
 [none, none, none, none, none, none, none, none, none,
  some
   [SV.leaf (Leaf.str sx9_0), SV.leaf (Leaf.str sx9_1), SV.leaf (Leaf.str sx9_2), SV.leaf (Leaf.str sx9_3),
    SV.leaf (Leaf.bool bx9_4), SV.leaf (Leaf.int Go.IntKind.i64 ix9_5), SV.leaf (Leaf.str sx9_6),
    SV.leaf (Leaf.sl fP ex9_7), SV.leaf (Leaf.sl fP ex9_8), SV.leaf (Leaf.sl fP ex9_9)],
  none,
  some
   [SV.leaf (Leaf.str sx11_0), SV.leaf (Leaf.str sx11_1), SV.leaf (Leaf.str sx11_2), SV.leaf (Leaf.str sx11_3),
    SV.leaf (Leaf.bool bx11_4), SV.leaf (Leaf.int Go.IntKind.i64 ix11_5), SV.leaf (Leaf.str sx11_6),
    SV.leaf (Leaf.sl fP ex11_7), SV.leaf (Leaf.sl fP ex11_8), SV.leaf (Leaf.sl fP ex11_9)],
  none, none, none, none, none, none, none, none, none, none, none, none, none, none, none, none, none, none, none,
  none, none, none, none, none, none, none, none, none, none, none, none, none, none, none, none, none, none, none,
  none, none, none, none, none, none, none, none, none, none, none, none, none, none, none, none, none, none, none,
  none, none, none, none, none, none, none, none, none, none, none, none, none, none, none, none, none, none, none,
  none, none, none, none, none, none, none, none, none, none, none, none, none, none, none, none, none, none, none,
  none, none, none, none, none, none, none, none, none, none, none, none, none, none, none, none, none, none, none,
  none, none, none, none, none, none, none, none, none, none, none, none, none, none, none, none])
def spec_InChanges_6 (s0 : ByteArray) (e1 : List (List (Leaf false))) (e2 : List (List (Leaf false))) (e7 : List (List (Leaf false))) (i13 : Int) : List Nat × St false := ([1, 1, 1, 0, 1, 0, 0, 1, 1], St.mk
 [SV.leaf (Leaf.str s0), SV.leaf (Leaf.sl fP e1), SV.leaf (Leaf.sl fP e2), SV.any, SV.any, SV.any, SV.any,
  SV.own (some T.impl_Change) e7, SV.any, SV.any, SV.any, SV.any, SV.any, SV.leaf (Leaf.int Go.IntKind.i64 i13), SV.any,
  SV.any, SV.any, SV.any, SV.any, SV.any, SV.any, SV.any, SV.any, SV.any, SV.any, SV.any, SV.any, SV.any, SV.any,
  SV.any, SV.any, SV.any, SV.any, SV.any, SV.any, SV.any, SV.any, SV.any, SV.any, SV.any, SV.any, SV.any, SV.any,
  SV.any, SV.any, SV.any, SV.any, SV.any, SV.any, SV.any, SV.any, SV.any, SV.any, SV.any, SV.any, SV.any, SV.any,
  SV.any, SV.any, SV.any, SV.any, SV.any, SV.any, SV.any, SV.any, SV.any, SV.any, SV.any, SV.any, SV.any, SV.any,
  SV.any, SV.any, SV.any, SV.any, SV.any, SV.any, SV.any, SV.any, SV.any, SV.any, SV.any, SV.any, SV.any, SV.any,
  SV.any, SV.any, SV.any, SV.any, SV.any, SV.any, SV.any, SV.any, SV.any, SV.any, SV.any, SV.any, SV.any, SV.any,
  SV.any, SV.any, SV.any, SV.any, SV.any, SV.any, SV.any, SV.any, SV.any, SV.any, SV.any, SV.any, SV.any, SV.any,
  SV.any, SV.any, SV.any, SV.any, SV.any, SV.any, SV.any, SV.any, SV.any, SV.any, SV.any, SV.any, SV.any, SV.any,
  SV.any, SV.any, SV.any, SV.any, SV.any, SV.any, SV.any, SV.any, SV.any, SV.any, SV.any, SV.any, SV.any, SV.any,
  SV.any]
 [none, none, none, none, none, none, none, none, none, none, none, none, none, none, none, none, none, none, none,
  none, none, none, none, none, none, none, none, none, none, none, none, none, none, none, none, none, none, none,
  none, none, none, none, none, none, none, none, none, none, none, none, none, none, none, none, none, none, none,
  none, none, none, none, none, none, none, none, none, none, none, none, none, none, none, none, none, none, none,
  none, none, none, none, none, none, none, none, none, none, none, none, none, none, none, none, none, none, none,
  none, none, none, none, none, none, none, none, none, none, none, none, none, none, none, none, none, none, none,
  none, none, none, none, none, none, none, none, none, none, none, none, none, none, none, none, none, none, none,
  none, none, none, none, none, none, none, none, none])
def spec_InChanges_7 (s0 : ByteArray) (e1 : List (List (Leaf false))) (e2 : List (List (Leaf false))) (e7 : List (List (Leaf false))) (i13 : Int) (b129 : Bool) : List Nat × St false := ([1, 1, 1, 0, 1, 0, 0, 1, 0, 0, 1, 1, 0, 1], St.mk
 [SV.leaf (Leaf.str s0), SV.leaf (Leaf.sl fP e1), SV.leaf (Leaf.sl fP e2), SV.any, SV.any, SV.any, SV.any,
  SV.own (some T.impl_Change) e7, SV.any, SV.any, SV.any, SV.any, SV.any, SV.leaf (Leaf.int Go.IntKind.i64 i13),
  SV.leaf (Leaf.int Go.IntKind.i64 20), SV.any, SV.any, SV.any, SV.any, SV.any, SV.any, SV.any, SV.any, SV.any, SV.any,
  SV.any, SV.any, SV.any, SV.any, SV.any, SV.any, SV.any, SV.any, SV.any, SV.any, SV.any, SV.any, SV.any, SV.any,
  SV.any, SV.any, SV.any, SV.any, SV.any, SV.any, SV.any, SV.any, SV.any, SV.any, SV.any, SV.any, SV.any, SV.any,
  SV.any, SV.any, SV.any, SV.any, SV.any, SV.any, SV.any, SV.any, SV.any, SV.any, SV.any, SV.any, SV.any, SV.any,
  SV.any, SV.any, SV.any, SV.any, SV.any, SV.any, SV.any, SV.any, SV.any, SV.any, SV.any, SV.any, SV.any, SV.any,
  SV.any, SV.any, SV.any, SV.any, SV.any, SV.any, SV.any, SV.any, SV.any, SV.any, SV.any, SV.any, SV.any, SV.any,
  SV.any, SV.any, SV.any, SV.any, SV.any, SV.any, SV.any, SV.any, SV.any, SV.any, SV.any, SV.any, SV.any, SV.any,
  SV.any, SV.any, SV.any, SV.any, SV.any, SV.any, SV.any, SV.any, SV.any, SV.any, SV.any, SV.any, SV.any, SV.any,
  SV.any, SV.any, SV.any, SV.any, SV.any, SV.any, SV.leaf (Leaf.bool b129), SV.any, SV.any, SV.any, SV.any, SV.any,
  SV.any, SV.any, SV.any, SV.any, SV.any, SV.any, SV.any]
 [none, none, none, none, none, none, none, none, none, none, none, none, none, none, none, none, none, none, none,
  none, none, none, none, none, none, none, none, none, none, none, none, none, none, none, none, none, none, none,
  none, none, none, none, none, none, none, none, none, none, none, none, none, none, none, none, none, none, none,
  none, none, none, none, none, none, none, none, none, none, none, none, none, none, none, none, none, none, none,
  none, none, none, none, none, none, none, none, none, none, none, none, none, none, none, none, none, none, none,
  none, none, none, none, none, none, none, none, none, none, none, none, none, none, none, none, none, none, none,
  none, none, none, none, none, none, none, none, none, none, none, none, none, none, none, none, none, none, none,
  none, none, none, none, none, none, none, none, none])
def spec_InChanges_8 (s0 : ByteArray) (e1 : List (List (Leaf false))) (e2 : List (List (Leaf false))) (e7 : List (List (Leaf false))) (i8 : Int) (b81 : Bool) (sx9_0 : ByteArray) (sx9_1 : ByteArray) (sx9_2 : ByteArray) (sx9_3 : ByteArray) (bx9_4 : Bool) (ix9_5 : Int) (sx9_6 : ByteArray) (ex9_7 : List (List (Leaf false))) (ex9_8 : List (List (Leaf false))) (ex9_9 : List (List (Leaf false))) : List Nat × St false := ([1, 1, 0, 1, 0, 0, 1, 0, 0, 1, 1, 1, 1, 1, 0, 1, 1, 1], St.mk
 [SV.leaf (Leaf.str s0), SV.leaf (Leaf.sl fP e1), SV.leaf (Leaf.sl fP e2), SV.any, SV.any, SV.any, SV.any,
  SV.own (some T.impl_Change) e7, SV.leaf (Leaf.int Go.IntKind.i64 i8), SV.ptr 9 0, SV.any, SV.any, SV.any, SV.any,
  SV.any, SV.any, SV.any, SV.any, SV.any, SV.any, SV.any, SV.any, SV.any, SV.any, SV.any, SV.any, SV.any, SV.any,
  SV.any, SV.any, SV.any, SV.any, SV.any, SV.any, SV.any, SV.any, SV.any, SV.any, SV.any, SV.any, SV.any, SV.any,
  SV.any, SV.any, SV.any, SV.any, SV.any, SV.any, SV.any, SV.any, SV.any, SV.any, SV.any, SV.any, SV.any, SV.any,
  SV.any, SV.any, SV.any, SV.any, SV.any, SV.any, SV.any, SV.any, SV.any, SV.any, SV.any, SV.any, SV.any, SV.any,
  SV.any, SV.any, SV.any, SV.any, SV.any, SV.any, SV.any, SV.any, SV.any, SV.any, SV.any, SV.leaf (Leaf.bool b81),
  SV.any, SV.any, SV.any, SV.any, SV.any, SV.any, SV.any, SV.any, SV.any, SV.any, SV.any, SV.any, SV.any, SV.any,
  SV.any, SV.any, SV.any, SV.any, SV.any, SV.any, SV.any, SV.any, SV.any, SV.any, SV.any, SV.any, SV.any, SV.any,
  SV.any, SV.any, SV.any, SV.any, SV.any, SV.any, SV.any, SV.any, SV.any, SV.any, SV.any, SV.any, SV.any, SV.any,
  SV.any, SV.any, SV.any, SV.any, SV.any, SV.any, SV.any, SV.any, SV.any, SV.any, SV.any, SV.any, SV.any, SV.any,
  SV.any, SV.any, SV.any, SV.any]
 [none, none, none, none, none, none, none, none, none,
  some
   [SV.leaf (Leaf.str sx9_0), SV.leaf (Leaf.str sx9_1), SV.leaf (Leaf.str sx9_2), SV.leaf (Leaf.str sx9_3),
    SV.leaf (Leaf.bool bx9_4), SV.leaf (Leaf.int Go.IntKind.i64 ix9_5), SV.leaf (Leaf.str sx9_6),
    SV.leaf (Leaf.sl fP ex9_7), SV.leaf (Leaf.sl fP ex9_8), SV.leaf (Leaf.sl fP ex9_9)],
  none, none, none, none, none, none, none, none, none, none, none, none, none, none, none, none, none, none, none,
  none, none, none, none, none, none, none, none, none, none, none, none, none, none, none, none, none, none, none,
  none, none, none, none, none, none, none, none, none, none, none, none, none, none, none, none, none, none, none,
  none, none, none, none, none, none, none, none, none, none, none, none, none, none, none, none, none, none, none,
  none, none, none, none, none, none, none, none, none, none, none, none, none, none, none, none, none, none, none,
  none, none, none, none, none, none, none, none, none, none, none, none, none, none, none, none, none, none, none,
  none, none, none, none, none, none, none, none, none, none, none, none, none, none, none, none, none, none])
def spec_InChanges_9 (s0 : ByteArray) (e1 : List (List (Leaf false))) (e2 : List (List (Leaf false))) (e7 : List (List (Leaf false))) (i13 : Int) (i14 : Int) : List Nat × St false := ([1, 1, 1, 0, 1, 0, 0, 1, 0, 0, 1, 1, 1], St.mk
 [SV.leaf (Leaf.str s0), SV.leaf (Leaf.sl fP e1), SV.leaf (Leaf.sl fP e2), SV.any, SV.any, SV.any, SV.any,
  SV.own (some T.impl_Change) e7, SV.any, SV.any, SV.any, SV.any, SV.any, SV.leaf (Leaf.int Go.IntKind.i64 i13),
  SV.leaf (Leaf.int Go.IntKind.i64 i14), SV.any, SV.any, SV.any, SV.any, SV.any, SV.any, SV.any, SV.any, SV.any, SV.any,
  SV.any, SV.any, SV.any, SV.any, SV.any, SV.any, SV.any, SV.any, SV.any, SV.any, SV.any, SV.any, SV.any, SV.any,
  SV.any, SV.any, SV.any, SV.any, SV.any, SV.any, SV.any, SV.any, SV.any, SV.any, SV.any, SV.any, SV.any, SV.any,
  SV.any, SV.any, SV.any, SV.any, SV.any, SV.any, SV.any, SV.any, SV.any, SV.any, SV.any, SV.any, SV.any, SV.any,
  SV.any, SV.any, SV.any, SV.any, SV.any, SV.any, SV.any, SV.any, SV.any, SV.any, SV.any, SV.any, SV.any, SV.any,
  SV.any, SV.any, SV.any, SV.any, SV.any, SV.any, SV.any, SV.any, SV.any, SV.any, SV.any, SV.any, SV.any, SV.any,
  SV.any, SV.any, SV.any, SV.any, SV.any, SV.any, SV.any, SV.any, SV.any, SV.any, SV.any, SV.any, SV.any, SV.any,
  SV.any, SV.any, SV.any, SV.any, SV.any, SV.any, SV.any, SV.any, SV.any, SV.any, SV.any, SV.any, SV.any, SV.any,
  SV.any, SV.any, SV.any, SV.any, SV.any, SV.any, SV.any, SV.any, SV.any, SV.any, SV.any, SV.any, SV.any, SV.any,
  SV.any, SV.any, SV.any, SV.any, SV.any]
 [none, none, none, none, none, none, none, none, none, none, none, none, none, none, none, none, none, none, none,
  none, none, none, none, none, none, none, none, none, none, none, none, none, none, none, none, none, none, none,
  none, none, none, none, none, none, none, none, none, none, none, none, none, none, none, none, none, none, none,
  none, none, none, none, none, none, none, none, none, none, none, none, none, none, none, none, none, none, none,
  none, none, none, none, none, none, none, none, none, none, none, none, none, none, none, none, none, none, none,
  none, none, none, none, none, none, none, none, none, none, none, none, none, none, none, none, none, none, none,
  none, none, none, none, none, none, none, none, none, none, none, none, none, none, none, none, none, none, none,
  none, none, none, none, none, none, none, none, none])
theorem spec_InChanges_0_eq (D : Oracle false) (s0 : ByteArray) (e1 : List (List (Leaf false))) (e2 : List (List (Leaf false))) (e7 : List (List (Leaf false))) (i8 : Int) : spec_InChanges_A D (spec_InChanges_0 s0 e1 e2 e7 i8) =
  branch (decide (i8 < (↑e1.length : Int)))
 (guarded (decide (0 ≤ i8) && decide (i8 < (↑e1.length : Int)) && sized 10 e1)
  (bindE (e1.getD i8.toNat []) fun (e : List (Leaf false)) =>
   atK e 0 fun (l : Leaf false) =>
    strK l fun (s : ByteArray) =>
     atK e 1 fun (l : Leaf false) =>
      strK l fun (s_1 : ByteArray) =>
       atK e 2 fun (l : Leaf false) =>
        strK l fun (s_2 : ByteArray) =>
         atK e 3 fun (l : Leaf false) =>
          strK l fun (s_3 : ByteArray) =>
           atK e 4 fun (l : Leaf false) =>
            boolK l fun (b : Bool) =>
             atK e 5 fun (l : Leaf false) =>
              intK Go.IntKind.i64 l fun (n : Int) =>
               atK e 6 fun (l : Leaf false) =>
                strK l fun (s_4 : ByteArray) =>
                 atK e 7 fun (l : Leaf false) =>
                  slK l fun (c : Fl false) (es : List (List (Leaf false))) =>
                   atK e 8 fun (l : Leaf false) =>
                    slK l fun (c : Fl false) (es_1 : List (List (Leaf false))) =>
                     atK e 9 fun (l : Leaf false) =>
                      slK l fun (c : Fl false) (es_2 : List (List (Leaf false))) =>
                       (D F.spec_InAt [SV.leaf (Leaf.sl fP e2), SV.leaf (Leaf.str s)] []).bind
                        fun (r : SV false × List (List (SV false))) =>
                        svLeafK r.fst fun (l : Leaf false) =>
                         intK Go.IntKind.i64 l fun (n_1 : Int) =>
                          branch (decide (n_1 < 0))
                           (guarded (decide ((e7.length + 1) * 40 ≤ maxBytes) && true)
                            (spec_InChanges_A D
                             (spec_InChanges_1 s0 e1 e2 (e7 ++ [[Leaf.int Go.IntKind.i64 6, Leaf.str s0, Leaf.str s]])
                              i8)))
                           (guarded (decide (0 ≤ n_1) && decide (n_1 < (↑e2.length : Int)) && sized 10 e2)
                            (bindE (e2.getD n_1.toNat []) fun (e : List (Leaf false)) =>
                             atK e 0 fun (l : Leaf false) =>
                              strK l fun (s_5 : ByteArray) =>
                               atK e 1 fun (l : Leaf false) =>
                                strK l fun (s_6 : ByteArray) =>
                                 atK e 2 fun (l : Leaf false) =>
                                  strK l fun (s_7 : ByteArray) =>
                                   atK e 3 fun (l : Leaf false) =>
                                    strK l fun (s_8 : ByteArray) =>
                                     atK e 4 fun (l : Leaf false) =>
                                      boolK l fun (b_1 : Bool) =>
                                       atK e 5 fun (l : Leaf false) =>
                                        intK Go.IntKind.i64 l fun (n_2 : Int) =>
                                         atK e 6 fun (l : Leaf false) =>
                                          strK l fun (s_9 : ByteArray) =>
                                           atK e 7 fun (l : Leaf false) =>
                                            slK l fun (c : Fl false) (es_3 : List (List (Leaf false))) =>
                                             atK e 8 fun (l : Leaf false) =>
                                              slK l fun (c : Fl false) (es_4 : List (List (Leaf false))) =>
                                               atK e 9 fun (l : Leaf false) =>
                                                slK l fun (c : Fl false) (es_5 : List (List (Leaf false))) =>
                                                 branch (!(s_2 == s_7 && (s_3 == s_8 && true)))
                                                  ((D F.spec_Compatible
                                                     [SV.agg [Leaf.str s_2, Leaf.str s_3],
                                                      SV.agg [Leaf.str s_7, Leaf.str s_8]]
                                                     []).bind
                                                   fun (r : SV false × List (List (SV false))) =>
                                                   svLeafK r.fst fun (l : Leaf false) =>
                                                    boolK l fun (b_2 : Bool) =>
                                                     branch b_2
                                                      (spec_InChanges_A D
                                                       (spec_InChanges_2 s0 e1 e2 e7 i8 19 s s_1 s_2 s_3 b n s_4 es es_1
                                                        es_2 s_5 s_6 s_7 s_8 b_1 n_2 s_9 es_3 es_4 es_5))
                                                      (spec_InChanges_A D
                                                       (spec_InChanges_2 s0 e1 e2 e7 i8 7 s s_1 s_2 s_3 b n s_4 es es_1
                                                        es_2 s_5 s_6 s_7 s_8 b_1 n_2 s_9 es_3 es_4 es_5)))
                                                  (spec_InChanges_A D
                                                   (spec_InChanges_3 s0 e1 e2 e7 i8 s s_1 s_2 s_3 b n s_4 es es_1 es_2
                                                    s_5 s_6 s_7 s_8 b_1 n_2 s_9 es_3 es_4 es_5))))))
 (spec_InChanges_A D (spec_InChanges_4 s0 e1 e2 e7 0)) := by
  refine (nameF_eq (J := spec_InChanges_A D) (fun _ _ => rfl) [[1, 1, 0, 1, 0], [1, 1, 0, 1, 0, 0, 1, 1], [1, 1, 0, 1, 0, 0, 1, 0, 0, 1, 1, 1, 1, 1], [1, 1, 0, 1, 0, 0, 1, 0, 0, 1, 1, 1, 1, 0, 1, 0, 1, 1], [1, 1, 0, 1, 0, 0, 1, 0, 0, 1, 1, 1, 1, 1, 0, 1], [1, 1, 0, 1, 0, 0, 1, 0, 0, 1, 1, 1, 1, 1, 0, 1, 1, 1], [1, 1, 1, 0, 1, 0], [1, 1, 1, 0, 1, 0, 0, 1, 1], [1, 1, 1, 0, 1, 0, 0, 1, 0, 0, 1, 1, 1], [1, 1, 1, 0, 1, 0, 0, 1, 0, 0, 1, 1, 0, 1]] (spec_InChanges_0 s0 e1 e2 e7 i8)).trans ?_
  generalize spec_InChanges_A D = J
  revert J
  refine id ?_
  intro J
  kernel_rfl
theorem spec_InChanges_1_eq (D : Oracle false) (s0 : ByteArray) (e1 : List (List (Leaf false))) (e2 : List (List (Leaf false))) (e7 : List (List (Leaf false))) (i8 : Int) : spec_InChanges_A D (spec_InChanges_1 s0 e1 e2 e7 i8) =
  spec_InChanges_A D (spec_InChanges_0 s0 e1 e2 e7 (Go.IntKind.i64.wrap (i8 + 1))) := by
  refine (nameF_eq (J := spec_InChanges_A D) (fun _ _ => rfl) [[1, 1, 0, 1, 0], [1, 1, 0, 1, 0, 0, 1, 1], [1, 1, 0, 1, 0, 0, 1, 0, 0, 1, 1, 1, 1, 1], [1, 1, 0, 1, 0, 0, 1, 0, 0, 1, 1, 1, 1, 0, 1, 0, 1, 1], [1, 1, 0, 1, 0, 0, 1, 0, 0, 1, 1, 1, 1, 1, 0, 1], [1, 1, 0, 1, 0, 0, 1, 0, 0, 1, 1, 1, 1, 1, 0, 1, 1, 1], [1, 1, 1, 0, 1, 0], [1, 1, 1, 0, 1, 0, 0, 1, 1], [1, 1, 1, 0, 1, 0, 0, 1, 0, 0, 1, 1, 1], [1, 1, 1, 0, 1, 0, 0, 1, 0, 0, 1, 1, 0, 1]] (spec_InChanges_1 s0 e1 e2 e7 i8)).trans ?_
  generalize spec_InChanges_A D = J
  revert J
  refine id ?_
  intro J
  kernel_rfl
theorem spec_InChanges_2_eq (D : Oracle false) (s0 : ByteArray) (e1 : List (List (Leaf false))) (e2 : List (List (Leaf false))) (e7 : List (List (Leaf false))) (i8 : Int) (i12 : Int) (sx9_0 : ByteArray) (sx9_1 : ByteArray) (sx9_2 : ByteArray) (sx9_3 : ByteArray) (bx9_4 : Bool) (ix9_5 : Int) (sx9_6 : ByteArray) (ex9_7 : List (List (Leaf false))) (ex9_8 : List (List (Leaf false))) (ex9_9 : List (List (Leaf false))) (sx11_0 : ByteArray) (sx11_1 : ByteArray) (sx11_2 : ByteArray) (sx11_3 : ByteArray) (bx11_4 : Bool) (ix11_5 : Int) (sx11_6 : ByteArray) (ex11_7 : List (List (Leaf false))) (ex11_8 : List (List (Leaf false))) (ex11_9 : List (List (Leaf false))) : spec_InChanges_A D (spec_InChanges_2 s0 e1 e2 e7 i8 i12 sx9_0 sx9_1 sx9_2 sx9_3 bx9_4 ix9_5 sx9_6 ex9_7 ex9_8 ex9_9 sx11_0 sx11_1 sx11_2 sx11_3 bx11_4 ix11_5 sx11_6 ex11_7 ex11_8 ex11_9) =
  guarded (decide ((e7.length + 1) * 40 ≤ maxBytes) && true)
 (spec_InChanges_A D
  (spec_InChanges_3 s0 e1 e2 (e7 ++ [[Leaf.int Go.IntKind.i64 i12, Leaf.str s0, Leaf.str sx9_0]]) i8 sx9_0 sx9_1 sx9_2
   sx9_3 bx9_4 ix9_5 sx9_6 ex9_7 ex9_8 ex9_9 sx11_0 sx11_1 sx11_2 sx11_3 bx11_4 ix11_5 sx11_6 ex11_7 ex11_8 ex11_9)) := by
  refine (nameF_eq (J := spec_InChanges_A D) (fun _ _ => rfl) [[1, 1, 0, 1, 0], [1, 1, 0, 1, 0, 0, 1, 1], [1, 1, 0, 1, 0, 0, 1, 0, 0, 1, 1, 1, 1, 1], [1, 1, 0, 1, 0, 0, 1, 0, 0, 1, 1, 1, 1, 0, 1, 0, 1, 1], [1, 1, 0, 1, 0, 0, 1, 0, 0, 1, 1, 1, 1, 1, 0, 1], [1, 1, 0, 1, 0, 0, 1, 0, 0, 1, 1, 1, 1, 1, 0, 1, 1, 1], [1, 1, 1, 0, 1, 0], [1, 1, 1, 0, 1, 0, 0, 1, 1], [1, 1, 1, 0, 1, 0, 0, 1, 0, 0, 1, 1, 1], [1, 1, 1, 0, 1, 0, 0, 1, 0, 0, 1, 1, 0, 1]] (spec_InChanges_2 s0 e1 e2 e7 i8 i12 sx9_0 sx9_1 sx9_2 sx9_3 bx9_4 ix9_5 sx9_6 ex9_7 ex9_8 ex9_9 sx11_0 sx11_1 sx11_2 sx11_3 bx11_4 ix11_5 sx11_6 ex11_7 ex11_8 ex11_9)).trans ?_
  generalize spec_InChanges_A D = J
  revert J
  refine id ?_
  intro J
  kernel_rfl
theorem spec_InChanges_3_eq (D : Oracle false) (s0 : ByteArray) (e1 : List (List (Leaf false))) (e2 : List (List (Leaf false))) (e7 : List (List (Leaf false))) (i8 : Int) (sx9_0 : ByteArray) (sx9_1 : ByteArray) (sx9_2 : ByteArray) (sx9_3 : ByteArray) (bx9_4 : Bool) (ix9_5 : Int) (sx9_6 : ByteArray) (ex9_7 : List (List (Leaf false))) (ex9_8 : List (List (Leaf false))) (ex9_9 : List (List (Leaf false))) (sx11_0 : ByteArray) (sx11_1 : ByteArray) (sx11_2 : ByteArray) (sx11_3 : ByteArray) (bx11_4 : Bool) (ix11_5 : Int) (sx11_6 : ByteArray) (ex11_7 : List (List (Leaf false))) (ex11_8 : List (List (Leaf false))) (ex11_9 : List (List (Leaf false))) : spec_InChanges_A D (spec_InChanges_3 s0 e1 e2 e7 i8 sx9_0 sx9_1 sx9_2 sx9_3 bx9_4 ix9_5 sx9_6 ex9_7 ex9_8 ex9_9 sx11_0 sx11_1 sx11_2 sx11_3 bx11_4 ix11_5 sx11_6 ex11_7 ex11_8 ex11_9) =
  branch (bx9_4 == true)
 (branch ((!bx11_4) == true)
  ((D F.spec_Needed [SV.agg [Leaf.str sx11_2, Leaf.str sx11_3]] []).bind fun (r : SV false × List (List (SV false))) =>
   svLeafK r.fst fun (l : Leaf false) =>
    boolK l fun (b : Bool) =>
     spec_InChanges_A D
      (spec_InChanges_5 s0 e1 e2 e7 i8 b sx9_0 sx9_1 sx9_2 sx9_3 bx9_4 ix9_5 sx9_6 ex9_7 ex9_8 ex9_9 sx11_0 sx11_1
       sx11_2 sx11_3 bx11_4 ix11_5 sx11_6 ex11_7 ex11_8 ex11_9))
  (spec_InChanges_A D
   (spec_InChanges_5 s0 e1 e2 e7 i8 false sx9_0 sx9_1 sx9_2 sx9_3 bx9_4 ix9_5 sx9_6 ex9_7 ex9_8 ex9_9 sx11_0 sx11_1
    sx11_2 sx11_3 bx11_4 ix11_5 sx11_6 ex11_7 ex11_8 ex11_9)))
 (spec_InChanges_A D
  (spec_InChanges_5 s0 e1 e2 e7 i8 false sx9_0 sx9_1 sx9_2 sx9_3 bx9_4 ix9_5 sx9_6 ex9_7 ex9_8 ex9_9 sx11_0 sx11_1
   sx11_2 sx11_3 bx11_4 ix11_5 sx11_6 ex11_7 ex11_8 ex11_9)) := by
  refine (nameF_eq (J := spec_InChanges_A D) (fun _ _ => rfl) [[1, 1, 0, 1, 0], [1, 1, 0, 1, 0, 0, 1, 1], [1, 1, 0, 1, 0, 0, 1, 0, 0, 1, 1, 1, 1, 1], [1, 1, 0, 1, 0, 0, 1, 0, 0, 1, 1, 1, 1, 0, 1, 0, 1, 1], [1, 1, 0, 1, 0, 0, 1, 0, 0, 1, 1, 1, 1, 1, 0, 1], [1, 1, 0, 1, 0, 0, 1, 0, 0, 1, 1, 1, 1, 1, 0, 1, 1, 1], [1, 1, 1, 0, 1, 0], [1, 1, 1, 0, 1, 0, 0, 1, 1], [1, 1, 1, 0, 1, 0, 0, 1, 0, 0, 1, 1, 1], [1, 1, 1, 0, 1, 0, 0, 1, 0, 0, 1, 1, 0, 1]] (spec_InChanges_3 s0 e1 e2 e7 i8 sx9_0 sx9_1 sx9_2 sx9_3 bx9_4 ix9_5 sx9_6 ex9_7 ex9_8 ex9_9 sx11_0 sx11_1 sx11_2 sx11_3 bx11_4 ix11_5 sx11_6 ex11_7 ex11_8 ex11_9)).trans ?_
  generalize spec_InChanges_A D = J
  revert J
  refine id ?_
  intro J
  kernel_rfl
theorem spec_InChanges_4_eq (D : Oracle false) (s0 : ByteArray) (e1 : List (List (Leaf false))) (e2 : List (List (Leaf false))) (e7 : List (List (Leaf false))) (i13 : Int) : spec_InChanges_A D (spec_InChanges_4 s0 e1 e2 e7 i13) =
  branch (decide (i13 < (↑e2.length : Int)))
 (guarded (decide (0 ≤ i13) && decide (i13 < (↑e2.length : Int)) && sized 10 e2)
  (atK (e2.getD i13.toNat []) 0 fun (l : Leaf false) =>
   strK l fun (s : ByteArray) =>
    (D F.spec_InAt [SV.leaf (Leaf.sl fP e1), SV.leaf (Leaf.str s)] []).bind
     fun (r : SV false × List (List (SV false))) =>
     svLeafK r.fst fun (l : Leaf false) =>
      intK Go.IntKind.i64 l fun (n : Int) =>
       branch (decide (n ≥ 0)) (spec_InChanges_A D (spec_InChanges_6 s0 e1 e2 e7 i13))
        (guarded (decide (0 ≤ i13) && decide (i13 < (↑e2.length : Int)) && sized 10 e2)
         (bindE (e2.getD i13.toNat []) fun (e : List (Leaf false)) =>
          atK e 2 fun (l : Leaf false) =>
           strK l fun (s : ByteArray) =>
            atK e 3 fun (l : Leaf false) =>
             strK l fun (s_1 : ByteArray) =>
              (D F.spec_Needed [SV.agg [Leaf.str s, Leaf.str s_1]] []).bind
               fun (r : SV false × List (List (SV false))) =>
               svLeafK r.fst fun (l : Leaf false) =>
                boolK l fun (b : Bool) =>
                 branch (b == true)
                  (guarded (decide (0 ≤ i13) && decide (i13 < (↑e2.length : Int)) && sized 10 e2)
                   (atK (e2.getD i13.toNat []) 4 fun (l : Leaf false) =>
                    boolK l fun (b : Bool) => spec_InChanges_A D (spec_InChanges_7 s0 e1 e2 e7 i13 !b)))
                  (spec_InChanges_A D (spec_InChanges_7 s0 e1 e2 e7 i13 false))))))
 (some (SV.own (some T.impl_Change) e7, [])) := by
  refine (nameF_eq (J := spec_InChanges_A D) (fun _ _ => rfl) [[1, 1, 0, 1, 0], [1, 1, 0, 1, 0, 0, 1, 1], [1, 1, 0, 1, 0, 0, 1, 0, 0, 1, 1, 1, 1, 1], [1, 1, 0, 1, 0, 0, 1, 0, 0, 1, 1, 1, 1, 0, 1, 0, 1, 1], [1, 1, 0, 1, 0, 0, 1, 0, 0, 1, 1, 1, 1, 1, 0, 1], [1, 1, 0, 1, 0, 0, 1, 0, 0, 1, 1, 1, 1, 1, 0, 1, 1, 1], [1, 1, 1, 0, 1, 0], [1, 1, 1, 0, 1, 0, 0, 1, 1], [1, 1, 1, 0, 1, 0, 0, 1, 0, 0, 1, 1, 1], [1, 1, 1, 0, 1, 0, 0, 1, 0, 0, 1, 1, 0, 1]] (spec_InChanges_4 s0 e1 e2 e7 i13)).trans ?_
  generalize spec_InChanges_A D = J
  revert J
  refine id ?_
  intro J
  kernel_rfl
theorem spec_InChanges_5_eq (D : Oracle false) (s0 : ByteArray) (e1 : List (List (Leaf false))) (e2 : List (List (Leaf false))) (e7 : List (List (Leaf false))) (i8 : Int) (b61 : Bool) (sx9_0 : ByteArray) (sx9_1 : ByteArray) (sx9_2 : ByteArray) (sx9_3 : ByteArray) (bx9_4 : Bool) (ix9_5 : Int) (sx9_6 : ByteArray) (ex9_7 : List (List (Leaf false))) (ex9_8 : List (List (Leaf false))) (ex9_9 : List (List (Leaf false))) (sx11_0 : ByteArray) (sx11_1 : ByteArray) (sx11_2 : ByteArray) (sx11_3 : ByteArray) (bx11_4 : Bool) (ix11_5 : Int) (sx11_6 : ByteArray) (ex11_7 : List (List (Leaf false))) (ex11_8 : List (List (Leaf false))) (ex11_9 : List (List (Leaf false))) : spec_InChanges_A D (spec_InChanges_5 s0 e1 e2 e7 i8 b61 sx9_0 sx9_1 sx9_2 sx9_3 bx9_4 ix9_5 sx9_6 ex9_7 ex9_8 ex9_9 sx11_0 sx11_1 sx11_2 sx11_3 bx11_4 ix11_5 sx11_6 ex11_7 ex11_8 ex11_9) =
  branch b61
 (guarded (decide ((e7.length + 1) * 40 ≤ maxBytes) && true)
  (spec_InChanges_A D
   (spec_InChanges_1 s0 e1 e2 (e7 ++ [[Leaf.int Go.IntKind.i64 9, Leaf.str s0, Leaf.str sx9_0]]) i8)))
 (branch ((!bx9_4 == bx11_4) == false)
  ((D F.spec_SameValue
     [SV.agg [Leaf.int Go.IntKind.i64 ix9_5, Leaf.str sx9_6, Leaf.sl fP ex9_7, Leaf.sl fP ex9_8],
      SV.agg [Leaf.int Go.IntKind.i64 ix11_5, Leaf.str sx11_6, Leaf.sl fP ex11_7, Leaf.sl fP ex11_8]]
     []).bind
   fun (r : SV false × List (List (SV false))) =>
   svLeafK r.fst fun (l : Leaf false) =>
    boolK l fun (b : Bool) =>
     spec_InChanges_A D
      (spec_InChanges_8 s0 e1 e2 e7 i8 (!b) sx9_0 sx9_1 sx9_2 sx9_3 bx9_4 ix9_5 sx9_6 ex9_7 ex9_8 ex9_9))
  (spec_InChanges_A D
   (spec_InChanges_8 s0 e1 e2 e7 i8 true sx9_0 sx9_1 sx9_2 sx9_3 bx9_4 ix9_5 sx9_6 ex9_7 ex9_8 ex9_9))) := by
  refine (nameF_eq (J := spec_InChanges_A D) (fun _ _ => rfl) [[1, 1, 0, 1, 0], [1, 1, 0, 1, 0, 0, 1, 1], [1, 1, 0, 1, 0, 0, 1, 0, 0, 1, 1, 1, 1, 1], [1, 1, 0, 1, 0, 0, 1, 0, 0, 1, 1, 1, 1, 0, 1, 0, 1, 1], [1, 1, 0, 1, 0, 0, 1, 0, 0, 1, 1, 1, 1, 1, 0, 1], [1, 1, 0, 1, 0, 0, 1, 0, 0, 1, 1, 1, 1, 1, 0, 1, 1, 1], [1, 1, 1, 0, 1, 0], [1, 1, 1, 0, 1, 0, 0, 1, 1], [1, 1, 1, 0, 1, 0, 0, 1, 0, 0, 1, 1, 1], [1, 1, 1, 0, 1, 0, 0, 1, 0, 0, 1, 1, 0, 1]] (spec_InChanges_5 s0 e1 e2 e7 i8 b61 sx9_0 sx9_1 sx9_2 sx9_3 bx9_4 ix9_5 sx9_6 ex9_7 ex9_8 ex9_9 sx11_0 sx11_1 sx11_2 sx11_3 bx11_4 ix11_5 sx11_6 ex11_7 ex11_8 ex11_9)).trans ?_
  generalize spec_InChanges_A D = J
  revert J
  refine id ?_
  intro J
  kernel_rfl
theorem spec_InChanges_6_eq (D : Oracle false) (s0 : ByteArray) (e1 : List (List (Leaf false))) (e2 : List (List (Leaf false))) (e7 : List (List (Leaf false))) (i13 : Int) : spec_InChanges_A D (spec_InChanges_6 s0 e1 e2 e7 i13) =
  spec_InChanges_A D (spec_InChanges_4 s0 e1 e2 e7 (Go.IntKind.i64.wrap (i13 + 1))) := by
  refine (nameF_eq (J := spec_InChanges_A D) (fun _ _ => rfl) [[1, 1, 0, 1, 0], [1, 1, 0, 1, 0, 0, 1, 1], [1, 1, 0, 1, 0, 0, 1, 0, 0, 1, 1, 1, 1, 1], [1, 1, 0, 1, 0, 0, 1, 0, 0, 1, 1, 1, 1, 0, 1, 0, 1, 1], [1, 1, 0, 1, 0, 0, 1, 0, 0, 1, 1, 1, 1, 1, 0, 1], [1, 1, 0, 1, 0, 0, 1, 0, 0, 1, 1, 1, 1, 1, 0, 1, 1, 1], [1, 1, 1, 0, 1, 0], [1, 1, 1, 0, 1, 0, 0, 1, 1], [1, 1, 1, 0, 1, 0, 0, 1, 0, 0, 1, 1, 1], [1, 1, 1, 0, 1, 0, 0, 1, 0, 0, 1, 1, 0, 1]] (spec_InChanges_6 s0 e1 e2 e7 i13)).trans ?_
  generalize spec_InChanges_A D = J
  revert J
  refine id ?_
  intro J
  kernel_rfl
theorem spec_InChanges_7_eq (D : Oracle false) (s0 : ByteArray) (e1 : List (List (Leaf false))) (e2 : List (List (Leaf false))) (e7 : List (List (Leaf false))) (i13 : Int) (b129 : Bool) : spec_InChanges_A D (spec_InChanges_7 s0 e1 e2 e7 i13 b129) =
  branch b129 (spec_InChanges_A D (spec_InChanges_9 s0 e1 e2 e7 i13 8))
 (spec_InChanges_A D (spec_InChanges_9 s0 e1 e2 e7 i13 20)) := by
  refine (nameF_eq (J := spec_InChanges_A D) (fun _ _ => rfl) [[1, 1, 0, 1, 0], [1, 1, 0, 1, 0, 0, 1, 1], [1, 1, 0, 1, 0, 0, 1, 0, 0, 1, 1, 1, 1, 1], [1, 1, 0, 1, 0, 0, 1, 0, 0, 1, 1, 1, 1, 0, 1, 0, 1, 1], [1, 1, 0, 1, 0, 0, 1, 0, 0, 1, 1, 1, 1, 1, 0, 1], [1, 1, 0, 1, 0, 0, 1, 0, 0, 1, 1, 1, 1, 1, 0, 1, 1, 1], [1, 1, 1, 0, 1, 0], [1, 1, 1, 0, 1, 0, 0, 1, 1], [1, 1, 1, 0, 1, 0, 0, 1, 0, 0, 1, 1, 1], [1, 1, 1, 0, 1, 0, 0, 1, 0, 0, 1, 1, 0, 1]] (spec_InChanges_7 s0 e1 e2 e7 i13 b129)).trans ?_
  generalize spec_InChanges_A D = J
  revert J
  refine id ?_
  intro J
  kernel_rfl
theorem spec_InChanges_8_eq (D : Oracle false) (s0 : ByteArray) (e1 : List (List (Leaf false))) (e2 : List (List (Leaf false))) (e7 : List (List (Leaf false))) (i8 : Int) (b81 : Bool) (sx9_0 : ByteArray) (sx9_1 : ByteArray) (sx9_2 : ByteArray) (sx9_3 : ByteArray) (bx9_4 : Bool) (ix9_5 : Int) (sx9_6 : ByteArray) (ex9_7 : List (List (Leaf false))) (ex9_8 : List (List (Leaf false))) (ex9_9 : List (List (Leaf false))) : spec_InChanges_A D (spec_InChanges_8 s0 e1 e2 e7 i8 b81 sx9_0 sx9_1 sx9_2 sx9_3 bx9_4 ix9_5 sx9_6 ex9_7 ex9_8 ex9_9) =
  branch b81
 (guarded (decide ((e7.length + 1) * 40 ≤ maxBytes) && true)
  (spec_InChanges_A D
   (spec_InChanges_1 s0 e1 e2 (e7 ++ [[Leaf.int Go.IntKind.i64 21, Leaf.str s0, Leaf.str sx9_0]]) i8)))
 (spec_InChanges_A D (spec_InChanges_1 s0 e1 e2 e7 i8)) := by
  refine (nameF_eq (J := spec_InChanges_A D) (fun _ _ => rfl) [[1, 1, 0, 1, 0], [1, 1, 0, 1, 0, 0, 1, 1], [1, 1, 0, 1, 0, 0, 1, 0, 0, 1, 1, 1, 1, 1], [1, 1, 0, 1, 0, 0, 1, 0, 0, 1, 1, 1, 1, 0, 1, 0, 1, 1], [1, 1, 0, 1, 0, 0, 1, 0, 0, 1, 1, 1, 1, 1, 0, 1], [1, 1, 0, 1, 0, 0, 1, 0, 0, 1, 1, 1, 1, 1, 0, 1, 1, 1], [1, 1, 1, 0, 1, 0], [1, 1, 1, 0, 1, 0, 0, 1, 1], [1, 1, 1, 0, 1, 0, 0, 1, 0, 0, 1, 1, 1], [1, 1, 1, 0, 1, 0, 0, 1, 0, 0, 1, 1, 0, 1]] (spec_InChanges_8 s0 e1 e2 e7 i8 b81 sx9_0 sx9_1 sx9_2 sx9_3 bx9_4 ix9_5 sx9_6 ex9_7 ex9_8 ex9_9)).trans ?_
  generalize spec_InChanges_A D = J
  revert J
  refine id ?_
  intro J
  kernel_rfl
theorem spec_InChanges_9_eq (D : Oracle false) (s0 : ByteArray) (e1 : List (List (Leaf false))) (e2 : List (List (Leaf false))) (e7 : List (List (Leaf false))) (i13 : Int) (i14 : Int) : spec_InChanges_A D (spec_InChanges_9 s0 e1 e2 e7 i13 i14) =
  guarded (decide (0 ≤ i13) && decide (i13 < (↑e2.length : Int)) && sized 10 e2)
 (atK (e2.getD i13.toNat []) 0 fun (l : Leaf false) =>
  strK l fun (s : ByteArray) =>
   guarded (decide ((e7.length + 1) * 40 ≤ maxBytes) && true)
    (spec_InChanges_A D
     (spec_InChanges_6 s0 e1 e2 (e7 ++ [[Leaf.int Go.IntKind.i64 i14, Leaf.str s0, Leaf.str s]]) i13))) := by
  refine (nameF_eq (J := spec_InChanges_A D) (fun _ _ => rfl) [[1, 1, 0, 1, 0], [1, 1, 0, 1, 0, 0, 1, 1], [1, 1, 0, 1, 0, 0, 1, 0, 0, 1, 1, 1, 1, 1], [1, 1, 0, 1, 0, 0, 1, 0, 0, 1, 1, 1, 1, 0, 1, 0, 1, 1], [1, 1, 0, 1, 0, 0, 1, 0, 0, 1, 1, 1, 1, 1, 0, 1], [1, 1, 0, 1, 0, 0, 1, 0, 0, 1, 1, 1, 1, 1, 0, 1, 1, 1], [1, 1, 1, 0, 1, 0], [1, 1, 1, 0, 1, 0, 0, 1, 1], [1, 1, 1, 0, 1, 0, 0, 1, 0, 0, 1, 1, 1], [1, 1, 1, 0, 1, 0, 0, 1, 0, 0, 1, 1, 0, 1]] (spec_InChanges_9 s0 e1 e2 e7 i13 i14)).trans ?_
  generalize spec_InChanges_A D = J
  revert J
  refine id ?_
  intro J
  kernel_rfl
theorem run_spec_InChanges (D : Oracle false) (s0 : ByteArray) (e1 : List (List (Leaf false))) (e2 : List (List (Leaf false))) : run2V Go.Proofs.Try.prog D Go.Vs.Hs limR F.spec_InChanges [SV.leaf (Leaf.str s0), SV.leaf (Leaf.sl fP e1), SV.leaf (Leaf.sl fP e2)] [] =
  spec_InChanges_A D (spec_InChanges_0 s0 e1 e2 [] 0) := by
  refine (run_names (J := spec_InChanges_A D) (by kernel_rfl) (fun _ _ => rfl) [[1, 1, 0, 1, 0], [1, 1, 0, 1, 0, 0, 1, 1], [1, 1, 0, 1, 0, 0, 1, 0, 0, 1, 1, 1, 1, 1], [1, 1, 0, 1, 0, 0, 1, 0, 0, 1, 1, 1, 1, 0, 1, 0, 1, 1], [1, 1, 0, 1, 0, 0, 1, 0, 0, 1, 1, 1, 1, 1, 0, 1], [1, 1, 0, 1, 0, 0, 1, 0, 0, 1, 1, 1, 1, 1, 0, 1, 1, 1], [1, 1, 1, 0, 1, 0], [1, 1, 1, 0, 1, 0, 0, 1, 1], [1, 1, 1, 0, 1, 0, 0, 1, 0, 0, 1, 1, 1], [1, 1, 1, 0, 1, 0, 0, 1, 0, 0, 1, 1, 0, 1]]).trans ?_
  generalize spec_InChanges_A D = J
  revert J
  refine id ?_
  intro J
  kernel_rfl
-- FN 33 impl_InAt
noncomputable def impl_InAt_A (D : Oracle false) (x : List Nat × St false) : Option (SV false × List (List (SV false))) := atF Go.Proofs.Try.prog D Go.Vs.Hs F.impl_InAt x.1 0 x.2
theorem run_impl_InAt (D : Oracle false) (e0 : List (List (Leaf false))) (s1 : ByteArray) : run2V Go.Proofs.Try.prog D Go.Vs.Hs limR F.impl_InAt [SV.leaf (Leaf.sl fP e0), SV.leaf (Leaf.str s1)] [] =
  (D F.slices_IndexFunc_S_impl_InDef_impl_InDef [SV.leaf (Leaf.sl fP e0), SV.fn F.impl_InAt_1 [SV.ptr 0 0]]
   [[SV.leaf (Leaf.str s1)]]).bind
 fun (r : SV false × List (List (SV false))) =>
 headB r.snd fun (d : List (SV false)) (r_1 : List (List (SV false))) =>
  headK d fun (d : SV false) (r_2 : List (SV false)) =>
   svLeafK d fun (l : Leaf false) =>
    strK l fun (s : ByteArray) =>
     lastK r_2
      (lastB r_1
       (svLeafK r.fst fun (l : Leaf false) =>
        intK Go.IntKind.i64 l fun (n : Int) => some (SV.leaf (Leaf.int Go.IntKind.i64 n), []))) := by
  refine (run_names (J := impl_InAt_A D) (by kernel_rfl) (fun _ _ => rfl) []).trans ?_
  generalize impl_InAt_A D = J
  revert J
  refine id ?_
  intro J
  kernel_rfl
-- FN 35 impl_Compatible
noncomputable def impl_Compatible_A (D : Oracle false) (x : List Nat × St false) : Option (SV false × List (List (SV false))) := atF Go.Proofs.Try.prog D Go.Vs.Hs F.impl_Compatible x.1 0 x.2
def impl_Compatible_0 (b47 : Bool) (sx2_0 : ByteArray) (sx2_1 : ByteArray) (sx3_0 : ByteArray) (sx3_1 : ByteArray) (sx5_0 : ByteArray) (sx5_1 : ByteArray) (sx7_0 : ByteArray) (sx7_1 : ByteArray) : List Nat × St false := ([1, 1, 1, 1, 1, 1, 0, 1], St.mk
 [SV.any, SV.any, SV.ptr 2 0, SV.ptr 3 0, SV.any, SV.ptr 5 0, SV.any, SV.ptr 7 0, SV.any, SV.any, SV.any, SV.any,
  SV.any, SV.any, SV.any, SV.any, SV.any, SV.any, SV.any, SV.any, SV.any, SV.any, SV.any, SV.any, SV.any, SV.any,
  SV.any, SV.any, SV.any, SV.any, SV.any, SV.any, SV.any, SV.any, SV.any, SV.any, SV.any, SV.any, SV.any, SV.any,
  SV.any, SV.any, SV.any, SV.any, SV.any, SV.any, SV.any, SV.leaf (Leaf.bool b47), SV.any, SV.any, SV.any, SV.any,
  SV.any, SV.any, SV.any, SV.any, SV.any, SV.any, SV.any, SV.any, SV.any, SV.any, SV.any, SV.any, SV.any, SV.any]
 [none, none, some [SV.leaf (Leaf.str sx2_0), SV.leaf (Leaf.str sx2_1)],
  some [SV.leaf (Leaf.str sx3_0), SV.leaf (Leaf.str sx3_1)], none,
  some [SV.leaf (Leaf.str sx5_0), SV.leaf (Leaf.str sx5_1)], none,
  some [SV.leaf (Leaf.str sx7_0), SV.leaf (Leaf.str sx7_1)], none, none, none, none, none, none, none, none, none, none,
  none, none, none, none, none, none, none, none, none, none, none, none, none, none, none, none, none, none, none,
  none, none, none, none, none, none, none, none, none, none, none, none, none, none, none, none, none, none, none,
  none, none, none, none, none, none, none, none, none, none])
theorem impl_Compatible_0_eq (D : Oracle false) (b47 : Bool) (sx2_0 : ByteArray) (sx2_1 : ByteArray) (sx3_0 : ByteArray) (sx3_1 : ByteArray) (sx5_0 : ByteArray) (sx5_1 : ByteArray) (sx7_0 : ByteArray) (sx7_1 : ByteArray) : impl_Compatible_A D (impl_Compatible_0 b47 sx2_0 sx2_1 sx3_0 sx3_1 sx5_0 sx5_1 sx7_0 sx7_1) =
  branch b47
 ((D F.impl_Compatible [SV.agg [Leaf.str sx5_0, Leaf.str sx5_1], SV.agg [Leaf.str sx7_0, Leaf.str sx7_1]] []).bind
  fun (r : SV false × List (List (SV false))) =>
  svLeafK r.fst fun (l : Leaf false) => boolK l fun (b : Bool) => some (SV.leaf (Leaf.bool b), []))
 (branch ((sx2_1.toList == (ByteArray.mk #[]).toList) == true)
  (branch ((sx3_1.toList == (ByteArray.mk #[]).toList) == true)
   (some (SV.leaf (Leaf.bool (sx2_0.toList == sx3_0.toList)), [])) (some (SV.leaf (Leaf.bool false), [])))
  (some (SV.leaf (Leaf.bool false), []))) := by
  refine (nameF_eq (J := impl_Compatible_A D) (fun _ _ => rfl) [[1, 1, 1, 1, 1, 1, 0, 1]] (impl_Compatible_0 b47 sx2_0 sx2_1 sx3_0 sx3_1 sx5_0 sx5_1 sx7_0 sx7_1)).trans ?_
  generalize impl_Compatible_A D = J
  revert J
  refine id ?_
  intro J
  kernel_rfl
theorem run_impl_Compatible (D : Oracle false) (s0_0 : ByteArray) (s0_1 : ByteArray) (s1_0 : ByteArray) (s1_1 : ByteArray) : run2V Go.Proofs.Try.prog D Go.Vs.Hs limR F.impl_Compatible [SV.agg [Leaf.str s0_0, Leaf.str s0_1], SV.agg [Leaf.str s1_0, Leaf.str s1_1]] [] =
  (D F.impl_unwrapped [SV.agg [Leaf.str s0_0, Leaf.str s0_1], SV.leaf (Leaf.str (ByteArray.mk #[33]))] []).bind
 fun (r : SV false × List (List (SV false))) =>
 svTupK r.fst fun (vs : List (SV false)) =>
  headK vs fun (v : SV false) (r : List (SV false)) =>
   svAggK v fun (cs : List (Leaf false)) =>
    guarded (cs.length == 2)
     (atK cs 0 fun (l : Leaf false) =>
      strK l fun (s : ByteArray) =>
       atK cs 1 fun (l : Leaf false) =>
        strK l fun (s_1 : ByteArray) =>
         headK r fun (v : SV false) (r : List (SV false)) =>
          svLeafK v fun (l : Leaf false) =>
           boolK l fun (b : Bool) =>
            lastK r
             ((D F.impl_unwrapped [SV.agg [Leaf.str s1_0, Leaf.str s1_1], SV.leaf (Leaf.str (ByteArray.mk #[33]))]
                []).bind
              fun (r : SV false × List (List (SV false))) =>
              svTupK r.fst fun (vs : List (SV false)) =>
               headK vs fun (v : SV false) (r : List (SV false)) =>
                svAggK v fun (cs : List (Leaf false)) =>
                 guarded (cs.length == 2)
                  (atK cs 0 fun (l : Leaf false) =>
                   strK l fun (s_2 : ByteArray) =>
                    atK cs 1 fun (l : Leaf false) =>
                     strK l fun (s_3 : ByteArray) =>
                      headK r fun (v : SV false) (r : List (SV false)) =>
                       svLeafK v fun (l : Leaf false) =>
                        boolK l fun (b_1 : Bool) =>
                         lastK r
                          (branch b_1
                           (branch (b == true)
                            ((D F.impl_Compatible
                               [SV.agg [Leaf.str s, Leaf.str s_1], SV.agg [Leaf.str s_2, Leaf.str s_3]] []).bind
                             fun (r : SV false × List (List (SV false))) =>
                             svLeafK r.fst fun (l : Leaf false) =>
                              boolK l fun (b : Bool) => some (SV.leaf (Leaf.bool b), []))
                            (some (SV.leaf (Leaf.bool false), [])))
                           (branch b
                            ((D F.impl_Compatible
                               [SV.agg [Leaf.str s, Leaf.str s_1], SV.agg [Leaf.str s1_0, Leaf.str s1_1]] []).bind
                             fun (r : SV false × List (List (SV false))) =>
                             svLeafK r.fst fun (l : Leaf false) =>
                              boolK l fun (b : Bool) => some (SV.leaf (Leaf.bool b), []))
                            ((D F.impl_unwrapped
                               [SV.agg [Leaf.str s0_0, Leaf.str s0_1], SV.leaf (Leaf.str (ByteArray.mk #[93]))] []).bind
                             fun (r : SV false × List (List (SV false))) =>
                             svTupK r.fst fun (vs : List (SV false)) =>
                              headK vs fun (v : SV false) (r : List (SV false)) =>
                               svAggK v fun (cs : List (Leaf false)) =>
                                guarded (cs.length == 2)
                                 (atK cs 0 fun (l : Leaf false) =>
                                  strK l fun (s : ByteArray) =>
                                   atK cs 1 fun (l : Leaf false) =>
                                    strK l fun (s_4 : ByteArray) =>
                                     headK r fun (v : SV false) (r : List (SV false)) =>
                                      svLeafK v fun (l : Leaf false) =>
                                       boolK l fun (b : Bool) =>
                                        lastK r
                                         ((D F.impl_unwrapped
                                            [SV.agg [Leaf.str s1_0, Leaf.str s1_1],
                                             SV.leaf (Leaf.str (ByteArray.mk #[93]))]
                                            []).bind
                                          fun (r : SV false × List (List (SV false))) =>
                                          svTupK r.fst fun (vs : List (SV false)) =>
                                           headK vs fun (v : SV false) (r : List (SV false)) =>
                                            svAggK v fun (cs : List (Leaf false)) =>
                                             guarded (cs.length == 2)
                                              (atK cs 0 fun (l : Leaf false) =>
                                               strK l fun (s_5 : ByteArray) =>
                                                atK cs 1 fun (l : Leaf false) =>
                                                 strK l fun (s_6 : ByteArray) =>
                                                  headK r fun (v : SV false) (r : List (SV false)) =>
                                                   svLeafK v fun (l : Leaf false) =>
                                                    boolK l fun (b_2 : Bool) =>
                                                     lastK r
                                                      (branch (b == true)
                                                       (impl_Compatible_A D
                                                        (impl_Compatible_0 b_2 s0_0 s0_1 s1_0 s1_1 s s_4 s_5 s_6))
                                                       (impl_Compatible_A D
                                                        (impl_Compatible_0 false s0_0 s0_1 s1_0 s1_1 s s_4 s_5
                                                         s_6)))))))))))) := by
  refine (run_names (J := impl_Compatible_A D) (by kernel_rfl) (fun _ _ => rfl) [[1, 1, 1, 1, 1, 1, 0, 1]]).trans ?_
  generalize impl_Compatible_A D = J
  revert J
  refine id ?_
  intro J
  kernel_rfl
-- FN 36 impl_Needed
noncomputable def impl_Needed_A (D : Oracle false) (x : List Nat × St false) : Option (SV false × List (List (SV false))) := atF Go.Proofs.Try.prog D Go.Vs.Hs F.impl_Needed x.1 0 x.2
theorem run_impl_Needed (D : Oracle false) (s0_0 : ByteArray) (s0_1 : ByteArray) : run2V Go.Proofs.Try.prog D Go.Vs.Hs limR F.impl_Needed [SV.agg [Leaf.str s0_0, Leaf.str s0_1]] [] =
  (D F.strings_HasSuffix [SV.leaf (Leaf.str s0_1), SV.leaf (Leaf.str (ByteArray.mk #[33]))] []).bind
 fun (r : SV false × List (List (SV false))) =>
 svLeafK r.fst fun (l : Leaf false) => boolK l fun (b : Bool) => some (SV.leaf (Leaf.bool b), []) := by
  refine (run_names (J := impl_Needed_A D) (by kernel_rfl) (fun _ _ => rfl) []).trans ?_
  generalize impl_Needed_A D = J
  revert J
  refine id ?_
  intro J
  kernel_rfl
-- FN 37 impl_SameValue
noncomputable def impl_SameValue_A (D : Oracle false) (x : List Nat × St false) : Option (SV false × List (List (SV false))) := atF Go.Proofs.Try.prog D Go.Vs.Hs F.impl_SameValue x.1 0 x.2
theorem run_impl_SameValue (D : Oracle false) (i0_0 : Int) (s0_1 : ByteArray) (e0_2 : List (List (Leaf false))) (e0_3 : List (List (Leaf false))) (i1_0 : Int) (s1_1 : ByteArray) (e1_2 : List (List (Leaf false))) (e1_3 : List (List (Leaf false))) : run2V Go.Proofs.Try.prog D Go.Vs.Hs limR F.impl_SameValue [SV.agg [Leaf.int Go.IntKind.i64 i0_0, Leaf.str s0_1, Leaf.sl fP e0_2, Leaf.sl fP e0_3],
 SV.agg [Leaf.int Go.IntKind.i64 i1_0, Leaf.str s1_1, Leaf.sl fP e1_2, Leaf.sl fP e1_3]] [] =
  branch ((i0_0 == i1_0) == true)
 (branch ((s0_1.toList == s1_1.toList) == true)
  ((D F.slices_Equal_S_string_string [SV.leaf (Leaf.sl fP e0_3), SV.leaf (Leaf.sl fP e1_3)] []).bind
   fun (r : SV false × List (List (SV false))) =>
   svLeafK r.fst fun (l : Leaf false) =>
    boolK l fun (b : Bool) =>
     branch (b == true)
      ((D F.slices_EqualFunc_S_impl_Value_S_impl_Value_impl_Value_impl_Value
         [SV.leaf (Leaf.sl fP e0_2), SV.leaf (Leaf.sl fP e1_2), SV.fn F.impl_SameValue []] []).bind
       fun (r : SV false × List (List (SV false))) =>
       lastB r.snd (svLeafK r.fst fun (l : Leaf false) => boolK l fun (b : Bool) => some (SV.leaf (Leaf.bool b), [])))
      (some (SV.leaf (Leaf.bool false), [])))
  (some (SV.leaf (Leaf.bool false), [])))
 (some (SV.leaf (Leaf.bool false), [])) := by
  refine (run_names (J := impl_SameValue_A D) (by kernel_rfl) (fun _ _ => rfl) []).trans ?_
  generalize impl_SameValue_A D = J
  revert J
  refine id ?_
  intro J
  kernel_rfl
-- FN 9 laws_eqChangeS
noncomputable def laws_eqChangeS_A (D : Oracle false) (x : List Nat × St false) : Option (SV false × List (List (SV false))) := atF Go.Proofs.Try.prog D Go.Vs.Hs F.laws_eqChangeS x.1 0 x.2
def laws_eqChangeS_0 (e0 : List (List (Leaf false))) (e1 : List (List (Leaf false))) (i5 : Int) : List Nat × St false := ([1, 1, 0, 1, 0], St.mk
 [SV.leaf (Leaf.sl fP e0), SV.leaf (Leaf.sl fP e1), SV.any, SV.any, SV.any, SV.leaf (Leaf.int Go.IntKind.i64 i5),
  SV.any, SV.any, SV.any, SV.any, SV.any, SV.any, SV.any, SV.any, SV.any, SV.any, SV.any, SV.any, SV.any, SV.any,
  SV.any, SV.any, SV.any, SV.any, SV.any, SV.any, SV.any]
 [none, none, none, none, none, none, none, none, none, none, none, none, none, none, none, none, none, none, none,
  none, none, none, none, none, none, none, none])
theorem laws_eqChangeS_0_eq (D : Oracle false) (e0 : List (List (Leaf false))) (e1 : List (List (Leaf false))) (i5 : Int) : laws_eqChangeS_A D (laws_eqChangeS_0 e0 e1 i5) =
  branch (decide (i5 < (↑e0.length : Int)))
 (guarded (decide (0 ≤ i5) && decide (i5 < (↑e0.length : Int)) && sized 3 e0)
  (bindE (e0.getD i5.toNat []) fun (e : List (Leaf false)) =>
   atK e 0 fun (l : Leaf false) =>
    intK Go.IntKind.i64 l fun (n : Int) =>
     atK e 1 fun (l : Leaf false) =>
      strK l fun (s : ByteArray) =>
       atK e 2 fun (l : Leaf false) =>
        strK l fun (s_1 : ByteArray) =>
         guarded (decide (0 ≤ i5) && decide (i5 < (↑e1.length : Int)) && sized 3 e1)
          (bindE (e1.getD i5.toNat []) fun (e : List (Leaf false)) =>
           atK e 0 fun (l : Leaf false) =>
            intK Go.IntKind.i64 l fun (n_1 : Int) =>
             atK e 1 fun (l : Leaf false) =>
              strK l fun (s_2 : ByteArray) =>
               atK e 2 fun (l : Leaf false) =>
                strK l fun (s_3 : ByteArray) =>
                 (D F.laws_eqChange
                    [SV.agg [Leaf.int Go.IntKind.i64 n, Leaf.str s, Leaf.str s_1],
                     SV.agg [Leaf.int Go.IntKind.i64 n_1, Leaf.str s_2, Leaf.str s_3]]
                    []).bind
                  fun (r : SV false × List (List (SV false))) =>
                  svLeafK r.fst fun (l : Leaf false) =>
                   boolK l fun (b : Bool) =>
                    branch (!b) (some (SV.leaf (Leaf.bool false), []))
                     (laws_eqChangeS_A D (laws_eqChangeS_0 e0 e1 (Go.IntKind.i64.wrap (i5 + 1)))))))
 (some (SV.leaf (Leaf.bool true), [])) := by
  refine (nameF_eq (J := laws_eqChangeS_A D) (fun _ _ => rfl) [[1, 1, 0, 1, 0]] (laws_eqChangeS_0 e0 e1 i5)).trans ?_
  generalize laws_eqChangeS_A D = J
  revert J
  refine id ?_
  intro J
  kernel_rfl
theorem run_laws_eqChangeS (D : Oracle false) (e0 : List (List (Leaf false))) (e1 : List (List (Leaf false))) : run2V Go.Proofs.Try.prog D Go.Vs.Hs limR F.laws_eqChangeS [SV.leaf (Leaf.sl fP e0), SV.leaf (Leaf.sl fP e1)] [] =
  branch ((↑e0.length : Int) != (↑e1.length : Int)) (some (SV.leaf (Leaf.bool false), []))
 (laws_eqChangeS_A D (laws_eqChangeS_0 e0 e1 0)) := by
  refine (run_names (J := laws_eqChangeS_A D) (by kernel_rfl) (fun _ _ => rfl) [[1, 1, 0, 1, 0]]).trans ?_
  generalize laws_eqChangeS_A D = J
  revert J
  refine id ?_
  intro J
  kernel_rfl
-- FN 16 laws_eqInDefS
noncomputable def laws_eqInDefS_A (D : Oracle false) (x : List Nat × St false) : Option (SV false × List (List (SV false))) := atF Go.Proofs.Try.prog D Go.Vs.Hs F.laws_eqInDefS x.1 0 x.2
def laws_eqInDefS_0 (e0 : List (List (Leaf false))) (e1 : List (List (Leaf false))) (i5 : Int) : List Nat × St false := ([1, 1, 0, 1, 0], St.mk
 [SV.leaf (Leaf.sl fP e0), SV.leaf (Leaf.sl fP e1), SV.any, SV.any, SV.any, SV.leaf (Leaf.int Go.IntKind.i64 i5),
  SV.any, SV.any, SV.any, SV.any, SV.any, SV.any, SV.any, SV.any, SV.any, SV.any, SV.any, SV.any, SV.any, SV.any,
  SV.any, SV.any, SV.any, SV.any, SV.any, SV.any, SV.any]
 [none, none, none, none, none, none, none, none, none, none, none, none, none, none, none, none, none, none, none,
  none, none, none, none, none, none, none, none])
theorem laws_eqInDefS_0_eq (D : Oracle false) (e0 : List (List (Leaf false))) (e1 : List (List (Leaf false))) (i5 : Int) : laws_eqInDefS_A D (laws_eqInDefS_0 e0 e1 i5) =
  branch (decide (i5 < (↑e0.length : Int)))
 (guarded (decide (0 ≤ i5) && decide (i5 < (↑e0.length : Int)) && sized 10 e0)
  (bindE (e0.getD i5.toNat []) fun (e : List (Leaf false)) =>
   atK e 0 fun (l : Leaf false) =>
    strK l fun (s : ByteArray) =>
     atK e 1 fun (l : Leaf false) =>
      strK l fun (s_1 : ByteArray) =>
       atK e 2 fun (l : Leaf false) =>
        strK l fun (s_2 : ByteArray) =>
         atK e 3 fun (l : Leaf false) =>
          strK l fun (s_3 : ByteArray) =>
           atK e 4 fun (l : Leaf false) =>
            boolK l fun (b : Bool) =>
             atK e 5 fun (l : Leaf false) =>
              intK Go.IntKind.i64 l fun (n : Int) =>
               atK e 6 fun (l : Leaf false) =>
                strK l fun (s_4 : ByteArray) =>
                 atK e 7 fun (l : Leaf false) =>
                  slK l fun (c : Fl false) (es : List (List (Leaf false))) =>
                   atK e 8 fun (l : Leaf false) =>
                    slK l fun (c : Fl false) (es_1 : List (List (Leaf false))) =>
                     atK e 9 fun (l : Leaf false) =>
                      slK l fun (c : Fl false) (es_2 : List (List (Leaf false))) =>
                       guarded (decide (0 ≤ i5) && decide (i5 < (↑e1.length : Int)) && sized 10 e1)
                        (bindE (e1.getD i5.toNat []) fun (e : List (Leaf false)) =>
                         atK e 0 fun (l : Leaf false) =>
                          strK l fun (s_5 : ByteArray) =>
                           atK e 1 fun (l : Leaf false) =>
                            strK l fun (s_6 : ByteArray) =>
                             atK e 2 fun (l : Leaf false) =>
                              strK l fun (s_7 : ByteArray) =>
                               atK e 3 fun (l : Leaf false) =>
                                strK l fun (s_8 : ByteArray) =>
                                 atK e 4 fun (l : Leaf false) =>
                                  boolK l fun (b_1 : Bool) =>
                                   atK e 5 fun (l : Leaf false) =>
                                    intK Go.IntKind.i64 l fun (n_1 : Int) =>
                                     atK e 6 fun (l : Leaf false) =>
                                      strK l fun (s_9 : ByteArray) =>
                                       atK e 7 fun (l : Leaf false) =>
                                        slK l fun (c : Fl false) (es_3 : List (List (Leaf false))) =>
                                         atK e 8 fun (l : Leaf false) =>
                                          slK l fun (c : Fl false) (es_4 : List (List (Leaf false))) =>
                                           atK e 9 fun (l : Leaf false) =>
                                            slK l fun (c : Fl false) (es_5 : List (List (Leaf false))) =>
                                             (D F.laws_eqInDef
                                                [SV.agg
                                                  [Leaf.str s, Leaf.str s_1, Leaf.str s_2, Leaf.str s_3, Leaf.bool b,
                                                   Leaf.int Go.IntKind.i64 n, Leaf.str s_4, Leaf.sl fP es,
                                                   Leaf.sl fP es_1, Leaf.sl fP es_2],
                                                 SV.agg
                                                  [Leaf.str s_5, Leaf.str s_6, Leaf.str s_7, Leaf.str s_8,
                                                   Leaf.bool b_1, Leaf.int Go.IntKind.i64 n_1, Leaf.str s_9,
                                                   Leaf.sl fP es_3, Leaf.sl fP es_4, Leaf.sl fP es_5]]
                                                []).bind
                                              fun (r : SV false × List (List (SV false))) =>
                                              svLeafK r.fst fun (l : Leaf false) =>
                                               boolK l fun (b : Bool) =>
                                                branch (!b) (some (SV.leaf (Leaf.bool false), []))
                                                 (laws_eqInDefS_A D
                                                  (laws_eqInDefS_0 e0 e1 (Go.IntKind.i64.wrap (i5 + 1)))))))
 (some (SV.leaf (Leaf.bool true), [])) := by
  refine (nameF_eq (J := laws_eqInDefS_A D) (fun _ _ => rfl) [[1, 1, 0, 1, 0]] (laws_eqInDefS_0 e0 e1 i5)).trans ?_
  generalize laws_eqInDefS_A D = J
  revert J
  refine id ?_
  intro J
  kernel_rfl
theorem run_laws_eqInDefS (D : Oracle false) (e0 : List (List (Leaf false))) (e1 : List (List (Leaf false))) : run2V Go.Proofs.Try.prog D Go.Vs.Hs limR F.laws_eqInDefS [SV.leaf (Leaf.sl fP e0), SV.leaf (Leaf.sl fP e1)] [] =
  branch ((↑e0.length : Int) != (↑e1.length : Int)) (some (SV.leaf (Leaf.bool false), []))
 (laws_eqInDefS_A D (laws_eqInDefS_0 e0 e1 0)) := by
  refine (run_names (J := laws_eqInDefS_A D) (by kernel_rfl) (fun _ _ => rfl) [[1, 1, 0, 1, 0]]).trans ?_
  generalize laws_eqInDefS_A D = J
  revert J
  refine id ?_
  intro J
  kernel_rfl
-- FN 10 laws_markChangeS_r0
noncomputable def laws_markChangeS_r0_A (D : Oracle false) (x : List Nat × St false) : Option (SV false × List (List (SV false))) := atF Go.Proofs.Try.prog D Go.Vs.Hs F.laws_markChangeS x.1 1 x.2
def laws_markChangeS_r0_0 (n0 : Nat) (i1 : Int) (i5 : Int) (vx36 : List (SV false)) : List Nat × St false := ([1, 0, 1, 0], St.mk
 [SV.bsl 36 3 0 n0, SV.leaf (Leaf.int Go.IntKind.i64 i1), SV.any, SV.any, SV.any, SV.leaf (Leaf.int Go.IntKind.i64 i5),
  SV.any, SV.any, SV.any, SV.any, SV.any, SV.any, SV.any, SV.any, SV.any, SV.any, SV.any, SV.any, SV.any, SV.any,
  SV.any, SV.any, SV.any, SV.any, SV.any, SV.any, SV.any, SV.any, SV.any, SV.any, SV.any, SV.any, SV.any, SV.any,
  SV.any, SV.any]
 [none, none, none, none, none, none, none, none, none, none, none, none, none, none, none, none, none, none, none,
  none, none, none, none, none, none, none, none, none, none, none, none, none, none, none, none, none, some vx36])
theorem laws_markChangeS_r0_0_eq (D : Oracle false) (n0 : Nat) (i1 : Int) (i5 : Int) (vx36 : List (SV false)) : laws_markChangeS_r0_A D (laws_markChangeS_r0_0 n0 i1 i5 vx36) =
  branch (decide (i5 < (↑n0 : Int)))
 (guarded (decide (0 ≤ i5) && decide (i5 < (↑n0 : Int)))
  (guarded
   (decide
    ((0 + i5.toNat) * 3 +
       #[Go.Field.mk "Code" 3 0 false "" "" 0, Go.Field.mk "Name" 9 1 false "" "" 8,
          Go.Field.mk "Part" 9 2 false "" "" 24][0].offset +
      1 ≤
     vx36.length))
   ((D F.laws_markText [SV.leaf (Leaf.int Go.IntKind.i64 (Go.IntKind.i64.wrap (i1 + 1)))] []).bind
    fun (r : SV false × List (List (SV false))) =>
    svLeafK r.fst fun (l : Leaf false) =>
     strK l fun (s : ByteArray) =>
      guarded (decide (0 ≤ i5) && decide (i5 < (↑n0 : Int)))
       (guarded
        (decide
         ((0 + i5.toNat) * 3 +
            #[Go.Field.mk "Code" 3 0 false "" "" 0, Go.Field.mk "Name" 9 1 false "" "" 8,
               Go.Field.mk "Part" 9 2 false "" "" 24][1].offset +
           1 ≤
          (putAt vx36
            ((0 + i5.toNat) * 3 +
             #[Go.Field.mk "Code" 3 0 false "" "" 0, Go.Field.mk "Name" 9 1 false "" "" 8,
                Go.Field.mk "Part" 9 2 false "" "" 24][0].offset)
            [SV.leaf (Leaf.int Go.IntKind.i64 i1)]).length))
        ((D F.laws_markText [SV.leaf (Leaf.int Go.IntKind.i64 (Go.IntKind.i64.wrap (Go.IntKind.i64.wrap (i1 + 1) + 1)))]
           []).bind
         fun (r : SV false × List (List (SV false))) =>
         svLeafK r.fst fun (l : Leaf false) =>
          strK l fun (s_1 : ByteArray) =>
           guarded (decide (0 ≤ i5) && decide (i5 < (↑n0 : Int)))
            (guarded
             (decide
              ((0 + i5.toNat) * 3 +
                 #[Go.Field.mk "Code" 3 0 false "" "" 0, Go.Field.mk "Name" 9 1 false "" "" 8,
                    Go.Field.mk "Part" 9 2 false "" "" 24][2].offset +
                1 ≤
               (putAt
                 (putAt vx36
                  ((0 + i5.toNat) * 3 +
                   #[Go.Field.mk "Code" 3 0 false "" "" 0, Go.Field.mk "Name" 9 1 false "" "" 8,
                      Go.Field.mk "Part" 9 2 false "" "" 24][0].offset)
                  [SV.leaf (Leaf.int Go.IntKind.i64 i1)])
                 ((0 + i5.toNat) * 3 +
                  #[Go.Field.mk "Code" 3 0 false "" "" 0, Go.Field.mk "Name" 9 1 false "" "" 8,
                     Go.Field.mk "Part" 9 2 false "" "" 24][1].offset)
                 [SV.leaf (Leaf.str s)]).length))
             (laws_markChangeS_r0_A D
              (laws_markChangeS_r0_0 n0
               (Go.IntKind.i64.wrap (Go.IntKind.i64.wrap (Go.IntKind.i64.wrap (i1 + 1) + 1) + 1))
               (Go.IntKind.i64.wrap (i5 + 1))
               (putAt
                (putAt
                 (putAt vx36
                  ((0 + i5.toNat) * 3 +
                   #[Go.Field.mk "Code" 3 0 false "" "" 0, Go.Field.mk "Name" 9 1 false "" "" 8,
                      Go.Field.mk "Part" 9 2 false "" "" 24][0].offset)
                  [SV.leaf (Leaf.int Go.IntKind.i64 i1)])
                 ((0 + i5.toNat) * 3 +
                  #[Go.Field.mk "Code" 3 0 false "" "" 0, Go.Field.mk "Name" 9 1 false "" "" 8,
                     Go.Field.mk "Part" 9 2 false "" "" 24][1].offset)
                 [SV.leaf (Leaf.str s)])
                ((0 + i5.toNat) * 3 +
                 #[Go.Field.mk "Code" 3 0 false "" "" 0, Go.Field.mk "Name" 9 1 false "" "" 8,
                    Go.Field.mk "Part" 9 2 false "" "" 24][2].offset)
                [SV.leaf (Leaf.str s_1)])))))))))
 (guarded ([vx36].all fun (x : List (SV false)) => x.all SV.flat) (some (SV.leaf (Leaf.int Go.IntKind.i64 i1), [vx36]))) := by
  refine (nameF_eq (J := laws_markChangeS_r0_A D) (fun _ _ => rfl) [[1, 0, 1, 0]] (laws_markChangeS_r0_0 n0 i1 i5 vx36)).trans ?_
  generalize laws_markChangeS_r0_A D = J
  revert J
  refine id ?_
  intro J
  kernel_rfl
theorem run_laws_markChangeS_r0 (D : Oracle false) (n0 : Nat) (i1 : Int) (vb0 : List (SV false)) : run2V Go.Proofs.Try.prog D Go.Vs.Hs limR F.laws_markChangeS [SV.bsl 0 3 0 n0, SV.leaf (Leaf.int Go.IntKind.i64 i1)] [vb0] =
  laws_markChangeS_r0_A D (laws_markChangeS_r0_0 n0 i1 0 vb0) := by
  refine (run_names (J := laws_markChangeS_r0_A D) (by kernel_rfl) (fun _ _ => rfl) [[1, 0, 1, 0]]).trans ?_
  generalize laws_markChangeS_r0_A D = J
  revert J
  refine id ?_
  intro J
  kernel_rfl
-- FN 10 laws_markChangeS
noncomputable def laws_markChangeS_A (D : Oracle false) (x : List Nat × St false) : Option (SV false × List (List (SV false))) := atF Go.Proofs.Try.prog D Go.Vs.Hs F.laws_markChangeS x.1 0 x.2
def laws_markChangeS_0 (e0 : List (List (Leaf false))) (i1 : Int) : List Nat × St false := ([1, 0, 1, 0], St.mk
 [SV.leaf (Leaf.sl fP e0), SV.leaf (Leaf.int Go.IntKind.i64 i1), SV.any, SV.any, SV.any,
  SV.leaf (Leaf.int Go.IntKind.i64 0), SV.any, SV.any, SV.any, SV.any, SV.any, SV.any, SV.any, SV.any, SV.any, SV.any,
  SV.any, SV.any, SV.any, SV.any, SV.any, SV.any, SV.any, SV.any, SV.any, SV.any, SV.any, SV.any, SV.any, SV.any,
  SV.any, SV.any, SV.any, SV.any, SV.any, SV.any]
 [none, none, none, none, none, none, none, none, none, none, none, none, none, none, none, none, none, none, none,
  none, none, none, none, none, none, none, none, none, none, none, none, none, none, none, none, none])
theorem laws_markChangeS_0_eq (D : Oracle false) (e0 : List (List (Leaf false))) (i1 : Int) : laws_markChangeS_A D (laws_markChangeS_0 e0 i1) =
  branch (decide (0 < (↑e0.length : Int))) (guarded (decide (0 < (↑e0.length : Int)) && sized 3 e0) none)
 (some (SV.leaf (Leaf.int Go.IntKind.i64 i1), [])) := by
  refine (nameF_eq (J := laws_markChangeS_A D) (fun _ _ => rfl) [[1, 0, 1, 0]] (laws_markChangeS_0 e0 i1)).trans ?_
  generalize laws_markChangeS_A D = J
  revert J
  refine id ?_
  intro J
  kernel_rfl
theorem run_laws_markChangeS (D : Oracle false) (e0 : List (List (Leaf false))) (i1 : Int) : run2V Go.Proofs.Try.prog D Go.Vs.Hs limR F.laws_markChangeS [SV.leaf (Leaf.sl fP e0), SV.leaf (Leaf.int Go.IntKind.i64 i1)] [] =
  laws_markChangeS_A D (laws_markChangeS_0 e0 i1) := by
  refine (run_names (J := laws_markChangeS_A D) (by kernel_rfl) (fun _ _ => rfl) [[1, 0, 1, 0]]).trans ?_
  generalize laws_markChangeS_A D = J
  revert J
  refine id ?_
  intro J
  kernel_rfl
-- FN 11 laws_heldChangeS_r0
noncomputable def laws_heldChangeS_r0_A (D : Oracle false) (x : List Nat × St false) : Option (SV false × List (List (SV false))) := atF Go.Proofs.Try.prog D Go.Vs.Hs F.laws_heldChangeS x.1 1 x.2
def laws_heldChangeS_r0_0 (n0 : Nat) (i1 : Int) (i5 : Int) (vx42 : List (SV false)) : List Nat × St false := ([1, 0, 1, 0], St.mk
 [SV.bsl 42 3 0 n0, SV.leaf (Leaf.int Go.IntKind.i64 i1), SV.any, SV.any, SV.any, SV.leaf (Leaf.int Go.IntKind.i64 i5),
  SV.any, SV.any, SV.any, SV.any, SV.any, SV.any, SV.any, SV.any, SV.any, SV.any, SV.any, SV.any, SV.any, SV.any,
  SV.any, SV.any, SV.any, SV.any, SV.any, SV.any, SV.any, SV.any, SV.any, SV.any, SV.any, SV.any, SV.any, SV.any,
  SV.any, SV.any, SV.any, SV.any, SV.any, SV.any, SV.any, SV.any]
 [none, none, none, none, none, none, none, none, none, none, none, none, none, none, none, none, none, none, none,
  none, none, none, none, none, none, none, none, none, none, none, none, none, none, none, none, none, none, none,
  none, none, none, none, some vx42])
theorem laws_heldChangeS_r0_0_eq (D : Oracle false) (n0 : Nat) (i1 : Int) (i5 : Int) (vx42 : List (SV false)) : laws_heldChangeS_r0_A D (laws_heldChangeS_r0_0 n0 i1 i5 vx42) =
  branch (decide (i5 < (↑n0 : Int)))
 (guarded (decide (0 ≤ i5) && decide (i5 < (↑n0 : Int)))
  (atSV vx42
   ((0 + i5.toNat) * 3 +
    #[Go.Field.mk "Code" 3 0 false "" "" 0, Go.Field.mk "Name" 9 1 false "" "" 8,
       Go.Field.mk "Part" 9 2 false "" "" 24][0].offset)
   fun (c : SV false) =>
   svLeafK c.drop fun (l : Leaf false) =>
    intK Go.IntKind.i64 l fun (n : Int) =>
     branch (n != i1)
      (guarded ([vx42].all fun (x : List (SV false)) => x.all SV.flat)
       (some (SV.leaf (Leaf.int Go.IntKind.i64 (-1)), [vx42])))
      (guarded (decide (0 ≤ i5) && decide (i5 < (↑n0 : Int)))
       (atSV vx42
        ((0 + i5.toNat) * 3 +
         #[Go.Field.mk "Code" 3 0 false "" "" 0, Go.Field.mk "Name" 9 1 false "" "" 8,
            Go.Field.mk "Part" 9 2 false "" "" 24][1].offset)
        fun (c : SV false) =>
        svLeafK c.drop fun (l : Leaf false) =>
         strK l fun (s : ByteArray) =>
          (D F.laws_markText [SV.leaf (Leaf.int Go.IntKind.i64 (Go.IntKind.i64.wrap (i1 + 1)))] []).bind
           fun (r : SV false × List (List (SV false))) =>
           svLeafK r.fst fun (l : Leaf false) =>
            strK l fun (s_1 : ByteArray) =>
             branch (!s.toList == s_1.toList)
              (guarded ([vx42].all fun (x : List (SV false)) => x.all SV.flat)
               (some (SV.leaf (Leaf.int Go.IntKind.i64 (-1)), [vx42])))
              (guarded (decide (0 ≤ i5) && decide (i5 < (↑n0 : Int)))
               (atSV vx42
                ((0 + i5.toNat) * 3 +
                 #[Go.Field.mk "Code" 3 0 false "" "" 0, Go.Field.mk "Name" 9 1 false "" "" 8,
                    Go.Field.mk "Part" 9 2 false "" "" 24][2].offset)
                fun (c : SV false) =>
                svLeafK c.drop fun (l : Leaf false) =>
                 strK l fun (s : ByteArray) =>
                  (D F.laws_markText
                     [SV.leaf (Leaf.int Go.IntKind.i64 (Go.IntKind.i64.wrap (Go.IntKind.i64.wrap (i1 + 1) + 1)))]
                     []).bind
                   fun (r : SV false × List (List (SV false))) =>
                   svLeafK r.fst fun (l : Leaf false) =>
                    strK l fun (s_2 : ByteArray) =>
                     branch (!s.toList == s_2.toList)
                      (guarded ([vx42].all fun (x : List (SV false)) => x.all SV.flat)
                       (some (SV.leaf (Leaf.int Go.IntKind.i64 (-1)), [vx42])))
                      (laws_heldChangeS_r0_A D
                       (laws_heldChangeS_r0_0 n0
                        (Go.IntKind.i64.wrap (Go.IntKind.i64.wrap (Go.IntKind.i64.wrap (i1 + 1) + 1) + 1))
                        (Go.IntKind.i64.wrap (i5 + 1)) vx42))))))))
 (guarded ([vx42].all fun (x : List (SV false)) => x.all SV.flat) (some (SV.leaf (Leaf.int Go.IntKind.i64 i1), [vx42]))) := by
  refine (nameF_eq (J := laws_heldChangeS_r0_A D) (fun _ _ => rfl) [[1, 0, 1, 0]] (laws_heldChangeS_r0_0 n0 i1 i5 vx42)).trans ?_
  generalize laws_heldChangeS_r0_A D = J
  revert J
  refine id ?_
  intro J
  kernel_rfl
theorem run_laws_heldChangeS_r0 (D : Oracle false) (n0 : Nat) (i1 : Int) (vb0 : List (SV false)) : run2V Go.Proofs.Try.prog D Go.Vs.Hs limR F.laws_heldChangeS [SV.bsl 0 3 0 n0, SV.leaf (Leaf.int Go.IntKind.i64 i1)] [vb0] =
  laws_heldChangeS_r0_A D (laws_heldChangeS_r0_0 n0 i1 0 vb0) := by
  refine (run_names (J := laws_heldChangeS_r0_A D) (by kernel_rfl) (fun _ _ => rfl) [[1, 0, 1, 0]]).trans ?_
  generalize laws_heldChangeS_r0_A D = J
  revert J
  refine id ?_
  intro J
  kernel_rfl
-- FN 11 laws_heldChangeS
noncomputable def laws_heldChangeS_A (D : Oracle false) (x : List Nat × St false) : Option (SV false × List (List (SV false))) := atF Go.Proofs.Try.prog D Go.Vs.Hs F.laws_heldChangeS x.1 0 x.2
def laws_heldChangeS_0 (e0 : List (List (Leaf false))) (i1 : Int) (i5 : Int) : List Nat × St false := ([1, 0, 1, 0], St.mk
 [SV.leaf (Leaf.sl fP e0), SV.leaf (Leaf.int Go.IntKind.i64 i1), SV.any, SV.any, SV.any,
  SV.leaf (Leaf.int Go.IntKind.i64 i5), SV.any, SV.any, SV.any, SV.any, SV.any, SV.any, SV.any, SV.any, SV.any, SV.any,
  SV.any, SV.any, SV.any, SV.any, SV.any, SV.any, SV.any, SV.any, SV.any, SV.any, SV.any, SV.any, SV.any, SV.any,
  SV.any, SV.any, SV.any, SV.any, SV.any, SV.any, SV.any, SV.any, SV.any, SV.any, SV.any, SV.any]
 [none, none, none, none, none, none, none, none, none, none, none, none, none, none, none, none, none, none, none,
  none, none, none, none, none, none, none, none, none, none, none, none, none, none, none, none, none, none, none,
  none, none, none, none])
theorem laws_heldChangeS_0_eq (D : Oracle false) (e0 : List (List (Leaf false))) (i1 : Int) (i5 : Int) : laws_heldChangeS_A D (laws_heldChangeS_0 e0 i1 i5) =
  branch (decide (i5 < (↑e0.length : Int)))
 (guarded (decide (0 ≤ i5) && decide (i5 < (↑e0.length : Int)) && sized 3 e0)
  (atK (e0.getD i5.toNat []) 0 fun (l : Leaf false) =>
   intK Go.IntKind.i64 l fun (n : Int) =>
    branch (n != i1) (some (SV.leaf (Leaf.int Go.IntKind.i64 (-1)), []))
     (guarded (decide (0 ≤ i5) && decide (i5 < (↑e0.length : Int)) && sized 3 e0)
      (atK (e0.getD i5.toNat []) 1 fun (l : Leaf false) =>
       strK l fun (s : ByteArray) =>
        (D F.laws_markText [SV.leaf (Leaf.int Go.IntKind.i64 (Go.IntKind.i64.wrap (i1 + 1)))] []).bind
         fun (r : SV false × List (List (SV false))) =>
         svLeafK r.fst fun (l : Leaf false) =>
          strK l fun (s_1 : ByteArray) =>
           branch (!s.toList == s_1.toList) (some (SV.leaf (Leaf.int Go.IntKind.i64 (-1)), []))
            (guarded (decide (0 ≤ i5) && decide (i5 < (↑e0.length : Int)) && sized 3 e0)
             (atK (e0.getD i5.toNat []) 2 fun (l : Leaf false) =>
              strK l fun (s : ByteArray) =>
               (D F.laws_markText
                  [SV.leaf (Leaf.int Go.IntKind.i64 (Go.IntKind.i64.wrap (Go.IntKind.i64.wrap (i1 + 1) + 1)))] []).bind
                fun (r : SV false × List (List (SV false))) =>
                svLeafK r.fst fun (l : Leaf false) =>
                 strK l fun (s_2 : ByteArray) =>
                  branch (!s.toList == s_2.toList) (some (SV.leaf (Leaf.int Go.IntKind.i64 (-1)), []))
                   (laws_heldChangeS_A D
                    (laws_heldChangeS_0 e0
                     (Go.IntKind.i64.wrap (Go.IntKind.i64.wrap (Go.IntKind.i64.wrap (i1 + 1) + 1) + 1))
                     (Go.IntKind.i64.wrap (i5 + 1))))))))))
 (some (SV.leaf (Leaf.int Go.IntKind.i64 i1), [])) := by
  refine (nameF_eq (J := laws_heldChangeS_A D) (fun _ _ => rfl) [[1, 0, 1, 0]] (laws_heldChangeS_0 e0 i1 i5)).trans ?_
  generalize laws_heldChangeS_A D = J
  revert J
  refine id ?_
  intro J
  kernel_rfl
theorem run_laws_heldChangeS (D : Oracle false) (e0 : List (List (Leaf false))) (i1 : Int) : run2V Go.Proofs.Try.prog D Go.Vs.Hs limR F.laws_heldChangeS [SV.leaf (Leaf.sl fP e0), SV.leaf (Leaf.int Go.IntKind.i64 i1)] [] =
  laws_heldChangeS_A D (laws_heldChangeS_0 e0 i1 0) := by
  refine (run_names (J := laws_heldChangeS_A D) (by kernel_rfl) (fun _ _ => rfl) [[1, 0, 1, 0]]).trans ?_
  generalize laws_heldChangeS_A D = J
  revert J
  refine id ?_
  intro J
  kernel_rfl
-- FN 26 laws_markText
noncomputable def laws_markText_A (D : Oracle false) (x : List Nat × St false) : Option (SV false × List (List (SV false))) := atF Go.Proofs.Try.prog D Go.Vs.Hs F.laws_markText x.1 0 x.2
def laws_markText_0 (i0 : Int) (s3 : ByteArray) : List Nat × St false := ([1, 1, 1, 0, 0], St.mk
 [SV.leaf (Leaf.int Go.IntKind.i64 i0), SV.any, SV.any, SV.leaf (Leaf.str s3), SV.any, SV.any, SV.any, SV.any, SV.any,
  SV.any, SV.any, SV.any, SV.any, SV.any, SV.any, SV.any, SV.any, SV.any, SV.any, SV.any]
 [none, none, none, none, none, none, none, none, none, none, none, none, none, none, none, none, none, none, none,
  none])
theorem laws_markText_0_eq (D : Oracle false) (i0 : Int) (s3 : ByteArray) : laws_markText_A D (laws_markText_0 i0 s3) =
  branch (decide (i0 > 0))
 (guarded
  (decide
   ((ByteArray.mk
       (List.map (byteOf (m := false))
         [[Leaf.int Go.IntKind.u8 (Go.IntKind.u8.wrap (Go.IntKind.i64.wrap (48 + i0.tmod 10)))]]).toArray).size +
     s3.size ≤
    140737488355328))
  (laws_markText_A D
   (laws_markText_0 (Go.IntKind.i64.wrap (i0.tdiv 10))
    (ByteArray.mk
      (List.map (byteOf (m := false))
        [[Leaf.int Go.IntKind.u8 (Go.IntKind.u8.wrap (Go.IntKind.i64.wrap (48 + i0.tmod 10)))]]).toArray ++
     s3))))
 (guarded (decide ((ByteArray.mk #[109]).size + s3.size ≤ 140737488355328))
  (some (SV.leaf (Leaf.str (ByteArray.mk #[109] ++ s3)), []))) := by
  refine (nameF_eq (J := laws_markText_A D) (fun _ _ => rfl) [[1, 1, 1, 0, 0]] (laws_markText_0 i0 s3)).trans ?_
  generalize laws_markText_A D = J
  revert J
  refine id ?_
  intro J
  kernel_rfl
theorem run_laws_markText (D : Oracle false) (i0 : Int) : run2V Go.Proofs.Try.prog D Go.Vs.Hs limR F.laws_markText [SV.leaf (Leaf.int Go.IntKind.i64 i0)] [] =
  branch (decide (i0 ≤ 0)) (some (SV.leaf (Leaf.str (ByteArray.mk #[109, 48])), []))
 (laws_markText_A D (laws_markText_0 i0 (ByteArray.mk #[]))) := by
  refine (run_names (J := laws_markText_A D) (by kernel_rfl) (fun _ _ => rfl) [[1, 1, 1, 0, 0]]).trans ?_
  generalize laws_markText_A D = J
  revert J
  refine id ?_
  intro J
  kernel_rfl
-- FN 27 laws_szInDef
noncomputable def laws_szInDef_A (D : Oracle false) (x : List Nat × St false) : Option (SV false × List (List (SV false))) := atF Go.Proofs.Try.prog D Go.Vs.Hs F.laws_szInDef x.1 0 x.2
theorem run_laws_szInDef (D : Oracle false) (s0_0 : ByteArray) (s0_1 : ByteArray) (s0_2 : ByteArray) (s0_3 : ByteArray) (b0_4 : Bool) (i0_5 : Int) (s0_6 : ByteArray) (e0_7 : List (List (Leaf false))) (e0_8 : List (List (Leaf false))) (e0_9 : List (List (Leaf false))) (i1 : Int) : run2V Go.Proofs.Try.prog D Go.Vs.Hs limR F.laws_szInDef [SV.agg
  [Leaf.str s0_0, Leaf.str s0_1, Leaf.str s0_2, Leaf.str s0_3, Leaf.bool b0_4, Leaf.int Go.IntKind.i64 i0_5,
   Leaf.str s0_6, Leaf.sl fP e0_7, Leaf.sl fP e0_8, Leaf.sl fP e0_9],
 SV.leaf (Leaf.int Go.IntKind.i64 i1)] [] =
  branch (decide (Go.IntKind.i64.wrap (i1 - (↑s0_0.size : Int)) < 0)) (some (SV.leaf (Leaf.int Go.IntKind.i64 (-1)), []))
 (branch (decide (Go.IntKind.i64.wrap (Go.IntKind.i64.wrap (i1 - (↑s0_0.size : Int)) - (↑s0_1.size : Int)) < 0))
  (some (SV.leaf (Leaf.int Go.IntKind.i64 (-1)), []))
  ((D F.laws_szType
     [SV.agg [Leaf.str s0_2, Leaf.str s0_3],
      SV.leaf
       (Leaf.int Go.IntKind.i64
        (Go.IntKind.i64.wrap (Go.IntKind.i64.wrap (i1 - (↑s0_0.size : Int)) - (↑s0_1.size : Int))))]
     []).bind
   fun (r : SV false × List (List (SV false))) =>
   svLeafK r.fst fun (l : Leaf false) =>
    intK Go.IntKind.i64 l fun (n : Int) =>
     branch (decide (n < 0)) (some (SV.leaf (Leaf.int Go.IntKind.i64 (-1)), []))
      ((D F.laws_szValue
         [SV.agg [Leaf.int Go.IntKind.i64 i0_5, Leaf.str s0_6, Leaf.sl fP e0_7, Leaf.sl fP e0_8],
          SV.leaf (Leaf.int Go.IntKind.i64 n)]
         []).bind
       fun (r : SV false × List (List (SV false))) =>
       svLeafK r.fst fun (l : Leaf false) =>
        intK Go.IntKind.i64 l fun (n : Int) =>
         branch (decide (n < 0)) (some (SV.leaf (Leaf.int Go.IntKind.i64 (-1)), []))
          ((D F.laws_szDirS [SV.leaf (Leaf.sl fP e0_9), SV.leaf (Leaf.int Go.IntKind.i64 n)] []).bind
           fun (r : SV false × List (List (SV false))) =>
           svLeafK r.fst fun (l : Leaf false) =>
            intK Go.IntKind.i64 l fun (n : Int) =>
             branch (decide (n < 0)) (some (SV.leaf (Leaf.int Go.IntKind.i64 (-1)), []))
              (some (SV.leaf (Leaf.int Go.IntKind.i64 n), [])))))) := by
  refine (run_names (J := laws_szInDef_A D) (by kernel_rfl) (fun _ _ => rfl) []).trans ?_
  generalize laws_szInDef_A D = J
  revert J
  refine id ?_
  intro J
  kernel_rfl
-- FN 28 spec_InAt
noncomputable def spec_InAt_A (D : Oracle false) (x : List Nat × St false) : Option (SV false × List (List (SV false))) := atF Go.Proofs.Try.prog D Go.Vs.Hs F.spec_InAt x.1 0 x.2
def spec_InAt_0 (e0 : List (List (Leaf false))) (s1 : ByteArray) (i5 : Int) : List Nat × St false := ([1, 0, 1, 0], St.mk
 [SV.leaf (Leaf.sl fP e0), SV.leaf (Leaf.str s1), SV.any, SV.any, SV.any, SV.leaf (Leaf.int Go.IntKind.i64 i5), SV.any,
  SV.any, SV.any, SV.any, SV.any, SV.any, SV.any, SV.any, SV.any, SV.any, SV.any, SV.any, SV.any, SV.any]
 [none, none, none, none, none, none, none, none, none, none, none, none, none, none, none, none, none, none, none,
  none])
theorem spec_InAt_0_eq (D : Oracle false) (e0 : List (List (Leaf false))) (s1 : ByteArray) (i5 : Int) : spec_InAt_A D (spec_InAt_0 e0 s1 i5) =
  branch (decide (i5 < (↑e0.length : Int)))
 (guarded (decide (0 ≤ i5) && decide (i5 < (↑e0.length : Int)) && sized 10 e0)
  (atK (e0.getD i5.toNat []) 0 fun (l : Leaf false) =>
   strK l fun (s : ByteArray) =>
    branch (s.toList == s1.toList) (some (SV.leaf (Leaf.int Go.IntKind.i64 i5), []))
     (spec_InAt_A D (spec_InAt_0 e0 s1 (Go.IntKind.i64.wrap (i5 + 1))))))
 (some (SV.leaf (Leaf.int Go.IntKind.i64 (-1)), [])) := by
  refine (nameF_eq (J := spec_InAt_A D) (fun _ _ => rfl) [[1, 0, 1, 0]] (spec_InAt_0 e0 s1 i5)).trans ?_
  generalize spec_InAt_A D = J
  revert J
  refine id ?_
  intro J
  kernel_rfl
theorem run_spec_InAt (D : Oracle false) (e0 : List (List (Leaf false))) (s1 : ByteArray) : run2V Go.Proofs.Try.prog D Go.Vs.Hs limR F.spec_InAt [SV.leaf (Leaf.sl fP e0), SV.leaf (Leaf.str s1)] [] =
  spec_InAt_A D (spec_InAt_0 e0 s1 0) := by
  refine (run_names (J := spec_InAt_A D) (by kernel_rfl) (fun _ _ => rfl) [[1, 0, 1, 0]]).trans ?_
  generalize spec_InAt_A D = J
  revert J
  refine id ?_
  intro J
  kernel_rfl
-- FN 29 spec_Compatible
noncomputable def spec_Compatible_A (D : Oracle false) (x : List Nat × St false) : Option (SV false × List (List (SV false))) := atF Go.Proofs.Try.prog D Go.Vs.Hs F.spec_Compatible x.1 0 x.2
def spec_Compatible_0 (sx2_0 : ByteArray) (sx2_1 : ByteArray) (sx3_0 : ByteArray) (sx3_1 : ByteArray) : List Nat × St false := ([1, 0], St.mk
 [SV.any, SV.any, SV.ptr 2 0, SV.ptr 3 0, SV.any, SV.any, SV.any, SV.any, SV.any, SV.any, SV.any, SV.any, SV.any,
  SV.any, SV.any, SV.any, SV.any, SV.any, SV.any, SV.any, SV.any, SV.any, SV.any, SV.any, SV.any, SV.any, SV.any,
  SV.any, SV.any, SV.any, SV.any, SV.any, SV.any, SV.any, SV.any, SV.any, SV.any, SV.any, SV.any, SV.any, SV.any,
  SV.any, SV.any, SV.any, SV.any, SV.any, SV.any, SV.any, SV.any, SV.any, SV.any, SV.any, SV.any, SV.any, SV.any,
  SV.any, SV.any, SV.any, SV.any, SV.any, SV.any, SV.any, SV.any, SV.any, SV.any, SV.any, SV.any, SV.any, SV.any,
  SV.any, SV.any, SV.any, SV.any, SV.any, SV.any, SV.any, SV.any, SV.any, SV.any, SV.any, SV.any, SV.any, SV.any,
  SV.any, SV.any, SV.any, SV.any, SV.any]
 [none, none, some [SV.leaf (Leaf.str sx2_0), SV.leaf (Leaf.str sx2_1)],
  some [SV.leaf (Leaf.str sx3_0), SV.leaf (Leaf.str sx3_1)], none, none, none, none, none, none, none, none, none, none,
  none, none, none, none, none, none, none, none, none, none, none, none, none, none, none, none, none, none, none,
  none, none, none, none, none, none, none, none, none, none, none, none, none, none, none, none, none, none, none,
  none, none, none, none, none, none, none, none, none, none, none, none, none, none, none, none, none, none, none,
  none, none, none, none, none, none, none, none, none, none, none, none, none, none, none, none, none])
def spec_Compatible_1 (i5 : Int) (i6 : Int) (b53 : Bool) (sx2_0 : ByteArray) (sx2_1 : ByteArray) (sx3_0 : ByteArray) (sx3_1 : ByteArray) : List Nat × St false := ([1, 0, 0, 0, 1, 1, 0, 1, 1, 1, 1, 1], St.mk
 [SV.any, SV.any, SV.ptr 2 0, SV.ptr 3 0, SV.any, SV.leaf (Leaf.int Go.IntKind.i64 i5),
  SV.leaf (Leaf.int Go.IntKind.i64 i6), SV.any, SV.any, SV.any, SV.any, SV.any, SV.any, SV.any, SV.any, SV.any, SV.any,
  SV.any, SV.any, SV.any, SV.any, SV.any, SV.any, SV.any, SV.any, SV.any, SV.any, SV.any, SV.any, SV.any, SV.any,
  SV.any, SV.any, SV.any, SV.any, SV.any, SV.any, SV.any, SV.any, SV.any, SV.any, SV.any, SV.any, SV.any, SV.any,
  SV.any, SV.any, SV.any, SV.any, SV.any, SV.any, SV.any, SV.any, SV.leaf (Leaf.bool b53), SV.any, SV.any, SV.any,
  SV.any, SV.any, SV.any, SV.any, SV.any, SV.any, SV.any, SV.any, SV.any, SV.any, SV.any, SV.any, SV.any, SV.any,
  SV.any, SV.any, SV.any, SV.any, SV.any, SV.any, SV.any, SV.any, SV.any, SV.any, SV.any, SV.any, SV.any, SV.any,
  SV.any, SV.any, SV.any]
 [none, none, some [SV.leaf (Leaf.str sx2_0), SV.leaf (Leaf.str sx2_1)],
  some [SV.leaf (Leaf.str sx3_0), SV.leaf (Leaf.str sx3_1)], none, none, none, none, none, none, none, none, none, none,
  none, none, none, none, none, none, none, none, none, none, none, none, none, none, none, none, none, none, none,
  none, none, none, none, none, none, none, none, none, none, none, none, none, none, none, none, none, none, none,
  none, none, none, none, none, none, none, none, none, none, none, none, none, none, none, none, none, none, none,
  none, none, none, none, none, none, none, none, none, none, none, none, none, none, none, none, none])
theorem spec_Compatible_0_eq (D : Oracle false) (sx2_0 : ByteArray) (sx2_1 : ByteArray) (sx3_0 : ByteArray) (sx3_1 : ByteArray) : spec_Compatible_A D (spec_Compatible_0 sx2_0 sx2_1 sx3_0 sx3_1) =
  (D F.spec_Needed [SV.agg [Leaf.str sx3_0, Leaf.str sx3_1]] []).bind fun (r : SV false × List (List (SV false))) =>
 svLeafK r.fst fun (l : Leaf false) =>
  boolK l fun (b : Bool) =>
   branch b
    ((D F.spec_Needed [SV.agg [Leaf.str sx2_0, Leaf.str sx2_1]] []).bind fun (r : SV false × List (List (SV false))) =>
     svLeafK r.fst fun (l : Leaf false) =>
      boolK l fun (b : Bool) =>
       branch (!b) (some (SV.leaf (Leaf.bool false), []))
        (guarded
         (decide (0 ≤ Go.IntKind.i64.wrap ((↑sx2_1.size : Int) - 1)) &&
          decide
           (((decide (0 ≤ Go.IntKind.i64.wrap ((↑sx2_1.size : Int) - 1)),
                  (Go.IntKind.i64.wrap ((↑sx2_1.size : Int) - 1)).toNat).fst,
                some
                 (decide (0 ≤ Go.IntKind.i64.wrap ((↑sx2_1.size : Int) - 1)),
                   (Go.IntKind.i64.wrap ((↑sx2_1.size : Int) - 1)).toNat).snd).snd.getD
             sx2_1.size ≤
            sx2_1.size))
         (guarded
          (decide (0 ≤ Go.IntKind.i64.wrap ((↑sx3_1.size : Int) - 1)) &&
           decide
            (((decide (0 ≤ Go.IntKind.i64.wrap ((↑sx3_1.size : Int) - 1)),
                   (Go.IntKind.i64.wrap ((↑sx3_1.size : Int) - 1)).toNat).fst,
                 some
                  (decide (0 ≤ Go.IntKind.i64.wrap ((↑sx3_1.size : Int) - 1)),
                    (Go.IntKind.i64.wrap ((↑sx3_1.size : Int) - 1)).toNat).snd).snd.getD
              sx3_1.size ≤
             sx3_1.size))
          (spec_Compatible_A D
           (spec_Compatible_0 sx2_0
            (sx2_1.extract ((true, none).snd.getD 0)
             (((fun (p : Bool × Nat) => (p.fst, some p.snd))
                 (decide (0 ≤ Go.IntKind.i64.wrap ((↑sx2_1.size : Int) - 1)),
                  (Go.IntKind.i64.wrap ((↑sx2_1.size : Int) - 1)).toNat)).snd.getD
              sx2_1.size))
            sx3_0
            (sx3_1.extract ((true, none).snd.getD 0)
             (((fun (p : Bool × Nat) => (p.fst, some p.snd))
                 (decide (0 ≤ Go.IntKind.i64.wrap ((↑sx3_1.size : Int) - 1)),
                  (Go.IntKind.i64.wrap ((↑sx3_1.size : Int) - 1)).toNat)).snd.getD
              sx3_1.size)))))))
    ((D F.spec_Needed [SV.agg [Leaf.str sx2_0, Leaf.str sx2_1]] []).bind fun (r : SV false × List (List (SV false))) =>
     svLeafK r.fst fun (l : Leaf false) =>
      boolK l fun (b : Bool) =>
       branch b
        (guarded
         (decide (0 ≤ Go.IntKind.i64.wrap ((↑sx2_1.size : Int) - 1)) &&
          decide
           (((decide (0 ≤ Go.IntKind.i64.wrap ((↑sx2_1.size : Int) - 1)),
                  (Go.IntKind.i64.wrap ((↑sx2_1.size : Int) - 1)).toNat).fst,
                some
                 (decide (0 ≤ Go.IntKind.i64.wrap ((↑sx2_1.size : Int) - 1)),
                   (Go.IntKind.i64.wrap ((↑sx2_1.size : Int) - 1)).toNat).snd).snd.getD
             sx2_1.size ≤
            sx2_1.size))
         (spec_Compatible_A D
          (spec_Compatible_0 sx2_0
           (sx2_1.extract ((true, none).snd.getD 0)
            (((fun (p : Bool × Nat) => (p.fst, some p.snd))
                (decide (0 ≤ Go.IntKind.i64.wrap ((↑sx2_1.size : Int) - 1)),
                 (Go.IntKind.i64.wrap ((↑sx2_1.size : Int) - 1)).toNat)).snd.getD
             sx2_1.size))
           sx3_0 sx3_1)))
        (branch (decide ((↑sx2_1.size : Int) > 0) == true)
         (branch (decide ((↑sx3_1.size : Int) > 0) == true)
          (guarded
           (decide (0 ≤ Go.IntKind.i64.wrap ((↑sx2_1.size : Int) - 1)) &&
            decide (Go.IntKind.i64.wrap ((↑sx2_1.size : Int) - 1) < (↑sx2_1.size : Int)))
           (branch
            (((↑(sx2_1.data.toList.getD (Go.IntKind.i64.wrap ((↑sx2_1.size : Int) - 1)).toNat 0).toNat : Int) == 93) ==
             true)
            (guarded
             (decide (0 ≤ Go.IntKind.i64.wrap ((↑sx3_1.size : Int) - 1)) &&
              decide (Go.IntKind.i64.wrap ((↑sx3_1.size : Int) - 1) < (↑sx3_1.size : Int)))
             (spec_Compatible_A D
              (spec_Compatible_1 (↑sx2_1.size : Int) (↑sx3_1.size : Int)
               ((↑(sx3_1.data.toList.getD (Go.IntKind.i64.wrap ((↑sx3_1.size : Int) - 1)).toNat 0).toNat : Int) == 93)
               sx2_0 sx2_1 sx3_0 sx3_1)))
            (spec_Compatible_A D
             (spec_Compatible_1 (↑sx2_1.size : Int) (↑sx3_1.size : Int) false sx2_0 sx2_1 sx3_0 sx3_1))))
          (spec_Compatible_A D
           (spec_Compatible_1 (↑sx2_1.size : Int) (↑sx3_1.size : Int) false sx2_0 sx2_1 sx3_0 sx3_1)))
         (spec_Compatible_A D
          (spec_Compatible_1 (↑sx2_1.size : Int) (↑sx3_1.size : Int) false sx2_0 sx2_1 sx3_0 sx3_1)))) := by
  refine (nameF_eq (J := spec_Compatible_A D) (fun _ _ => rfl) [[1, 0], [1, 0, 0, 0, 1, 1, 0, 1, 1, 1, 1, 1]] (spec_Compatible_0 sx2_0 sx2_1 sx3_0 sx3_1)).trans ?_
  generalize spec_Compatible_A D = J
  revert J
  refine id ?_
  intro J
  kernel_rfl
theorem spec_Compatible_1_eq (D : Oracle false) (i5 : Int) (i6 : Int) (b53 : Bool) (sx2_0 : ByteArray) (sx2_1 : ByteArray) (sx3_0 : ByteArray) (sx3_1 : ByteArray) : spec_Compatible_A D (spec_Compatible_1 i5 i6 b53 sx2_0 sx2_1 sx3_0 sx3_1) =
  branch b53
 (guarded
  (decide (0 ≤ Go.IntKind.i64.wrap (i5 - 1)) &&
   decide
    (((decide (0 ≤ Go.IntKind.i64.wrap (i5 - 1)), (Go.IntKind.i64.wrap (i5 - 1)).toNat).fst,
         some (decide (0 ≤ Go.IntKind.i64.wrap (i5 - 1)), (Go.IntKind.i64.wrap (i5 - 1)).toNat).snd).snd.getD
      sx2_1.size ≤
     sx2_1.size))
  (guarded
   (decide (0 ≤ Go.IntKind.i64.wrap (i6 - 1)) &&
    decide
     (((decide (0 ≤ Go.IntKind.i64.wrap (i6 - 1)), (Go.IntKind.i64.wrap (i6 - 1)).toNat).fst,
          some (decide (0 ≤ Go.IntKind.i64.wrap (i6 - 1)), (Go.IntKind.i64.wrap (i6 - 1)).toNat).snd).snd.getD
       sx3_1.size ≤
      sx3_1.size))
   (spec_Compatible_A D
    (spec_Compatible_0 sx2_0
     (sx2_1.extract ((true, none).snd.getD 0)
      (((fun (p : Bool × Nat) => (p.fst, some p.snd))
          (decide (0 ≤ Go.IntKind.i64.wrap (i5 - 1)), (Go.IntKind.i64.wrap (i5 - 1)).toNat)).snd.getD
       sx2_1.size))
     sx3_0
     (sx3_1.extract ((true, none).snd.getD 0)
      (((fun (p : Bool × Nat) => (p.fst, some p.snd))
          (decide (0 ≤ Go.IntKind.i64.wrap (i6 - 1)), (Go.IntKind.i64.wrap (i6 - 1)).toNat)).snd.getD
       sx3_1.size))))))
 (branch ((i5 == 0) == true)
  (branch ((i6 == 0) == true) (some (SV.leaf (Leaf.bool (sx2_0.toList == sx3_0.toList)), []))
   (some (SV.leaf (Leaf.bool false), [])))
  (some (SV.leaf (Leaf.bool false), []))) := by
  refine (nameF_eq (J := spec_Compatible_A D) (fun _ _ => rfl) [[1, 0], [1, 0, 0, 0, 1, 1, 0, 1, 1, 1, 1, 1]] (spec_Compatible_1 i5 i6 b53 sx2_0 sx2_1 sx3_0 sx3_1)).trans ?_
  generalize spec_Compatible_A D = J
  revert J
  refine id ?_
  intro J
  kernel_rfl
theorem run_spec_Compatible (D : Oracle false) (s0_0 : ByteArray) (s0_1 : ByteArray) (s1_0 : ByteArray) (s1_1 : ByteArray) : run2V Go.Proofs.Try.prog D Go.Vs.Hs limR F.spec_Compatible [SV.agg [Leaf.str s0_0, Leaf.str s0_1], SV.agg [Leaf.str s1_0, Leaf.str s1_1]] [] =
  spec_Compatible_A D (spec_Compatible_0 s0_0 s0_1 s1_0 s1_1) := by
  refine (run_names (J := spec_Compatible_A D) (by kernel_rfl) (fun _ _ => rfl) [[1, 0], [1, 0, 0, 0, 1, 1, 0, 1, 1, 1, 1, 1]]).trans ?_
  generalize spec_Compatible_A D = J
  revert J
  refine id ?_
  intro J
  kernel_rfl
-- FN 30 spec_Needed
noncomputable def spec_Needed_A (D : Oracle false) (x : List Nat × St false) : Option (SV false × List (List (SV false))) := atF Go.Proofs.Try.prog D Go.Vs.Hs F.spec_Needed x.1 0 x.2
theorem run_spec_Needed (D : Oracle false) (s0_0 : ByteArray) (s0_1 : ByteArray) : run2V Go.Proofs.Try.prog D Go.Vs.Hs limR F.spec_Needed [SV.agg [Leaf.str s0_0, Leaf.str s0_1]] [] =
  branch (decide ((↑s0_1.size : Int) > 0) == true)
 (guarded
  (decide (0 ≤ Go.IntKind.i64.wrap ((↑s0_1.size : Int) - 1)) &&
   decide (Go.IntKind.i64.wrap ((↑s0_1.size : Int) - 1) < (↑s0_1.size : Int)))
  (some
   (SV.leaf
     (Leaf.bool ((↑(s0_1.data.toList.getD (Go.IntKind.i64.wrap ((↑s0_1.size : Int) - 1)).toNat 0).toNat : Int) == 33)),
    [])))
 (some (SV.leaf (Leaf.bool false), [])) := by
  refine (run_names (J := spec_Needed_A D) (by kernel_rfl) (fun _ _ => rfl) []).trans ?_
  generalize spec_Needed_A D = J
  revert J
  refine id ?_
  intro J
  kernel_rfl
-- FN 31 spec_SameValue
noncomputable def spec_SameValue_A (D : Oracle false) (x : List Nat × St false) : Option (SV false × List (List (SV false))) := atF Go.Proofs.Try.prog D Go.Vs.Hs F.spec_SameValue x.1 0 x.2
def spec_SameValue_0 (b36 : Bool) (ix2_0 : Int) (sx2_1 : ByteArray) (ex2_2 : List (List (Leaf false))) (ex2_3 : List (List (Leaf false))) (ix3_0 : Int) (sx3_1 : ByteArray) (ex3_2 : List (List (Leaf false))) (ex3_3 : List (List (Leaf false))) : List Nat × St false := ([1, 0, 1], St.mk
 [SV.any, SV.any, SV.ptr 2 0, SV.ptr 3 0, SV.any, SV.any, SV.any, SV.any, SV.any, SV.any, SV.any, SV.any, SV.any,
  SV.any, SV.any, SV.any, SV.any, SV.any, SV.any, SV.any, SV.any, SV.any, SV.any, SV.any, SV.any, SV.any, SV.any,
  SV.any, SV.any, SV.any, SV.any, SV.any, SV.any, SV.any, SV.any, SV.any, SV.leaf (Leaf.bool b36), SV.any, SV.any,
  SV.any, SV.any, SV.any, SV.any, SV.any, SV.any, SV.any, SV.any, SV.any, SV.any, SV.any, SV.any, SV.any, SV.any,
  SV.any, SV.any, SV.any, SV.any, SV.any, SV.any, SV.any, SV.any, SV.any, SV.any, SV.any, SV.any, SV.any, SV.any,
  SV.any, SV.any, SV.any, SV.any, SV.any, SV.any, SV.any]
 [none, none,
  some
   [SV.leaf (Leaf.int Go.IntKind.i64 ix2_0), SV.leaf (Leaf.str sx2_1), SV.leaf (Leaf.sl fP ex2_2),
    SV.leaf (Leaf.sl fP ex2_3)],
  some
   [SV.leaf (Leaf.int Go.IntKind.i64 ix3_0), SV.leaf (Leaf.str sx3_1), SV.leaf (Leaf.sl fP ex3_2),
    SV.leaf (Leaf.sl fP ex3_3)],
  none, none, none, none, none, none, none, none, none, none, none, none, none, none, none, none, none, none, none,
  none, none, none, none, none, none, none, none, none, none, none, none, none, none, none, none, none, none, none,
  none, none, none, none, none, none, none, none, none, none, none, none, none, none, none, none, none, none, none,
  none, none, none, none, none, none, none, none, none, none, none, none, none])
def spec_SameValue_1 (i5 : Int) (ix2_0 : Int) (sx2_1 : ByteArray) (ex2_2 : List (List (Leaf false))) (ex2_3 : List (List (Leaf false))) (ix3_0 : Int) (sx3_1 : ByteArray) (ex3_2 : List (List (Leaf false))) (ex3_3 : List (List (Leaf false))) : List Nat × St false := ([1, 1, 0, 1, 0], St.mk
 [SV.any, SV.any, SV.ptr 2 0, SV.ptr 3 0, SV.any, SV.leaf (Leaf.int Go.IntKind.i64 i5), SV.any, SV.any, SV.any, SV.any,
  SV.any, SV.any, SV.any, SV.any, SV.any, SV.any, SV.any, SV.any, SV.any, SV.any, SV.any, SV.any, SV.any, SV.any,
  SV.any, SV.any, SV.any, SV.any, SV.any, SV.any, SV.any, SV.any, SV.any, SV.any, SV.any, SV.any, SV.any, SV.any,
  SV.any, SV.any, SV.any, SV.any, SV.any, SV.any, SV.any, SV.any, SV.any, SV.any, SV.any, SV.any, SV.any, SV.any,
  SV.any, SV.any, SV.any, SV.any, SV.any, SV.any, SV.any, SV.any, SV.any, SV.any, SV.any, SV.any, SV.any, SV.any,
  SV.any, SV.any, SV.any, SV.any, SV.any, SV.any, SV.any, SV.any]
 [none, none,
  some
   [SV.leaf (Leaf.int Go.IntKind.i64 ix2_0), SV.leaf (Leaf.str sx2_1), SV.leaf (Leaf.sl fP ex2_2),
    SV.leaf (Leaf.sl fP ex2_3)],
  some
   [SV.leaf (Leaf.int Go.IntKind.i64 ix3_0), SV.leaf (Leaf.str sx3_1), SV.leaf (Leaf.sl fP ex3_2),
    SV.leaf (Leaf.sl fP ex3_3)],
  none, none, none, none, none, none, none, none, none, none, none, none, none, none, none, none, none, none, none,
  none, none, none, none, none, none, none, none, none, none, none, none, none, none, none, none, none, none, none,
  none, none, none, none, none, none, none, none, none, none, none, none, none, none, none, none, none, none, none,
  none, none, none, none, none, none, none, none, none, none, none, none, none])
def spec_SameValue_2 (i6 : Int) (ix2_0 : Int) (sx2_1 : ByteArray) (ex2_2 : List (List (Leaf false))) (ex2_3 : List (List (Leaf false))) (ix3_0 : Int) (sx3_1 : ByteArray) (ex3_2 : List (List (Leaf false))) (ex3_3 : List (List (Leaf false))) : List Nat × St false := ([1, 1, 1, 0, 1, 0], St.mk
 [SV.any, SV.any, SV.ptr 2 0, SV.ptr 3 0, SV.any, SV.any, SV.leaf (Leaf.int Go.IntKind.i64 i6), SV.any, SV.any, SV.any,
  SV.any, SV.any, SV.any, SV.any, SV.any, SV.any, SV.any, SV.any, SV.any, SV.any, SV.any, SV.any, SV.any, SV.any,
  SV.any, SV.any, SV.any, SV.any, SV.any, SV.any, SV.any, SV.any, SV.any, SV.any, SV.any, SV.any, SV.any, SV.any,
  SV.any, SV.any, SV.any, SV.any, SV.any, SV.any, SV.any, SV.any, SV.any, SV.any, SV.any, SV.any, SV.any, SV.any,
  SV.any, SV.any, SV.any, SV.any, SV.any, SV.any, SV.any, SV.any, SV.any, SV.any, SV.any, SV.any, SV.any, SV.any,
  SV.any, SV.any, SV.any, SV.any, SV.any, SV.any, SV.any, SV.any]
 [none, none,
  some
   [SV.leaf (Leaf.int Go.IntKind.i64 ix2_0), SV.leaf (Leaf.str sx2_1), SV.leaf (Leaf.sl fP ex2_2),
    SV.leaf (Leaf.sl fP ex2_3)],
  some
   [SV.leaf (Leaf.int Go.IntKind.i64 ix3_0), SV.leaf (Leaf.str sx3_1), SV.leaf (Leaf.sl fP ex3_2),
    SV.leaf (Leaf.sl fP ex3_3)],
  none, none, none, none, none, none, none, none, none, none, none, none, none, none, none, none, none, none, none,
  none, none, none, none, none, none, none, none, none, none, none, none, none, none, none, none, none, none, none,
  none, none, none, none, none, none, none, none, none, none, none, none, none, none, none, none, none, none, none,
  none, none, none, none, none, none, none, none, none, none, none, none, none])
theorem spec_SameValue_0_eq (D : Oracle false) (b36 : Bool) (ix2_0 : Int) (sx2_1 : ByteArray) (ex2_2 : List (List (Leaf false))) (ex2_3 : List (List (Leaf false))) (ix3_0 : Int) (sx3_1 : ByteArray) (ex3_2 : List (List (Leaf false))) (ex3_3 : List (List (Leaf false))) : spec_SameValue_A D (spec_SameValue_0 b36 ix2_0 sx2_1 ex2_2 ex2_3 ix3_0 sx3_1 ex3_2 ex3_3) =
  branch b36 (some (SV.leaf (Leaf.bool false), []))
 (spec_SameValue_A D (spec_SameValue_1 0 ix2_0 sx2_1 ex2_2 ex2_3 ix3_0 sx3_1 ex3_2 ex3_3)) := by
  refine (nameF_eq (J := spec_SameValue_A D) (fun _ _ => rfl) [[1, 0, 1], [1, 1, 0, 1, 0], [1, 1, 1, 0, 1, 0]] (spec_SameValue_0 b36 ix2_0 sx2_1 ex2_2 ex2_3 ix3_0 sx3_1 ex3_2 ex3_3)).trans ?_
  generalize spec_SameValue_A D = J
  revert J
  refine id ?_
  intro J
  kernel_rfl
theorem spec_SameValue_1_eq (D : Oracle false) (i5 : Int) (ix2_0 : Int) (sx2_1 : ByteArray) (ex2_2 : List (List (Leaf false))) (ex2_3 : List (List (Leaf false))) (ix3_0 : Int) (sx3_1 : ByteArray) (ex3_2 : List (List (Leaf false))) (ex3_3 : List (List (Leaf false))) : spec_SameValue_A D (spec_SameValue_1 i5 ix2_0 sx2_1 ex2_2 ex2_3 ix3_0 sx3_1 ex3_2 ex3_3) =
  branch (decide (i5 < (↑ex2_3.length : Int)))
 (guarded (decide (0 ≤ i5) && decide (i5 < (↑ex2_3.length : Int)) && sized 1 ex2_3)
  (atK (ex2_3.getD i5.toNat []) 0 fun (l : Leaf false) =>
   strK l fun (s : ByteArray) =>
    guarded (decide (0 ≤ i5) && decide (i5 < (↑ex3_3.length : Int)) && sized 1 ex3_3)
     (atK (ex3_3.getD i5.toNat []) 0 fun (l : Leaf false) =>
      strK l fun (s_1 : ByteArray) =>
       branch (!s.toList == s_1.toList) (some (SV.leaf (Leaf.bool false), []))
        (spec_SameValue_A D
         (spec_SameValue_1 (Go.IntKind.i64.wrap (i5 + 1)) ix2_0 sx2_1 ex2_2 ex2_3 ix3_0 sx3_1 ex3_2 ex3_3)))))
 (spec_SameValue_A D (spec_SameValue_2 0 ix2_0 sx2_1 ex2_2 ex2_3 ix3_0 sx3_1 ex3_2 ex3_3)) := by
  refine (nameF_eq (J := spec_SameValue_A D) (fun _ _ => rfl) [[1, 0, 1], [1, 1, 0, 1, 0], [1, 1, 1, 0, 1, 0]] (spec_SameValue_1 i5 ix2_0 sx2_1 ex2_2 ex2_3 ix3_0 sx3_1 ex3_2 ex3_3)).trans ?_
  generalize spec_SameValue_A D = J
  revert J
  refine id ?_
  intro J
  kernel_rfl
theorem spec_SameValue_2_eq (D : Oracle false) (i6 : Int) (ix2_0 : Int) (sx2_1 : ByteArray) (ex2_2 : List (List (Leaf false))) (ex2_3 : List (List (Leaf false))) (ix3_0 : Int) (sx3_1 : ByteArray) (ex3_2 : List (List (Leaf false))) (ex3_3 : List (List (Leaf false))) : spec_SameValue_A D (spec_SameValue_2 i6 ix2_0 sx2_1 ex2_2 ex2_3 ix3_0 sx3_1 ex3_2 ex3_3) =
  branch (decide (i6 < (↑ex2_2.length : Int)))
 (guarded (decide (0 ≤ i6) && decide (i6 < (↑ex2_2.length : Int)) && sized 4 ex2_2)
  (bindE (ex2_2.getD i6.toNat []) fun (e : List (Leaf false)) =>
   atK e 0 fun (l : Leaf false) =>
    intK Go.IntKind.i64 l fun (n : Int) =>
     atK e 1 fun (l : Leaf false) =>
      strK l fun (s : ByteArray) =>
       atK e 2 fun (l : Leaf false) =>
        slK l fun (c : Fl false) (es : List (List (Leaf false))) =>
         atK e 3 fun (l : Leaf false) =>
          slK l fun (c : Fl false) (es_1 : List (List (Leaf false))) =>
           guarded (decide (0 ≤ i6) && decide (i6 < (↑ex3_2.length : Int)) && sized 4 ex3_2)
            (bindE (ex3_2.getD i6.toNat []) fun (e : List (Leaf false)) =>
             atK e 0 fun (l : Leaf false) =>
              intK Go.IntKind.i64 l fun (n_1 : Int) =>
               atK e 1 fun (l : Leaf false) =>
                strK l fun (s_1 : ByteArray) =>
                 atK e 2 fun (l : Leaf false) =>
                  slK l fun (c : Fl false) (es_2 : List (List (Leaf false))) =>
                   atK e 3 fun (l : Leaf false) =>
                    slK l fun (c : Fl false) (es_3 : List (List (Leaf false))) =>
                     (D F.spec_SameValue
                        [SV.agg [Leaf.int Go.IntKind.i64 n, Leaf.str s, Leaf.sl fP es, Leaf.sl fP es_1],
                         SV.agg [Leaf.int Go.IntKind.i64 n_1, Leaf.str s_1, Leaf.sl fP es_2, Leaf.sl fP es_3]]
                        []).bind
                      fun (r : SV false × List (List (SV false))) =>
                      svLeafK r.fst fun (l : Leaf false) =>
                       boolK l fun (b : Bool) =>
                        branch (!b) (some (SV.leaf (Leaf.bool false), []))
                         (spec_SameValue_A D
                          (spec_SameValue_2 (Go.IntKind.i64.wrap (i6 + 1)) ix2_0 sx2_1 ex2_2 ex2_3 ix3_0 sx3_1 ex3_2
                           ex3_3)))))
 (some (SV.leaf (Leaf.bool true), [])) := by
  refine (nameF_eq (J := spec_SameValue_A D) (fun _ _ => rfl) [[1, 0, 1], [1, 1, 0, 1, 0], [1, 1, 1, 0, 1, 0]] (spec_SameValue_2 i6 ix2_0 sx2_1 ex2_2 ex2_3 ix3_0 sx3_1 ex3_2 ex3_3)).trans ?_
  generalize spec_SameValue_A D = J
  revert J
  refine id ?_
  intro J
  kernel_rfl
theorem run_spec_SameValue (D : Oracle false) (i0_0 : Int) (s0_1 : ByteArray) (e0_2 : List (List (Leaf false))) (e0_3 : List (List (Leaf false))) (i1_0 : Int) (s1_1 : ByteArray) (e1_2 : List (List (Leaf false))) (e1_3 : List (List (Leaf false))) : run2V Go.Proofs.Try.prog D Go.Vs.Hs limR F.spec_SameValue [SV.agg [Leaf.int Go.IntKind.i64 i0_0, Leaf.str s0_1, Leaf.sl fP e0_2, Leaf.sl fP e0_3],
 SV.agg [Leaf.int Go.IntKind.i64 i1_0, Leaf.str s1_1, Leaf.sl fP e1_2, Leaf.sl fP e1_3]] [] =
  branch ((i0_0 != i1_0) == false)
 (branch ((!s0_1.toList == s1_1.toList) == false)
  (branch (((↑e0_2.length : Int) != (↑e1_2.length : Int)) == false)
   (spec_SameValue_A D
    (spec_SameValue_0 ((↑e0_3.length : Int) != (↑e1_3.length : Int)) i0_0 s0_1 e0_2 e0_3 i1_0 s1_1 e1_2 e1_3))
   (spec_SameValue_A D (spec_SameValue_0 true i0_0 s0_1 e0_2 e0_3 i1_0 s1_1 e1_2 e1_3)))
  (spec_SameValue_A D (spec_SameValue_0 true i0_0 s0_1 e0_2 e0_3 i1_0 s1_1 e1_2 e1_3)))
 (spec_SameValue_A D (spec_SameValue_0 true i0_0 s0_1 e0_2 e0_3 i1_0 s1_1 e1_2 e1_3)) := by
  refine (run_names (J := spec_SameValue_A D) (by kernel_rfl) (fun _ _ => rfl) [[1, 0, 1], [1, 1, 0, 1, 0], [1, 1, 1, 0, 1, 0]]).trans ?_
  generalize spec_SameValue_A D = J
  revert J
  refine id ?_
  intro J
  kernel_rfl
-- FN 51 slices_IndexFunc_S_impl_InDef_impl_InDef_c1p1
noncomputable def slices_IndexFunc_S_impl_InDef_impl_InDef_c1p1_A (D : Oracle false) (x : List Nat × St false) : Option (SV false × List (List (SV false))) := atF Go.Proofs.Try.prog D Go.Vs.Hs F.slices_IndexFunc_S_impl_InDef_impl_InDef x.1 1 x.2
def slices_IndexFunc_S_impl_InDef_impl_InDef_c1p1_0 (e0 : List (List (Leaf false))) (n1 : Nat) (i7 : Int) (i8 : Int) (sx19_0 : ByteArray) : List Nat × St false := ([1, 0, 1, 0], St.mk
 [SV.leaf (Leaf.sl fP e0), SV.fn n1 [SV.ptr 19 0], SV.any, SV.any, SV.any, SV.any, SV.any,
  SV.leaf (Leaf.int Go.IntKind.i64 i7), SV.leaf (Leaf.int Go.IntKind.i64 i8), SV.any, SV.any, SV.any, SV.any, SV.any,
  SV.any, SV.any, SV.any, SV.any, SV.any]
 [none, none, none, none, none, none, none, none, none, none, none, none, none, none, none, none, none, none, none,
  some [SV.leaf (Leaf.str sx19_0)]])
theorem slices_IndexFunc_S_impl_InDef_impl_InDef_c1p1_0_eq (D : Oracle false) (e0 : List (List (Leaf false))) (n1 : Nat) (i7 : Int) (i8 : Int) (sx19_0 : ByteArray) : slices_IndexFunc_S_impl_InDef_impl_InDef_c1p1_A D (slices_IndexFunc_S_impl_InDef_impl_InDef_c1p1_0 e0 n1 i7 i8 sx19_0) =
  branch (decide (i8 < i7))
 (guarded (decide (0 ≤ i8) && decide (i8 < (↑e0.length : Int)) && sized 10 e0)
  (bindE (e0.getD i8.toNat []) fun (e : List (Leaf false)) =>
   atK e 0 fun (l : Leaf false) =>
    strK l fun (s : ByteArray) =>
     atK e 1 fun (l : Leaf false) =>
      strK l fun (s_1 : ByteArray) =>
       atK e 2 fun (l : Leaf false) =>
        strK l fun (s_2 : ByteArray) =>
         atK e 3 fun (l : Leaf false) =>
          strK l fun (s_3 : ByteArray) =>
           atK e 4 fun (l : Leaf false) =>
            boolK l fun (b : Bool) =>
             atK e 5 fun (l : Leaf false) =>
              intK Go.IntKind.i64 l fun (n : Int) =>
               atK e 6 fun (l : Leaf false) =>
                strK l fun (s_4 : ByteArray) =>
                 atK e 7 fun (l : Leaf false) =>
                  slK l fun (c : Fl false) (es : List (List (Leaf false))) =>
                   atK e 8 fun (l : Leaf false) =>
                    slK l fun (c : Fl false) (es_1 : List (List (Leaf false))) =>
                     atK e 9 fun (l : Leaf false) =>
                      slK l fun (c : Fl false) (es_2 : List (List (Leaf false))) =>
                       (D n1
                          [SV.agg
                            [Leaf.str s, Leaf.str s_1, Leaf.str s_2, Leaf.str s_3, Leaf.bool b,
                             Leaf.int Go.IntKind.i64 n, Leaf.str s_4, Leaf.sl fP es, Leaf.sl fP es_1, Leaf.sl fP es_2],
                           SV.ptr 0 0]
                          [[SV.leaf (Leaf.str sx19_0)]]).bind
                        fun (r : SV false × List (List (SV false))) =>
                        headB r.snd fun (d : List (SV false)) (r_1 : List (List (SV false))) =>
                         headK d fun (d : SV false) (r_2 : List (SV false)) =>
                          svLeafK d fun (l : Leaf false) =>
                           strK l fun (s : ByteArray) =>
                            lastK r_2
                             (lastB r_1
                              (svLeafK r.fst fun (l : Leaf false) =>
                               boolK l fun (b : Bool) =>
                                branch b (some (SV.leaf (Leaf.int Go.IntKind.i64 i8), [[SV.leaf (Leaf.str s)]]))
                                 (slices_IndexFunc_S_impl_InDef_impl_InDef_c1p1_A D
                                  (slices_IndexFunc_S_impl_InDef_impl_InDef_c1p1_0 e0 n1 i7
                                   (Go.IntKind.i64.wrap (i8 + 1)) s))))))
 (some (SV.leaf (Leaf.int Go.IntKind.i64 (-1)), [[SV.leaf (Leaf.str sx19_0)]])) := by
  refine (nameF_eq (J := slices_IndexFunc_S_impl_InDef_impl_InDef_c1p1_A D) (fun _ _ => rfl) [[1, 0, 1, 0]] (slices_IndexFunc_S_impl_InDef_impl_InDef_c1p1_0 e0 n1 i7 i8 sx19_0)).trans ?_
  generalize slices_IndexFunc_S_impl_InDef_impl_InDef_c1p1_A D = J
  revert J
  refine id ?_
  intro J
  kernel_rfl
theorem run_slices_IndexFunc_S_impl_InDef_impl_InDef_c1p1 (D : Oracle false) (e0 : List (List (Leaf false))) (n1 : Nat) (sb0_0 : ByteArray) : run2V Go.Proofs.Try.prog D Go.Vs.Hs limR F.slices_IndexFunc_S_impl_InDef_impl_InDef [SV.leaf (Leaf.sl fP e0), SV.fn n1 [SV.ptr 0 0]] [[SV.leaf (Leaf.str sb0_0)]] =
  slices_IndexFunc_S_impl_InDef_impl_InDef_c1p1_A D
 (slices_IndexFunc_S_impl_InDef_impl_InDef_c1p1_0 e0 n1 (↑e0.length : Int) 0 sb0_0) := by
  refine (run_names (J := slices_IndexFunc_S_impl_InDef_impl_InDef_c1p1_A D) (by kernel_rfl) (fun _ _ => rfl) [[1, 0, 1, 0]]).trans ?_
  generalize slices_IndexFunc_S_impl_InDef_impl_InDef_c1p1_A D = J
  revert J
  refine id ?_
  intro J
  kernel_rfl
-- FN 53 impl_unwrapped
noncomputable def impl_unwrapped_A (D : Oracle false) (x : List Nat × St false) : Option (SV false × List (List (SV false))) := atF Go.Proofs.Try.prog D Go.Vs.Hs F.impl_unwrapped x.1 0 x.2
theorem run_impl_unwrapped (D : Oracle false) (s0_0 : ByteArray) (s0_1 : ByteArray) (s1 : ByteArray) : run2V Go.Proofs.Try.prog D Go.Vs.Hs limR F.impl_unwrapped [SV.agg [Leaf.str s0_0, Leaf.str s0_1], SV.leaf (Leaf.str s1)] [] =
  (D F.strings_CutSuffix [SV.leaf (Leaf.str s0_1), SV.leaf (Leaf.str s1)] []).bind
 fun (r : SV false × List (List (SV false))) =>
 svTupK r.fst fun (vs : List (SV false)) =>
  headK vs fun (v : SV false) (r : List (SV false)) =>
   svLeafK v fun (l : Leaf false) =>
    strK l fun (s : ByteArray) =>
     headK r fun (v : SV false) (r : List (SV false)) =>
      svLeafK v fun (l : Leaf false) =>
       boolK l fun (b : Bool) => lastK r (some (SV.tup [SV.agg [Leaf.str s0_0, Leaf.str s], SV.leaf (Leaf.bool b)], [])) := by
  refine (run_names (J := impl_unwrapped_A D) (by kernel_rfl) (fun _ _ => rfl) []).trans ?_
  generalize impl_unwrapped_A D = J
  revert J
  refine id ?_
  intro J
  kernel_rfl
-- FN 54 strings_HasSuffix
noncomputable def strings_HasSuffix_A (D : Oracle false) (x : List Nat × St false) : Option (SV false × List (List (SV false))) := atF Go.Proofs.Try.prog D Go.Vs.Hs F.strings_HasSuffix x.1 0 x.2
theorem run_strings_HasSuffix (D : Oracle false) (s0 : ByteArray) (s1 : ByteArray) : run2V Go.Proofs.Try.prog D Go.Vs.Hs limR F.strings_HasSuffix [SV.leaf (Leaf.str s0), SV.leaf (Leaf.str s1)] [] =
  (D F.internal_stringslite_HasSuffix [SV.leaf (Leaf.str s0), SV.leaf (Leaf.str s1)] []).bind
 fun (r : SV false × List (List (SV false))) =>
 svLeafK r.fst fun (l : Leaf false) => boolK l fun (b : Bool) => some (SV.leaf (Leaf.bool b), []) := by
  refine (run_names (J := strings_HasSuffix_A D) (by kernel_rfl) (fun _ _ => rfl) []).trans ?_
  generalize strings_HasSuffix_A D = J
  revert J
  refine id ?_
  intro J
  kernel_rfl
-- FN 55 slices_Equal_S_string_string
noncomputable def slices_Equal_S_string_string_A (D : Oracle false) (x : List Nat × St false) : Option (SV false × List (List (SV false))) := atF Go.Proofs.Try.prog D Go.Vs.Hs F.slices_Equal_S_string_string x.1 0 x.2
def slices_Equal_S_string_string_0 (e0 : List (List (Leaf false))) (e1 : List (List (Leaf false))) (i12 : Int) (i13 : Int) : List Nat × St false := ([1, 1, 0, 1, 0], St.mk
 [SV.leaf (Leaf.sl fP e0), SV.leaf (Leaf.sl fP e1), SV.any, SV.any, SV.any, SV.any, SV.any, SV.any, SV.any, SV.any,
  SV.any, SV.any, SV.leaf (Leaf.int Go.IntKind.i64 i12), SV.leaf (Leaf.int Go.IntKind.i64 i13), SV.any, SV.any, SV.any,
  SV.any, SV.any, SV.any, SV.any, SV.any, SV.any, SV.any, SV.any, SV.any]
 [none, none, none, none, none, none, none, none, none, none, none, none, none, none, none, none, none, none, none,
  none, none, none, none, none, none, none])
theorem slices_Equal_S_string_string_0_eq (D : Oracle false) (e0 : List (List (Leaf false))) (e1 : List (List (Leaf false))) (i12 : Int) (i13 : Int) : slices_Equal_S_string_string_A D (slices_Equal_S_string_string_0 e0 e1 i12 i13) =
  branch (decide (i13 < i12))
 (guarded (decide (0 ≤ i13) && decide (i13 < (↑e0.length : Int)) && sized 1 e0)
  (atK (e0.getD i13.toNat []) 0 fun (l : Leaf false) =>
   strK l fun (s : ByteArray) =>
    guarded (decide (0 ≤ i13) && decide (i13 < (↑e1.length : Int)) && sized 1 e1)
     (atK (e1.getD i13.toNat []) 0 fun (l : Leaf false) =>
      strK l fun (s_1 : ByteArray) =>
       branch (!s.toList == s_1.toList) (some (SV.leaf (Leaf.bool false), []))
        (slices_Equal_S_string_string_A D (slices_Equal_S_string_string_0 e0 e1 i12 (Go.IntKind.i64.wrap (i13 + 1)))))))
 (some (SV.leaf (Leaf.bool true), [])) := by
  refine (nameF_eq (J := slices_Equal_S_string_string_A D) (fun _ _ => rfl) [[1, 1, 0, 1, 0]] (slices_Equal_S_string_string_0 e0 e1 i12 i13)).trans ?_
  generalize slices_Equal_S_string_string_A D = J
  revert J
  refine id ?_
  intro J
  kernel_rfl
theorem run_slices_Equal_S_string_string (D : Oracle false) (e0 : List (List (Leaf false))) (e1 : List (List (Leaf false))) : run2V Go.Proofs.Try.prog D Go.Vs.Hs limR F.slices_Equal_S_string_string [SV.leaf (Leaf.sl fP e0), SV.leaf (Leaf.sl fP e1)] [] =
  branch ((↑e0.length : Int) != (↑e1.length : Int)) (some (SV.leaf (Leaf.bool false), []))
 (slices_Equal_S_string_string_A D (slices_Equal_S_string_string_0 e0 e1 (↑e0.length : Int) 0)) := by
  refine (run_names (J := slices_Equal_S_string_string_A D) (by kernel_rfl) (fun _ _ => rfl) [[1, 1, 0, 1, 0]]).trans ?_
  generalize slices_Equal_S_string_string_A D = J
  revert J
  refine id ?_
  intro J
  kernel_rfl
-- FN 56 slices_EqualFunc_S_impl_Value_S_impl_Value_impl_Value_impl_Value_c0
noncomputable def slices_EqualFunc_S_impl_Value_S_impl_Value_impl_Value_impl_Value_c0_A (D : Oracle false) (x : List Nat × St false) : Option (SV false × List (List (SV false))) := atF Go.Proofs.Try.prog D Go.Vs.Hs F.slices_EqualFunc_S_impl_Value_S_impl_Value_impl_Value_impl_Value x.1 0 x.2
def slices_EqualFunc_S_impl_Value_S_impl_Value_impl_Value_impl_Value_c0_0 (e1 : List (List (Leaf false))) (n2 : Nat) (e15 : List (List (Leaf false))) (i16 : Int) (i17 : Int) : List Nat × St false := ([1, 1, 0, 1, 0], St.mk
 [SV.any, SV.leaf (Leaf.sl fP e1), SV.fn n2 [], SV.any, SV.any, SV.any, SV.any, SV.any, SV.any, SV.any, SV.any, SV.any,
  SV.any, SV.any, SV.any, SV.leaf (Leaf.sl fP e15), SV.leaf (Leaf.int Go.IntKind.i64 i16),
  SV.leaf (Leaf.int Go.IntKind.i64 i17), SV.any, SV.any, SV.any, SV.any, SV.any, SV.any, SV.any, SV.any, SV.any, SV.any,
  SV.any, SV.any, SV.any, SV.any]
 [none, none, none, none, none, none, none, none, none, none, none, none, none, none, none, none, none, none, none,
  none, none, none, none, none, none, none, none, none, none, none, none, none])
theorem slices_EqualFunc_S_impl_Value_S_impl_Value_impl_Value_impl_Value_c0_0_eq (D : Oracle false) (e1 : List (List (Leaf false))) (n2 : Nat) (e15 : List (List (Leaf false))) (i16 : Int) (i17 : Int) : slices_EqualFunc_S_impl_Value_S_impl_Value_impl_Value_impl_Value_c0_A D (slices_EqualFunc_S_impl_Value_S_impl_Value_impl_Value_impl_Value_c0_0 e1 n2 e15 i16 i17) =
  branch (decide (i17 < i16))
 (guarded (decide (0 ≤ i17) && decide (i17 < (↑e15.length : Int)) && sized 4 e15)
  (bindE (e15.getD i17.toNat []) fun (e : List (Leaf false)) =>
   atK e 0 fun (l : Leaf false) =>
    intK Go.IntKind.i64 l fun (n : Int) =>
     atK e 1 fun (l : Leaf false) =>
      strK l fun (s : ByteArray) =>
       atK e 2 fun (l : Leaf false) =>
        slK l fun (c : Fl false) (es : List (List (Leaf false))) =>
         atK e 3 fun (l : Leaf false) =>
          slK l fun (c : Fl false) (es_1 : List (List (Leaf false))) =>
           guarded (decide (0 ≤ i17) && decide (i17 < (↑e1.length : Int)) && sized 4 e1)
            (bindE (e1.getD i17.toNat []) fun (e : List (Leaf false)) =>
             atK e 0 fun (l : Leaf false) =>
              intK Go.IntKind.i64 l fun (n_1 : Int) =>
               atK e 1 fun (l : Leaf false) =>
                strK l fun (s_1 : ByteArray) =>
                 atK e 2 fun (l : Leaf false) =>
                  slK l fun (c : Fl false) (es_2 : List (List (Leaf false))) =>
                   atK e 3 fun (l : Leaf false) =>
                    slK l fun (c : Fl false) (es_3 : List (List (Leaf false))) =>
                     (D n2
                        [SV.agg [Leaf.int Go.IntKind.i64 n, Leaf.str s, Leaf.sl fP es, Leaf.sl fP es_1],
                         SV.agg [Leaf.int Go.IntKind.i64 n_1, Leaf.str s_1, Leaf.sl fP es_2, Leaf.sl fP es_3]]
                        []).bind
                      fun (r : SV false × List (List (SV false))) =>
                      lastB r.snd
                       (svLeafK r.fst fun (l : Leaf false) =>
                        boolK l fun (b : Bool) =>
                         branch (!b) (some (SV.leaf (Leaf.bool false), []))
                          (slices_EqualFunc_S_impl_Value_S_impl_Value_impl_Value_impl_Value_c0_A D
                           (slices_EqualFunc_S_impl_Value_S_impl_Value_impl_Value_impl_Value_c0_0 e1 n2 e15 i16
                            (Go.IntKind.i64.wrap (i17 + 1))))))))
 (some (SV.leaf (Leaf.bool true), [])) := by
  refine (nameF_eq (J := slices_EqualFunc_S_impl_Value_S_impl_Value_impl_Value_impl_Value_c0_A D) (fun _ _ => rfl) [[1, 1, 0, 1, 0]] (slices_EqualFunc_S_impl_Value_S_impl_Value_impl_Value_impl_Value_c0_0 e1 n2 e15 i16 i17)).trans ?_
  generalize slices_EqualFunc_S_impl_Value_S_impl_Value_impl_Value_impl_Value_c0_A D = J
  revert J
  refine id ?_
  intro J
  kernel_rfl
theorem run_slices_EqualFunc_S_impl_Value_S_impl_Value_impl_Value_impl_Value_c0 (D : Oracle false) (e0 : List (List (Leaf false))) (e1 : List (List (Leaf false))) (n2 : Nat) : run2V Go.Proofs.Try.prog D Go.Vs.Hs limR F.slices_EqualFunc_S_impl_Value_S_impl_Value_impl_Value_impl_Value [SV.leaf (Leaf.sl fP e0), SV.leaf (Leaf.sl fP e1), SV.fn n2 []] [] =
  branch ((↑e0.length : Int) != (↑e1.length : Int)) (some (SV.leaf (Leaf.bool false), []))
 (slices_EqualFunc_S_impl_Value_S_impl_Value_impl_Value_impl_Value_c0_A D
  (slices_EqualFunc_S_impl_Value_S_impl_Value_impl_Value_impl_Value_c0_0 e1 n2 e0 (↑e0.length : Int) 0)) := by
  refine (run_names (J := slices_EqualFunc_S_impl_Value_S_impl_Value_impl_Value_impl_Value_c0_A D) (by kernel_rfl) (fun _ _ => rfl) [[1, 1, 0, 1, 0]]).trans ?_
  generalize slices_EqualFunc_S_impl_Value_S_impl_Value_impl_Value_impl_Value_c0_A D = J
  revert J
  refine id ?_
  intro J
  kernel_rfl
-- FN 25 laws_eqChange
noncomputable def laws_eqChange_A (D : Oracle false) (x : List Nat × St false) : Option (SV false × List (List (SV false))) := atF Go.Proofs.Try.prog D Go.Vs.Hs F.laws_eqChange x.1 0 x.2
theorem run_laws_eqChange (D : Oracle false) (i0_0 : Int) (s0_1 : ByteArray) (s0_2 : ByteArray) (i1_0 : Int) (s1_1 : ByteArray) (s1_2 : ByteArray) : run2V Go.Proofs.Try.prog D Go.Vs.Hs limR F.laws_eqChange [SV.agg [Leaf.int Go.IntKind.i64 i0_0, Leaf.str s0_1, Leaf.str s0_2],
 SV.agg [Leaf.int Go.IntKind.i64 i1_0, Leaf.str s1_1, Leaf.str s1_2]] [] =
  branch (i0_0 != i1_0) (some (SV.leaf (Leaf.bool false), []))
 (branch (!s0_1.toList == s1_1.toList) (some (SV.leaf (Leaf.bool false), []))
  (branch (!s0_2.toList == s1_2.toList) (some (SV.leaf (Leaf.bool false), [])) (some (SV.leaf (Leaf.bool true), [])))) := by
  refine (run_names (J := laws_eqChange_A D) (by kernel_rfl) (fun _ _ => rfl) []).trans ?_
  generalize laws_eqChange_A D = J
  revert J
  refine id ?_
  intro J
  kernel_rfl
-- FN 38 laws_eqInDef
noncomputable def laws_eqInDef_A (D : Oracle false) (x : List Nat × St false) : Option (SV false × List (List (SV false))) := atF Go.Proofs.Try.prog D Go.Vs.Hs F.laws_eqInDef x.1 0 x.2
theorem run_laws_eqInDef (D : Oracle false) (s0_0 : ByteArray) (s0_1 : ByteArray) (s0_2 : ByteArray) (s0_3 : ByteArray) (b0_4 : Bool) (i0_5 : Int) (s0_6 : ByteArray) (e0_7 : List (List (Leaf false))) (e0_8 : List (List (Leaf false))) (e0_9 : List (List (Leaf false))) (s1_0 : ByteArray) (s1_1 : ByteArray) (s1_2 : ByteArray) (s1_3 : ByteArray) (b1_4 : Bool) (i1_5 : Int) (s1_6 : ByteArray) (e1_7 : List (List (Leaf false))) (e1_8 : List (List (Leaf false))) (e1_9 : List (List (Leaf false))) : run2V Go.Proofs.Try.prog D Go.Vs.Hs limR F.laws_eqInDef [SV.agg
  [Leaf.str s0_0, Leaf.str s0_1, Leaf.str s0_2, Leaf.str s0_3, Leaf.bool b0_4, Leaf.int Go.IntKind.i64 i0_5,
   Leaf.str s0_6, Leaf.sl fP e0_7, Leaf.sl fP e0_8, Leaf.sl fP e0_9],
 SV.agg
  [Leaf.str s1_0, Leaf.str s1_1, Leaf.str s1_2, Leaf.str s1_3, Leaf.bool b1_4, Leaf.int Go.IntKind.i64 i1_5,
   Leaf.str s1_6, Leaf.sl fP e1_7, Leaf.sl fP e1_8, Leaf.sl fP e1_9]] [] =
  branch (!s0_0.toList == s1_0.toList) (some (SV.leaf (Leaf.bool false), []))
 (branch (!s0_1.toList == s1_1.toList) (some (SV.leaf (Leaf.bool false), []))
  ((D F.laws_eqType [SV.agg [Leaf.str s0_2, Leaf.str s0_3], SV.agg [Leaf.str s1_2, Leaf.str s1_3]] []).bind
   fun (r : SV false × List (List (SV false))) =>
   svLeafK r.fst fun (l : Leaf false) =>
    boolK l fun (b : Bool) =>
     branch (!b) (some (SV.leaf (Leaf.bool false), []))
      (branch (!b0_4 == b1_4) (some (SV.leaf (Leaf.bool false), []))
       ((D F.laws_eqValue
          [SV.agg [Leaf.int Go.IntKind.i64 i0_5, Leaf.str s0_6, Leaf.sl fP e0_7, Leaf.sl fP e0_8],
           SV.agg [Leaf.int Go.IntKind.i64 i1_5, Leaf.str s1_6, Leaf.sl fP e1_7, Leaf.sl fP e1_8]]
          []).bind
        fun (r : SV false × List (List (SV false))) =>
        svLeafK r.fst fun (l : Leaf false) =>
         boolK l fun (b : Bool) =>
          branch (!b) (some (SV.leaf (Leaf.bool false), []))
           ((D F.laws_eqDirS [SV.leaf (Leaf.sl fP e0_9), SV.leaf (Leaf.sl fP e1_9)] []).bind
            fun (r : SV false × List (List (SV false))) =>
            svLeafK r.fst fun (l : Leaf false) =>
             boolK l fun (b : Bool) =>
              branch (!b) (some (SV.leaf (Leaf.bool false), [])) (some (SV.leaf (Leaf.bool true), []))))))) := by
  refine (run_names (J := laws_eqInDef_A D) (by kernel_rfl) (fun _ _ => rfl) []).trans ?_
  generalize laws_eqInDef_A D = J
  revert J
  refine id ?_
  intro J
  kernel_rfl
-- FN 45 laws_szType
noncomputable def laws_szType_A (D : Oracle false) (x : List Nat × St false) : Option (SV false × List (List (SV false))) := atF Go.Proofs.Try.prog D Go.Vs.Hs F.laws_szType x.1 0 x.2
theorem run_laws_szType (D : Oracle false) (s0_0 : ByteArray) (s0_1 : ByteArray) (i1 : Int) : run2V Go.Proofs.Try.prog D Go.Vs.Hs limR F.laws_szType [SV.agg [Leaf.str s0_0, Leaf.str s0_1], SV.leaf (Leaf.int Go.IntKind.i64 i1)] [] =
  branch (decide (Go.IntKind.i64.wrap (i1 - (↑s0_0.size : Int)) < 0)) (some (SV.leaf (Leaf.int Go.IntKind.i64 (-1)), []))
 (branch (decide (Go.IntKind.i64.wrap (Go.IntKind.i64.wrap (i1 - (↑s0_0.size : Int)) - (↑s0_1.size : Int)) < 0))
  (some (SV.leaf (Leaf.int Go.IntKind.i64 (-1)), []))
  (some
   (SV.leaf
     (Leaf.int Go.IntKind.i64
      (Go.IntKind.i64.wrap (Go.IntKind.i64.wrap (i1 - (↑s0_0.size : Int)) - (↑s0_1.size : Int)))),
    []))) := by
  refine (run_names (J := laws_szType_A D) (by kernel_rfl) (fun _ _ => rfl) []).trans ?_
  generalize laws_szType_A D = J
  revert J
  refine id ?_
  intro J
  kernel_rfl
-- FN 46 laws_szValue
noncomputable def laws_szValue_A (D : Oracle false) (x : List Nat × St false) : Option (SV false × List (List (SV false))) := atF Go.Proofs.Try.prog D Go.Vs.Hs F.laws_szValue x.1 0 x.2
theorem run_laws_szValue (D : Oracle false) (i0_0 : Int) (s0_1 : ByteArray) (e0_2 : List (List (Leaf false))) (e0_3 : List (List (Leaf false))) (i1 : Int) : run2V Go.Proofs.Try.prog D Go.Vs.Hs limR F.laws_szValue [SV.agg [Leaf.int Go.IntKind.i64 i0_0, Leaf.str s0_1, Leaf.sl fP e0_2, Leaf.sl fP e0_3],
 SV.leaf (Leaf.int Go.IntKind.i64 i1)] [] =
  branch (decide (Go.IntKind.i64.wrap (i1 - (↑s0_1.size : Int)) < 0)) (some (SV.leaf (Leaf.int Go.IntKind.i64 (-1)), []))
 ((D F.laws_szValueS
    [SV.leaf (Leaf.sl fP e0_2), SV.leaf (Leaf.int Go.IntKind.i64 (Go.IntKind.i64.wrap (i1 - (↑s0_1.size : Int))))]
    []).bind
  fun (r : SV false × List (List (SV false))) =>
  svLeafK r.fst fun (l : Leaf false) =>
   intK Go.IntKind.i64 l fun (n : Int) =>
    branch (decide (n < 0)) (some (SV.leaf (Leaf.int Go.IntKind.i64 (-1)), []))
     ((D F.laws_szStringS [SV.leaf (Leaf.sl fP e0_3), SV.leaf (Leaf.int Go.IntKind.i64 n)] []).bind
      fun (r : SV false × List (List (SV false))) =>
      svLeafK r.fst fun (l : Leaf false) =>
       intK Go.IntKind.i64 l fun (n : Int) =>
        branch (decide (n < 0)) (some (SV.leaf (Leaf.int Go.IntKind.i64 (-1)), []))
         (some (SV.leaf (Leaf.int Go.IntKind.i64 n), [])))) := by
  refine (run_names (J := laws_szValue_A D) (by kernel_rfl) (fun _ _ => rfl) []).trans ?_
  generalize laws_szValue_A D = J
  revert J
  refine id ?_
  intro J
  kernel_rfl
-- FN 47 laws_szDirS
noncomputable def laws_szDirS_A (D : Oracle false) (x : List Nat × St false) : Option (SV false × List (List (SV false))) := atF Go.Proofs.Try.prog D Go.Vs.Hs F.laws_szDirS x.1 0 x.2
def laws_szDirS_0 (e0 : List (List (Leaf false))) (i1 : Int) (i5 : Int) : List Nat × St false := ([1, 1, 1, 0, 1, 0], St.mk
 [SV.leaf (Leaf.sl fP e0), SV.leaf (Leaf.int Go.IntKind.i64 i1), SV.any, SV.any, SV.any,
  SV.leaf (Leaf.int Go.IntKind.i64 i5), SV.any, SV.any, SV.any, SV.any, SV.any, SV.any, SV.any, SV.any, SV.any, SV.any,
  SV.any, SV.any, SV.any, SV.any, SV.any, SV.any, SV.any, SV.any, SV.any, SV.any, SV.any]
 [none, none, none, none, none, none, none, none, none, none, none, none, none, none, none, none, none, none, none,
  none, none, none, none, none, none, none, none])
theorem laws_szDirS_0_eq (D : Oracle false) (e0 : List (List (Leaf false))) (i1 : Int) (i5 : Int) : laws_szDirS_A D (laws_szDirS_0 e0 i1 i5) =
  branch (decide (i5 < (↑e0.length : Int)))
 (guarded (decide (0 ≤ i5) && decide (i5 < (↑e0.length : Int)) && sized 2 e0)
  (bindE (e0.getD i5.toNat []) fun (e : List (Leaf false)) =>
   atK e 0 fun (l : Leaf false) =>
    strK l fun (s : ByteArray) =>
     atK e 1 fun (l : Leaf false) =>
      slK l fun (c : Fl false) (es : List (List (Leaf false))) =>
       (D F.laws_szDir [SV.agg [Leaf.str s, Leaf.sl fP es], SV.leaf (Leaf.int Go.IntKind.i64 i1)] []).bind
        fun (r : SV false × List (List (SV false))) =>
        svLeafK r.fst fun (l : Leaf false) =>
         intK Go.IntKind.i64 l fun (n : Int) =>
          branch (decide (n < 0)) (some (SV.leaf (Leaf.int Go.IntKind.i64 (-1)), []))
           (laws_szDirS_A D (laws_szDirS_0 e0 n (Go.IntKind.i64.wrap (i5 + 1))))))
 (some (SV.leaf (Leaf.int Go.IntKind.i64 i1), [])) := by
  refine (nameF_eq (J := laws_szDirS_A D) (fun _ _ => rfl) [[1, 1, 1, 0, 1, 0]] (laws_szDirS_0 e0 i1 i5)).trans ?_
  generalize laws_szDirS_A D = J
  revert J
  refine id ?_
  intro J
  kernel_rfl
theorem run_laws_szDirS (D : Oracle false) (e0 : List (List (Leaf false))) (i1 : Int) : run2V Go.Proofs.Try.prog D Go.Vs.Hs limR F.laws_szDirS [SV.leaf (Leaf.sl fP e0), SV.leaf (Leaf.int Go.IntKind.i64 i1)] [] =
  branch (decide (Go.IntKind.i64.wrap (i1 - (↑e0.length : Int)) < 0)) (some (SV.leaf (Leaf.int Go.IntKind.i64 (-1)), []))
 (laws_szDirS_A D (laws_szDirS_0 e0 (Go.IntKind.i64.wrap (i1 - (↑e0.length : Int))) 0)) := by
  refine (run_names (J := laws_szDirS_A D) (by kernel_rfl) (fun _ _ => rfl) [[1, 1, 1, 0, 1, 0]]).trans ?_
  generalize laws_szDirS_A D = J
  revert J
  refine id ?_
  intro J
  kernel_rfl
-- FN 52 impl_InAt_1
noncomputable def impl_InAt_1_A (D : Oracle false) (x : List Nat × St false) : Option (SV false × List (List (SV false))) := atF Go.Proofs.Try.prog D Go.Vs.Hs F.impl_InAt_1 x.1 1 x.2
theorem run_impl_InAt_1 (D : Oracle false) (s0_0 : ByteArray) (s0_1 : ByteArray) (s0_2 : ByteArray) (s0_3 : ByteArray) (b0_4 : Bool) (i0_5 : Int) (s0_6 : ByteArray) (e0_7 : List (List (Leaf false))) (e0_8 : List (List (Leaf false))) (e0_9 : List (List (Leaf false))) (sb0_0 : ByteArray) : run2V Go.Proofs.Try.prog D Go.Vs.Hs limR F.impl_InAt_1 [SV.agg
  [Leaf.str s0_0, Leaf.str s0_1, Leaf.str s0_2, Leaf.str s0_3, Leaf.bool b0_4, Leaf.int Go.IntKind.i64 i0_5,
   Leaf.str s0_6, Leaf.sl fP e0_7, Leaf.sl fP e0_8, Leaf.sl fP e0_9],
 SV.ptr 0 0] [[SV.leaf (Leaf.str sb0_0)]] =
  some (SV.leaf (Leaf.bool (s0_0.toList == sb0_0.toList)), [[SV.leaf (Leaf.str sb0_0)]]) := by
  refine (run_names (J := impl_InAt_1_A D) (by kernel_rfl) (fun _ _ => rfl) []).trans ?_
  generalize impl_InAt_1_A D = J
  revert J
  refine id ?_
  intro J
  kernel_rfl
-- FN 67 strings_CutSuffix
noncomputable def strings_CutSuffix_A (D : Oracle false) (x : List Nat × St false) : Option (SV false × List (List (SV false))) := atF Go.Proofs.Try.prog D Go.Vs.Hs F.strings_CutSuffix x.1 0 x.2
theorem run_strings_CutSuffix (D : Oracle false) (s0 : ByteArray) (s1 : ByteArray) : run2V Go.Proofs.Try.prog D Go.Vs.Hs limR F.strings_CutSuffix [SV.leaf (Leaf.str s0), SV.leaf (Leaf.str s1)] [] =
  (D F.internal_stringslite_CutSuffix [SV.leaf (Leaf.str s0), SV.leaf (Leaf.str s1)] []).bind
 fun (r : SV false × List (List (SV false))) =>
 svTupK r.fst fun (vs : List (SV false)) =>
  headK vs fun (v : SV false) (r : List (SV false)) =>
   svLeafK v fun (l : Leaf false) =>
    strK l fun (s : ByteArray) =>
     headK r fun (v : SV false) (r : List (SV false)) =>
      svLeafK v fun (l : Leaf false) =>
       boolK l fun (b : Bool) => lastK r (some (SV.tup [SV.leaf (Leaf.str s), SV.leaf (Leaf.bool b)], [])) := by
  refine (run_names (J := strings_CutSuffix_A D) (by kernel_rfl) (fun _ _ => rfl) []).trans ?_
  generalize strings_CutSuffix_A D = J
  revert J
  refine id ?_
  intro J
  kernel_rfl
-- FN 68 internal_stringslite_HasSuffix
noncomputable def internal_stringslite_HasSuffix_A (D : Oracle false) (x : List Nat × St false) : Option (SV false × List (List (SV false))) := atF Go.Proofs.Try.prog D Go.Vs.Hs F.internal_stringslite_HasSuffix x.1 0 x.2
theorem run_internal_stringslite_HasSuffix (D : Oracle false) (s0 : ByteArray) (s1 : ByteArray) : run2V Go.Proofs.Try.prog D Go.Vs.Hs limR F.internal_stringslite_HasSuffix [SV.leaf (Leaf.str s0), SV.leaf (Leaf.str s1)] [] =
  branch (decide ((↑s0.size : Int) ≥ (↑s1.size : Int)) == true)
 (guarded
  (decide (0 ≤ Go.IntKind.i64.wrap ((↑s0.size : Int) - (↑s1.size : Int))) && true &&
   (decide
     (((decide (0 ≤ Go.IntKind.i64.wrap ((↑s0.size : Int) - (↑s1.size : Int))),
            (Go.IntKind.i64.wrap ((↑s0.size : Int) - (↑s1.size : Int))).toNat).fst,
          some
           (decide (0 ≤ Go.IntKind.i64.wrap ((↑s0.size : Int) - (↑s1.size : Int))),
             (Go.IntKind.i64.wrap ((↑s0.size : Int) - (↑s1.size : Int))).toNat).snd).snd.getD
       0 ≤
      (true, none).snd.getD s0.size) &&
    decide ((true, none).snd.getD s0.size ≤ s0.size)))
  (some
   (SV.leaf
     (Leaf.bool
      ((s0.extract
         (((fun (p : Bool × Nat) => (p.fst, some p.snd))
             (decide (0 ≤ Go.IntKind.i64.wrap ((↑s0.size : Int) - (↑s1.size : Int))),
              (Go.IntKind.i64.wrap ((↑s0.size : Int) - (↑s1.size : Int))).toNat)).snd.getD
          0)
         ((true, none).snd.getD s0.size)).toList ==
       s1.toList)),
    [])))
 (some (SV.leaf (Leaf.bool false), [])) := by
  refine (run_names (J := internal_stringslite_HasSuffix_A D) (by kernel_rfl) (fun _ _ => rfl) []).trans ?_
  generalize internal_stringslite_HasSuffix_A D = J
  revert J
  refine id ?_
  intro J
  kernel_rfl
-- FN 57 laws_eqType
noncomputable def laws_eqType_A (D : Oracle false) (x : List Nat × St false) : Option (SV false × List (List (SV false))) := atF Go.Proofs.Try.prog D Go.Vs.Hs F.laws_eqType x.1 0 x.2
theorem run_laws_eqType (D : Oracle false) (s0_0 : ByteArray) (s0_1 : ByteArray) (s1_0 : ByteArray) (s1_1 : ByteArray) : run2V Go.Proofs.Try.prog D Go.Vs.Hs limR F.laws_eqType [SV.agg [Leaf.str s0_0, Leaf.str s0_1], SV.agg [Leaf.str s1_0, Leaf.str s1_1]] [] =
  branch (!s0_0.toList == s1_0.toList) (some (SV.leaf (Leaf.bool false), []))
 (branch (!s0_1.toList == s1_1.toList) (some (SV.leaf (Leaf.bool false), [])) (some (SV.leaf (Leaf.bool true), []))) := by
  refine (run_names (J := laws_eqType_A D) (by kernel_rfl) (fun _ _ => rfl) []).trans ?_
  generalize laws_eqType_A D = J
  revert J
  refine id ?_
  intro J
  kernel_rfl
-- FN 58 laws_eqValue
noncomputable def laws_eqValue_A (D : Oracle false) (x : List Nat × St false) : Option (SV false × List (List (SV false))) := atF Go.Proofs.Try.prog D Go.Vs.Hs F.laws_eqValue x.1 0 x.2
theorem run_laws_eqValue (D : Oracle false) (i0_0 : Int) (s0_1 : ByteArray) (e0_2 : List (List (Leaf false))) (e0_3 : List (List (Leaf false))) (i1_0 : Int) (s1_1 : ByteArray) (e1_2 : List (List (Leaf false))) (e1_3 : List (List (Leaf false))) : run2V Go.Proofs.Try.prog D Go.Vs.Hs limR F.laws_eqValue [SV.agg [Leaf.int Go.IntKind.i64 i0_0, Leaf.str s0_1, Leaf.sl fP e0_2, Leaf.sl fP e0_3],
 SV.agg [Leaf.int Go.IntKind.i64 i1_0, Leaf.str s1_1, Leaf.sl fP e1_2, Leaf.sl fP e1_3]] [] =
  branch (i0_0 != i1_0) (some (SV.leaf (Leaf.bool false), []))
 (branch (!s0_1.toList == s1_1.toList) (some (SV.leaf (Leaf.bool false), []))
  ((D F.laws_eqValueS [SV.leaf (Leaf.sl fP e0_2), SV.leaf (Leaf.sl fP e1_2)] []).bind
   fun (r : SV false × List (List (SV false))) =>
   svLeafK r.fst fun (l : Leaf false) =>
    boolK l fun (b : Bool) =>
     branch (!b) (some (SV.leaf (Leaf.bool false), []))
      ((D F.laws_eqStringS [SV.leaf (Leaf.sl fP e0_3), SV.leaf (Leaf.sl fP e1_3)] []).bind
       fun (r : SV false × List (List (SV false))) =>
       svLeafK r.fst fun (l : Leaf false) =>
        boolK l fun (b : Bool) =>
         branch (!b) (some (SV.leaf (Leaf.bool false), [])) (some (SV.leaf (Leaf.bool true), []))))) := by
  refine (run_names (J := laws_eqValue_A D) (by kernel_rfl) (fun _ _ => rfl) []).trans ?_
  generalize laws_eqValue_A D = J
  revert J
  refine id ?_
  intro J
  kernel_rfl
-- FN 59 laws_eqDirS
noncomputable def laws_eqDirS_A (D : Oracle false) (x : List Nat × St false) : Option (SV false × List (List (SV false))) := atF Go.Proofs.Try.prog D Go.Vs.Hs F.laws_eqDirS x.1 0 x.2
def laws_eqDirS_0 (e0 : List (List (Leaf false))) (e1 : List (List (Leaf false))) (i5 : Int) : List Nat × St false := ([1, 1, 0, 1, 0], St.mk
 [SV.leaf (Leaf.sl fP e0), SV.leaf (Leaf.sl fP e1), SV.any, SV.any, SV.any, SV.leaf (Leaf.int Go.IntKind.i64 i5),
  SV.any, SV.any, SV.any, SV.any, SV.any, SV.any, SV.any, SV.any, SV.any, SV.any, SV.any, SV.any, SV.any, SV.any,
  SV.any, SV.any, SV.any, SV.any, SV.any, SV.any, SV.any]
 [none, none, none, none, none, none, none, none, none, none, none, none, none, none, none, none, none, none, none,
  none, none, none, none, none, none, none, none])
theorem laws_eqDirS_0_eq (D : Oracle false) (e0 : List (List (Leaf false))) (e1 : List (List (Leaf false))) (i5 : Int) : laws_eqDirS_A D (laws_eqDirS_0 e0 e1 i5) =
  branch (decide (i5 < (↑e0.length : Int)))
 (guarded (decide (0 ≤ i5) && decide (i5 < (↑e0.length : Int)) && sized 2 e0)
  (bindE (e0.getD i5.toNat []) fun (e : List (Leaf false)) =>
   atK e 0 fun (l : Leaf false) =>
    strK l fun (s : ByteArray) =>
     atK e 1 fun (l : Leaf false) =>
      slK l fun (c : Fl false) (es : List (List (Leaf false))) =>
       guarded (decide (0 ≤ i5) && decide (i5 < (↑e1.length : Int)) && sized 2 e1)
        (bindE (e1.getD i5.toNat []) fun (e : List (Leaf false)) =>
         atK e 0 fun (l : Leaf false) =>
          strK l fun (s_1 : ByteArray) =>
           atK e 1 fun (l : Leaf false) =>
            slK l fun (c : Fl false) (es_1 : List (List (Leaf false))) =>
             (D F.laws_eqDir [SV.agg [Leaf.str s, Leaf.sl fP es], SV.agg [Leaf.str s_1, Leaf.sl fP es_1]] []).bind
              fun (r : SV false × List (List (SV false))) =>
              svLeafK r.fst fun (l : Leaf false) =>
               boolK l fun (b : Bool) =>
                branch (!b) (some (SV.leaf (Leaf.bool false), []))
                 (laws_eqDirS_A D (laws_eqDirS_0 e0 e1 (Go.IntKind.i64.wrap (i5 + 1)))))))
 (some (SV.leaf (Leaf.bool true), [])) := by
  refine (nameF_eq (J := laws_eqDirS_A D) (fun _ _ => rfl) [[1, 1, 0, 1, 0]] (laws_eqDirS_0 e0 e1 i5)).trans ?_
  generalize laws_eqDirS_A D = J
  revert J
  refine id ?_
  intro J
  kernel_rfl
theorem run_laws_eqDirS (D : Oracle false) (e0 : List (List (Leaf false))) (e1 : List (List (Leaf false))) : run2V Go.Proofs.Try.prog D Go.Vs.Hs limR F.laws_eqDirS [SV.leaf (Leaf.sl fP e0), SV.leaf (Leaf.sl fP e1)] [] =
  branch ((↑e0.length : Int) != (↑e1.length : Int)) (some (SV.leaf (Leaf.bool false), []))
 (laws_eqDirS_A D (laws_eqDirS_0 e0 e1 0)) := by
  refine (run_names (J := laws_eqDirS_A D) (by kernel_rfl) (fun _ _ => rfl) [[1, 1, 0, 1, 0]]).trans ?_
  generalize laws_eqDirS_A D = J
  revert J
  refine id ?_
  intro J
  kernel_rfl
-- FN 61 laws_szValueS
noncomputable def laws_szValueS_A (D : Oracle false) (x : List Nat × St false) : Option (SV false × List (List (SV false))) := atF Go.Proofs.Try.prog D Go.Vs.Hs F.laws_szValueS x.1 0 x.2
def laws_szValueS_0 (e0 : List (List (Leaf false))) (i1 : Int) (i5 : Int) : List Nat × St false := ([1, 1, 1, 0, 1, 0], St.mk
 [SV.leaf (Leaf.sl fP e0), SV.leaf (Leaf.int Go.IntKind.i64 i1), SV.any, SV.any, SV.any,
  SV.leaf (Leaf.int Go.IntKind.i64 i5), SV.any, SV.any, SV.any, SV.any, SV.any, SV.any, SV.any, SV.any, SV.any, SV.any,
  SV.any, SV.any, SV.any, SV.any, SV.any, SV.any, SV.any, SV.any, SV.any, SV.any, SV.any]
 [none, none, none, none, none, none, none, none, none, none, none, none, none, none, none, none, none, none, none,
  none, none, none, none, none, none, none, none])
theorem laws_szValueS_0_eq (D : Oracle false) (e0 : List (List (Leaf false))) (i1 : Int) (i5 : Int) : laws_szValueS_A D (laws_szValueS_0 e0 i1 i5) =
  branch (decide (i5 < (↑e0.length : Int)))
 (guarded (decide (0 ≤ i5) && decide (i5 < (↑e0.length : Int)) && sized 4 e0)
  (bindE (e0.getD i5.toNat []) fun (e : List (Leaf false)) =>
   atK e 0 fun (l : Leaf false) =>
    intK Go.IntKind.i64 l fun (n : Int) =>
     atK e 1 fun (l : Leaf false) =>
      strK l fun (s : ByteArray) =>
       atK e 2 fun (l : Leaf false) =>
        slK l fun (c : Fl false) (es : List (List (Leaf false))) =>
         atK e 3 fun (l : Leaf false) =>
          slK l fun (c : Fl false) (es_1 : List (List (Leaf false))) =>
           (D F.laws_szValue
              [SV.agg [Leaf.int Go.IntKind.i64 n, Leaf.str s, Leaf.sl fP es, Leaf.sl fP es_1],
               SV.leaf (Leaf.int Go.IntKind.i64 i1)]
              []).bind
            fun (r : SV false × List (List (SV false))) =>
            svLeafK r.fst fun (l : Leaf false) =>
             intK Go.IntKind.i64 l fun (n : Int) =>
              branch (decide (n < 0)) (some (SV.leaf (Leaf.int Go.IntKind.i64 (-1)), []))
               (laws_szValueS_A D (laws_szValueS_0 e0 n (Go.IntKind.i64.wrap (i5 + 1))))))
 (some (SV.leaf (Leaf.int Go.IntKind.i64 i1), [])) := by
  refine (nameF_eq (J := laws_szValueS_A D) (fun _ _ => rfl) [[1, 1, 1, 0, 1, 0]] (laws_szValueS_0 e0 i1 i5)).trans ?_
  generalize laws_szValueS_A D = J
  revert J
  refine id ?_
  intro J
  kernel_rfl
theorem run_laws_szValueS (D : Oracle false) (e0 : List (List (Leaf false))) (i1 : Int) : run2V Go.Proofs.Try.prog D Go.Vs.Hs limR F.laws_szValueS [SV.leaf (Leaf.sl fP e0), SV.leaf (Leaf.int Go.IntKind.i64 i1)] [] =
  branch (decide (Go.IntKind.i64.wrap (i1 - (↑e0.length : Int)) < 0)) (some (SV.leaf (Leaf.int Go.IntKind.i64 (-1)), []))
 (laws_szValueS_A D (laws_szValueS_0 e0 (Go.IntKind.i64.wrap (i1 - (↑e0.length : Int))) 0)) := by
  refine (run_names (J := laws_szValueS_A D) (by kernel_rfl) (fun _ _ => rfl) [[1, 1, 1, 0, 1, 0]]).trans ?_
  generalize laws_szValueS_A D = J
  revert J
  refine id ?_
  intro J
  kernel_rfl
-- FN 62 laws_szStringS
noncomputable def laws_szStringS_A (D : Oracle false) (x : List Nat × St false) : Option (SV false × List (List (SV false))) := atF Go.Proofs.Try.prog D Go.Vs.Hs F.laws_szStringS x.1 0 x.2
def laws_szStringS_0 (e0 : List (List (Leaf false))) (i1 : Int) (i5 : Int) : List Nat × St false := ([1, 1, 1, 0, 1, 0], St.mk
 [SV.leaf (Leaf.sl fP e0), SV.leaf (Leaf.int Go.IntKind.i64 i1), SV.any, SV.any, SV.any,
  SV.leaf (Leaf.int Go.IntKind.i64 i5), SV.any, SV.any, SV.any, SV.any, SV.any, SV.any, SV.any, SV.any, SV.any, SV.any,
  SV.any, SV.any, SV.any, SV.any, SV.any, SV.any, SV.any, SV.any, SV.any, SV.any, SV.any, SV.any]
 [none, none, none, none, none, none, none, none, none, none, none, none, none, none, none, none, none, none, none,
  none, none, none, none, none, none, none, none, none])
theorem laws_szStringS_0_eq (D : Oracle false) (e0 : List (List (Leaf false))) (i1 : Int) (i5 : Int) : laws_szStringS_A D (laws_szStringS_0 e0 i1 i5) =
  branch (decide (i5 < (↑e0.length : Int)))
 (guarded (decide (0 ≤ i5) && decide (i5 < (↑e0.length : Int)) && sized 1 e0)
  (atK (e0.getD i5.toNat []) 0 fun (l : Leaf false) =>
   strK l fun (s : ByteArray) =>
    branch (decide (Go.IntKind.i64.wrap (i1 - (↑s.size : Int)) < 0)) (some (SV.leaf (Leaf.int Go.IntKind.i64 (-1)), []))
     (laws_szStringS_A D
      (laws_szStringS_0 e0 (Go.IntKind.i64.wrap (i1 - (↑s.size : Int))) (Go.IntKind.i64.wrap (i5 + 1))))))
 (some (SV.leaf (Leaf.int Go.IntKind.i64 i1), [])) := by
  refine (nameF_eq (J := laws_szStringS_A D) (fun _ _ => rfl) [[1, 1, 1, 0, 1, 0]] (laws_szStringS_0 e0 i1 i5)).trans ?_
  generalize laws_szStringS_A D = J
  revert J
  refine id ?_
  intro J
  kernel_rfl
theorem run_laws_szStringS (D : Oracle false) (e0 : List (List (Leaf false))) (i1 : Int) : run2V Go.Proofs.Try.prog D Go.Vs.Hs limR F.laws_szStringS [SV.leaf (Leaf.sl fP e0), SV.leaf (Leaf.int Go.IntKind.i64 i1)] [] =
  branch (decide (Go.IntKind.i64.wrap (i1 - (↑e0.length : Int)) < 0)) (some (SV.leaf (Leaf.int Go.IntKind.i64 (-1)), []))
 (laws_szStringS_A D (laws_szStringS_0 e0 (Go.IntKind.i64.wrap (i1 - (↑e0.length : Int))) 0)) := by
  refine (run_names (J := laws_szStringS_A D) (by kernel_rfl) (fun _ _ => rfl) [[1, 1, 1, 0, 1, 0]]).trans ?_
  generalize laws_szStringS_A D = J
  revert J
  refine id ?_
  intro J
  kernel_rfl
-- FN 63 laws_szDir
noncomputable def laws_szDir_A (D : Oracle false) (x : List Nat × St false) : Option (SV false × List (List (SV false))) := atF Go.Proofs.Try.prog D Go.Vs.Hs F.laws_szDir x.1 0 x.2
theorem run_laws_szDir (D : Oracle false) (s0_0 : ByteArray) (e0_1 : List (List (Leaf false))) (i1 : Int) : run2V Go.Proofs.Try.prog D Go.Vs.Hs limR F.laws_szDir [SV.agg [Leaf.str s0_0, Leaf.sl fP e0_1], SV.leaf (Leaf.int Go.IntKind.i64 i1)] [] =
  branch (decide (Go.IntKind.i64.wrap (i1 - (↑s0_0.size : Int)) < 0)) (some (SV.leaf (Leaf.int Go.IntKind.i64 (-1)), []))
 ((D F.laws_szArgS
    [SV.leaf (Leaf.sl fP e0_1), SV.leaf (Leaf.int Go.IntKind.i64 (Go.IntKind.i64.wrap (i1 - (↑s0_0.size : Int))))]
    []).bind
  fun (r : SV false × List (List (SV false))) =>
  svLeafK r.fst fun (l : Leaf false) =>
   intK Go.IntKind.i64 l fun (n : Int) =>
    branch (decide (n < 0)) (some (SV.leaf (Leaf.int Go.IntKind.i64 (-1)), []))
     (some (SV.leaf (Leaf.int Go.IntKind.i64 n), []))) := by
  refine (run_names (J := laws_szDir_A D) (by kernel_rfl) (fun _ _ => rfl) []).trans ?_
  generalize laws_szDir_A D = J
  revert J
  refine id ?_
  intro J
  kernel_rfl
-- FN 74 internal_stringslite_CutSuffix
noncomputable def internal_stringslite_CutSuffix_A (D : Oracle false) (x : List Nat × St false) : Option (SV false × List (List (SV false))) := atF Go.Proofs.Try.prog D Go.Vs.Hs F.internal_stringslite_CutSuffix x.1 0 x.2
theorem run_internal_stringslite_CutSuffix (D : Oracle false) (s0 : ByteArray) (s1 : ByteArray) : run2V Go.Proofs.Try.prog D Go.Vs.Hs limR F.internal_stringslite_CutSuffix [SV.leaf (Leaf.str s0), SV.leaf (Leaf.str s1)] [] =
  (D F.internal_stringslite_HasSuffix [SV.leaf (Leaf.str s0), SV.leaf (Leaf.str s1)] []).bind
 fun (r : SV false × List (List (SV false))) =>
 svLeafK r.fst fun (l : Leaf false) =>
  boolK l fun (b : Bool) =>
   branch (!b) (some (SV.tup [SV.leaf (Leaf.str s0), SV.leaf (Leaf.bool false)], []))
    (guarded
     (decide (0 ≤ Go.IntKind.i64.wrap ((↑s0.size : Int) - (↑s1.size : Int))) &&
      decide
       (((decide (0 ≤ Go.IntKind.i64.wrap ((↑s0.size : Int) - (↑s1.size : Int))),
              (Go.IntKind.i64.wrap ((↑s0.size : Int) - (↑s1.size : Int))).toNat).fst,
            some
             (decide (0 ≤ Go.IntKind.i64.wrap ((↑s0.size : Int) - (↑s1.size : Int))),
               (Go.IntKind.i64.wrap ((↑s0.size : Int) - (↑s1.size : Int))).toNat).snd).snd.getD
         s0.size ≤
        s0.size))
     (some
      (SV.tup
        [SV.leaf
          (Leaf.str
           (s0.extract ((true, none).snd.getD 0)
            (((fun (p : Bool × Nat) => (p.fst, some p.snd))
                (decide (0 ≤ Go.IntKind.i64.wrap ((↑s0.size : Int) - (↑s1.size : Int))),
                 (Go.IntKind.i64.wrap ((↑s0.size : Int) - (↑s1.size : Int))).toNat)).snd.getD
             s0.size))),
         SV.leaf (Leaf.bool true)],
       []))) := by
  refine (run_names (J := internal_stringslite_CutSuffix_A D) (by kernel_rfl) (fun _ _ => rfl) []).trans ?_
  generalize internal_stringslite_CutSuffix_A D = J
  revert J
  refine id ?_
  intro J
  kernel_rfl
-- FN 69 laws_eqValueS
noncomputable def laws_eqValueS_A (D : Oracle false) (x : List Nat × St false) : Option (SV false × List (List (SV false))) := atF Go.Proofs.Try.prog D Go.Vs.Hs F.laws_eqValueS x.1 0 x.2
def laws_eqValueS_0 (e0 : List (List (Leaf false))) (e1 : List (List (Leaf false))) (i5 : Int) : List Nat × St false := ([1, 1, 0, 1, 0], St.mk
 [SV.leaf (Leaf.sl fP e0), SV.leaf (Leaf.sl fP e1), SV.any, SV.any, SV.any, SV.leaf (Leaf.int Go.IntKind.i64 i5),
  SV.any, SV.any, SV.any, SV.any, SV.any, SV.any, SV.any, SV.any, SV.any, SV.any, SV.any, SV.any, SV.any, SV.any,
  SV.any, SV.any, SV.any, SV.any, SV.any, SV.any, SV.any]
 [none, none, none, none, none, none, none, none, none, none, none, none, none, none, none, none, none, none, none,
  none, none, none, none, none, none, none, none])
theorem laws_eqValueS_0_eq (D : Oracle false) (e0 : List (List (Leaf false))) (e1 : List (List (Leaf false))) (i5 : Int) : laws_eqValueS_A D (laws_eqValueS_0 e0 e1 i5) =
  branch (decide (i5 < (↑e0.length : Int)))
 (guarded (decide (0 ≤ i5) && decide (i5 < (↑e0.length : Int)) && sized 4 e0)
  (bindE (e0.getD i5.toNat []) fun (e : List (Leaf false)) =>
   atK e 0 fun (l : Leaf false) =>
    intK Go.IntKind.i64 l fun (n : Int) =>
     atK e 1 fun (l : Leaf false) =>
      strK l fun (s : ByteArray) =>
       atK e 2 fun (l : Leaf false) =>
        slK l fun (c : Fl false) (es : List (List (Leaf false))) =>
         atK e 3 fun (l : Leaf false) =>
          slK l fun (c : Fl false) (es_1 : List (List (Leaf false))) =>
           guarded (decide (0 ≤ i5) && decide (i5 < (↑e1.length : Int)) && sized 4 e1)
            (bindE (e1.getD i5.toNat []) fun (e : List (Leaf false)) =>
             atK e 0 fun (l : Leaf false) =>
              intK Go.IntKind.i64 l fun (n_1 : Int) =>
               atK e 1 fun (l : Leaf false) =>
                strK l fun (s_1 : ByteArray) =>
                 atK e 2 fun (l : Leaf false) =>
                  slK l fun (c : Fl false) (es_2 : List (List (Leaf false))) =>
                   atK e 3 fun (l : Leaf false) =>
                    slK l fun (c : Fl false) (es_3 : List (List (Leaf false))) =>
                     (D F.laws_eqValue
                        [SV.agg [Leaf.int Go.IntKind.i64 n, Leaf.str s, Leaf.sl fP es, Leaf.sl fP es_1],
                         SV.agg [Leaf.int Go.IntKind.i64 n_1, Leaf.str s_1, Leaf.sl fP es_2, Leaf.sl fP es_3]]
                        []).bind
                      fun (r : SV false × List (List (SV false))) =>
                      svLeafK r.fst fun (l : Leaf false) =>
                       boolK l fun (b : Bool) =>
                        branch (!b) (some (SV.leaf (Leaf.bool false), []))
                         (laws_eqValueS_A D (laws_eqValueS_0 e0 e1 (Go.IntKind.i64.wrap (i5 + 1)))))))
 (some (SV.leaf (Leaf.bool true), [])) := by
  refine (nameF_eq (J := laws_eqValueS_A D) (fun _ _ => rfl) [[1, 1, 0, 1, 0]] (laws_eqValueS_0 e0 e1 i5)).trans ?_
  generalize laws_eqValueS_A D = J
  revert J
  refine id ?_
  intro J
  kernel_rfl
theorem run_laws_eqValueS (D : Oracle false) (e0 : List (List (Leaf false))) (e1 : List (List (Leaf false))) : run2V Go.Proofs.Try.prog D Go.Vs.Hs limR F.laws_eqValueS [SV.leaf (Leaf.sl fP e0), SV.leaf (Leaf.sl fP e1)] [] =
  branch ((↑e0.length : Int) != (↑e1.length : Int)) (some (SV.leaf (Leaf.bool false), []))
 (laws_eqValueS_A D (laws_eqValueS_0 e0 e1 0)) := by
  refine (run_names (J := laws_eqValueS_A D) (by kernel_rfl) (fun _ _ => rfl) [[1, 1, 0, 1, 0]]).trans ?_
  generalize laws_eqValueS_A D = J
  revert J
  refine id ?_
  intro J
  kernel_rfl
-- FN 70 laws_eqStringS
noncomputable def laws_eqStringS_A (D : Oracle false) (x : List Nat × St false) : Option (SV false × List (List (SV false))) := atF Go.Proofs.Try.prog D Go.Vs.Hs F.laws_eqStringS x.1 0 x.2
def laws_eqStringS_0 (e0 : List (List (Leaf false))) (e1 : List (List (Leaf false))) (i5 : Int) : List Nat × St false := ([1, 1, 0, 1, 0], St.mk
 [SV.leaf (Leaf.sl fP e0), SV.leaf (Leaf.sl fP e1), SV.any, SV.any, SV.any, SV.leaf (Leaf.int Go.IntKind.i64 i5),
  SV.any, SV.any, SV.any, SV.any, SV.any, SV.any, SV.any, SV.any, SV.any, SV.any, SV.any, SV.any, SV.any, SV.any,
  SV.any, SV.any, SV.any, SV.any, SV.any, SV.any]
 [none, none, none, none, none, none, none, none, none, none, none, none, none, none, none, none, none, none, none,
  none, none, none, none, none, none, none])
theorem laws_eqStringS_0_eq (D : Oracle false) (e0 : List (List (Leaf false))) (e1 : List (List (Leaf false))) (i5 : Int) : laws_eqStringS_A D (laws_eqStringS_0 e0 e1 i5) =
  branch (decide (i5 < (↑e0.length : Int)))
 (guarded (decide (0 ≤ i5) && decide (i5 < (↑e0.length : Int)) && sized 1 e0)
  (atK (e0.getD i5.toNat []) 0 fun (l : Leaf false) =>
   strK l fun (s : ByteArray) =>
    guarded (decide (0 ≤ i5) && decide (i5 < (↑e1.length : Int)) && sized 1 e1)
     (atK (e1.getD i5.toNat []) 0 fun (l : Leaf false) =>
      strK l fun (s_1 : ByteArray) =>
       branch (!s.toList == s_1.toList) (some (SV.leaf (Leaf.bool false), []))
        (laws_eqStringS_A D (laws_eqStringS_0 e0 e1 (Go.IntKind.i64.wrap (i5 + 1)))))))
 (some (SV.leaf (Leaf.bool true), [])) := by
  refine (nameF_eq (J := laws_eqStringS_A D) (fun _ _ => rfl) [[1, 1, 0, 1, 0]] (laws_eqStringS_0 e0 e1 i5)).trans ?_
  generalize laws_eqStringS_A D = J
  revert J
  refine id ?_
  intro J
  kernel_rfl
theorem run_laws_eqStringS (D : Oracle false) (e0 : List (List (Leaf false))) (e1 : List (List (Leaf false))) : run2V Go.Proofs.Try.prog D Go.Vs.Hs limR F.laws_eqStringS [SV.leaf (Leaf.sl fP e0), SV.leaf (Leaf.sl fP e1)] [] =
  branch ((↑e0.length : Int) != (↑e1.length : Int)) (some (SV.leaf (Leaf.bool false), []))
 (laws_eqStringS_A D (laws_eqStringS_0 e0 e1 0)) := by
  refine (run_names (J := laws_eqStringS_A D) (by kernel_rfl) (fun _ _ => rfl) [[1, 1, 0, 1, 0]]).trans ?_
  generalize laws_eqStringS_A D = J
  revert J
  refine id ?_
  intro J
  kernel_rfl
-- FN 71 laws_eqDir
noncomputable def laws_eqDir_A (D : Oracle false) (x : List Nat × St false) : Option (SV false × List (List (SV false))) := atF Go.Proofs.Try.prog D Go.Vs.Hs F.laws_eqDir x.1 0 x.2
theorem run_laws_eqDir (D : Oracle false) (s0_0 : ByteArray) (e0_1 : List (List (Leaf false))) (s1_0 : ByteArray) (e1_1 : List (List (Leaf false))) : run2V Go.Proofs.Try.prog D Go.Vs.Hs limR F.laws_eqDir [SV.agg [Leaf.str s0_0, Leaf.sl fP e0_1], SV.agg [Leaf.str s1_0, Leaf.sl fP e1_1]] [] =
  branch (!s0_0.toList == s1_0.toList) (some (SV.leaf (Leaf.bool false), []))
 ((D F.laws_eqArgS [SV.leaf (Leaf.sl fP e0_1), SV.leaf (Leaf.sl fP e1_1)] []).bind
  fun (r : SV false × List (List (SV false))) =>
  svLeafK r.fst fun (l : Leaf false) =>
   boolK l fun (b : Bool) => branch (!b) (some (SV.leaf (Leaf.bool false), [])) (some (SV.leaf (Leaf.bool true), []))) := by
  refine (run_names (J := laws_eqDir_A D) (by kernel_rfl) (fun _ _ => rfl) []).trans ?_
  generalize laws_eqDir_A D = J
  revert J
  refine id ?_
  intro J
  kernel_rfl
-- FN 72 laws_szArgS
noncomputable def laws_szArgS_A (D : Oracle false) (x : List Nat × St false) : Option (SV false × List (List (SV false))) := atF Go.Proofs.Try.prog D Go.Vs.Hs F.laws_szArgS x.1 0 x.2
def laws_szArgS_0 (e0 : List (List (Leaf false))) (i1 : Int) (i5 : Int) : List Nat × St false := ([1, 1, 1, 0, 1, 0], St.mk
 [SV.leaf (Leaf.sl fP e0), SV.leaf (Leaf.int Go.IntKind.i64 i1), SV.any, SV.any, SV.any,
  SV.leaf (Leaf.int Go.IntKind.i64 i5), SV.any, SV.any, SV.any, SV.any, SV.any, SV.any, SV.any, SV.any, SV.any, SV.any,
  SV.any, SV.any, SV.any, SV.any, SV.any, SV.any, SV.any, SV.any, SV.any, SV.any, SV.any]
 [none, none, none, none, none, none, none, none, none, none, none, none, none, none, none, none, none, none, none,
  none, none, none, none, none, none, none, none])
theorem laws_szArgS_0_eq (D : Oracle false) (e0 : List (List (Leaf false))) (i1 : Int) (i5 : Int) : laws_szArgS_A D (laws_szArgS_0 e0 i1 i5) =
  branch (decide (i5 < (↑e0.length : Int)))
 (guarded (decide (0 ≤ i5) && decide (i5 < (↑e0.length : Int)) && sized 5 e0)
  (bindE (e0.getD i5.toNat []) fun (e : List (Leaf false)) =>
   atK e 0 fun (l : Leaf false) =>
    strK l fun (s : ByteArray) =>
     atK e 1 fun (l : Leaf false) =>
      intK Go.IntKind.i64 l fun (n : Int) =>
       atK e 2 fun (l : Leaf false) =>
        strK l fun (s_1 : ByteArray) =>
         atK e 3 fun (l : Leaf false) =>
          slK l fun (c : Fl false) (es : List (List (Leaf false))) =>
           atK e 4 fun (l : Leaf false) =>
            slK l fun (c : Fl false) (es_1 : List (List (Leaf false))) =>
             (D F.laws_szArg
                [SV.agg [Leaf.str s, Leaf.int Go.IntKind.i64 n, Leaf.str s_1, Leaf.sl fP es, Leaf.sl fP es_1],
                 SV.leaf (Leaf.int Go.IntKind.i64 i1)]
                []).bind
              fun (r : SV false × List (List (SV false))) =>
              svLeafK r.fst fun (l : Leaf false) =>
               intK Go.IntKind.i64 l fun (n : Int) =>
                branch (decide (n < 0)) (some (SV.leaf (Leaf.int Go.IntKind.i64 (-1)), []))
                 (laws_szArgS_A D (laws_szArgS_0 e0 n (Go.IntKind.i64.wrap (i5 + 1))))))
 (some (SV.leaf (Leaf.int Go.IntKind.i64 i1), [])) := by
  refine (nameF_eq (J := laws_szArgS_A D) (fun _ _ => rfl) [[1, 1, 1, 0, 1, 0]] (laws_szArgS_0 e0 i1 i5)).trans ?_
  generalize laws_szArgS_A D = J
  revert J
  refine id ?_
  intro J
  kernel_rfl
theorem run_laws_szArgS (D : Oracle false) (e0 : List (List (Leaf false))) (i1 : Int) : run2V Go.Proofs.Try.prog D Go.Vs.Hs limR F.laws_szArgS [SV.leaf (Leaf.sl fP e0), SV.leaf (Leaf.int Go.IntKind.i64 i1)] [] =
  branch (decide (Go.IntKind.i64.wrap (i1 - (↑e0.length : Int)) < 0)) (some (SV.leaf (Leaf.int Go.IntKind.i64 (-1)), []))
 (laws_szArgS_A D (laws_szArgS_0 e0 (Go.IntKind.i64.wrap (i1 - (↑e0.length : Int))) 0)) := by
  refine (run_names (J := laws_szArgS_A D) (by kernel_rfl) (fun _ _ => rfl) [[1, 1, 1, 0, 1, 0]]).trans ?_
  generalize laws_szArgS_A D = J
  revert J
  refine id ?_
  intro J
  kernel_rfl
-- FN 75 laws_eqArgS
noncomputable def laws_eqArgS_A (D : Oracle false) (x : List Nat × St false) : Option (SV false × List (List (SV false))) := atF Go.Proofs.Try.prog D Go.Vs.Hs F.laws_eqArgS x.1 0 x.2
def laws_eqArgS_0 (e0 : List (List (Leaf false))) (e1 : List (List (Leaf false))) (i5 : Int) : List Nat × St false := ([1, 1, 0, 1, 0], St.mk
 [SV.leaf (Leaf.sl fP e0), SV.leaf (Leaf.sl fP e1), SV.any, SV.any, SV.any, SV.leaf (Leaf.int Go.IntKind.i64 i5),
  SV.any, SV.any, SV.any, SV.any, SV.any, SV.any, SV.any, SV.any, SV.any, SV.any, SV.any, SV.any, SV.any, SV.any,
  SV.any, SV.any, SV.any, SV.any, SV.any, SV.any, SV.any]
 [none, none, none, none, none, none, none, none, none, none, none, none, none, none, none, none, none, none, none,
  none, none, none, none, none, none, none, none])
theorem laws_eqArgS_0_eq (D : Oracle false) (e0 : List (List (Leaf false))) (e1 : List (List (Leaf false))) (i5 : Int) : laws_eqArgS_A D (laws_eqArgS_0 e0 e1 i5) =
  branch (decide (i5 < (↑e0.length : Int)))
 (guarded (decide (0 ≤ i5) && decide (i5 < (↑e0.length : Int)) && sized 5 e0)
  (bindE (e0.getD i5.toNat []) fun (e : List (Leaf false)) =>
   atK e 0 fun (l : Leaf false) =>
    strK l fun (s : ByteArray) =>
     atK e 1 fun (l : Leaf false) =>
      intK Go.IntKind.i64 l fun (n : Int) =>
       atK e 2 fun (l : Leaf false) =>
        strK l fun (s_1 : ByteArray) =>
         atK e 3 fun (l : Leaf false) =>
          slK l fun (c : Fl false) (es : List (List (Leaf false))) =>
           atK e 4 fun (l : Leaf false) =>
            slK l fun (c : Fl false) (es_1 : List (List (Leaf false))) =>
             guarded (decide (0 ≤ i5) && decide (i5 < (↑e1.length : Int)) && sized 5 e1)
              (bindE (e1.getD i5.toNat []) fun (e : List (Leaf false)) =>
               atK e 0 fun (l : Leaf false) =>
                strK l fun (s_2 : ByteArray) =>
                 atK e 1 fun (l : Leaf false) =>
                  intK Go.IntKind.i64 l fun (n_1 : Int) =>
                   atK e 2 fun (l : Leaf false) =>
                    strK l fun (s_3 : ByteArray) =>
                     atK e 3 fun (l : Leaf false) =>
                      slK l fun (c : Fl false) (es_2 : List (List (Leaf false))) =>
                       atK e 4 fun (l : Leaf false) =>
                        slK l fun (c : Fl false) (es_3 : List (List (Leaf false))) =>
                         (D F.laws_eqArg
                            [SV.agg
                              [Leaf.str s, Leaf.int Go.IntKind.i64 n, Leaf.str s_1, Leaf.sl fP es, Leaf.sl fP es_1],
                             SV.agg
                              [Leaf.str s_2, Leaf.int Go.IntKind.i64 n_1, Leaf.str s_3, Leaf.sl fP es_2,
                               Leaf.sl fP es_3]]
                            []).bind
                          fun (r : SV false × List (List (SV false))) =>
                          svLeafK r.fst fun (l : Leaf false) =>
                           boolK l fun (b : Bool) =>
                            branch (!b) (some (SV.leaf (Leaf.bool false), []))
                             (laws_eqArgS_A D (laws_eqArgS_0 e0 e1 (Go.IntKind.i64.wrap (i5 + 1)))))))
 (some (SV.leaf (Leaf.bool true), [])) := by
  refine (nameF_eq (J := laws_eqArgS_A D) (fun _ _ => rfl) [[1, 1, 0, 1, 0]] (laws_eqArgS_0 e0 e1 i5)).trans ?_
  generalize laws_eqArgS_A D = J
  revert J
  refine id ?_
  intro J
  kernel_rfl
theorem run_laws_eqArgS (D : Oracle false) (e0 : List (List (Leaf false))) (e1 : List (List (Leaf false))) : run2V Go.Proofs.Try.prog D Go.Vs.Hs limR F.laws_eqArgS [SV.leaf (Leaf.sl fP e0), SV.leaf (Leaf.sl fP e1)] [] =
  branch ((↑e0.length : Int) != (↑e1.length : Int)) (some (SV.leaf (Leaf.bool false), []))
 (laws_eqArgS_A D (laws_eqArgS_0 e0 e1 0)) := by
  refine (run_names (J := laws_eqArgS_A D) (by kernel_rfl) (fun _ _ => rfl) [[1, 1, 0, 1, 0]]).trans ?_
  generalize laws_eqArgS_A D = J
  revert J
  refine id ?_
  intro J
  kernel_rfl
-- FN 76 laws_szArg
noncomputable def laws_szArg_A (D : Oracle false) (x : List Nat × St false) : Option (SV false × List (List (SV false))) := atF Go.Proofs.Try.prog D Go.Vs.Hs F.laws_szArg x.1 0 x.2
theorem run_laws_szArg (D : Oracle false) (s0_0 : ByteArray) (i0_1 : Int) (s0_2 : ByteArray) (e0_3 : List (List (Leaf false))) (e0_4 : List (List (Leaf false))) (i1 : Int) : run2V Go.Proofs.Try.prog D Go.Vs.Hs limR F.laws_szArg [SV.agg [Leaf.str s0_0, Leaf.int Go.IntKind.i64 i0_1, Leaf.str s0_2, Leaf.sl fP e0_3, Leaf.sl fP e0_4],
 SV.leaf (Leaf.int Go.IntKind.i64 i1)] [] =
  branch (decide (Go.IntKind.i64.wrap (i1 - (↑s0_0.size : Int)) < 0)) (some (SV.leaf (Leaf.int Go.IntKind.i64 (-1)), []))
 ((D F.laws_szValue
    [SV.agg [Leaf.int Go.IntKind.i64 i0_1, Leaf.str s0_2, Leaf.sl fP e0_3, Leaf.sl fP e0_4],
     SV.leaf (Leaf.int Go.IntKind.i64 (Go.IntKind.i64.wrap (i1 - (↑s0_0.size : Int))))]
    []).bind
  fun (r : SV false × List (List (SV false))) =>
  svLeafK r.fst fun (l : Leaf false) =>
   intK Go.IntKind.i64 l fun (n : Int) =>
    branch (decide (n < 0)) (some (SV.leaf (Leaf.int Go.IntKind.i64 (-1)), []))
     (some (SV.leaf (Leaf.int Go.IntKind.i64 n), []))) := by
  refine (run_names (J := laws_szArg_A D) (by kernel_rfl) (fun _ _ => rfl) []).trans ?_
  generalize laws_szArg_A D = J
  revert J
  refine id ?_
  intro J
  kernel_rfl
-- FN 78 laws_eqArg
noncomputable def laws_eqArg_A (D : Oracle false) (x : List Nat × St false) : Option (SV false × List (List (SV false))) := atF Go.Proofs.Try.prog D Go.Vs.Hs F.laws_eqArg x.1 0 x.2
theorem run_laws_eqArg (D : Oracle false) (s0_0 : ByteArray) (i0_1 : Int) (s0_2 : ByteArray) (e0_3 : List (List (Leaf false))) (e0_4 : List (List (Leaf false))) (s1_0 : ByteArray) (i1_1 : Int) (s1_2 : ByteArray) (e1_3 : List (List (Leaf false))) (e1_4 : List (List (Leaf false))) : run2V Go.Proofs.Try.prog D Go.Vs.Hs limR F.laws_eqArg [SV.agg [Leaf.str s0_0, Leaf.int Go.IntKind.i64 i0_1, Leaf.str s0_2, Leaf.sl fP e0_3, Leaf.sl fP e0_4],
 SV.agg [Leaf.str s1_0, Leaf.int Go.IntKind.i64 i1_1, Leaf.str s1_2, Leaf.sl fP e1_3, Leaf.sl fP e1_4]] [] =
  branch (!s0_0.toList == s1_0.toList) (some (SV.leaf (Leaf.bool false), []))
 ((D F.laws_eqValue
    [SV.agg [Leaf.int Go.IntKind.i64 i0_1, Leaf.str s0_2, Leaf.sl fP e0_3, Leaf.sl fP e0_4],
     SV.agg [Leaf.int Go.IntKind.i64 i1_1, Leaf.str s1_2, Leaf.sl fP e1_3, Leaf.sl fP e1_4]]
    []).bind
  fun (r : SV false × List (List (SV false))) =>
  svLeafK r.fst fun (l : Leaf false) =>
   boolK l fun (b : Bool) => branch (!b) (some (SV.leaf (Leaf.bool false), [])) (some (SV.leaf (Leaf.bool true), []))) := by
  refine (run_names (J := laws_eqArg_A D) (by kernel_rfl) (fun _ _ => rfl) []).trans ?_
  generalize laws_eqArg_A D = J
  revert J
  refine id ?_
  intro J
  kernel_rfl
end Go.Vs
end
