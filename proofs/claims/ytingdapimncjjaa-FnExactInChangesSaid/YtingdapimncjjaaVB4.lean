/- What the program's functions compute, read off their text by the shadow runner (CL); no condition. -/
import Derived.Test.YtingdapimncjjaaVB3
section
open Go Go.Vs Go.Proofs
set_option maxRecDepth 100000
set_option linter.unusedVariables false
namespace Go.Vs
def laws_FnExactInChanges_s0 (s0 : ByteArray) (c1 : Fl true) (e1 : List (List (Leaf true))) (c2 : Fl true) (e2 : List (List (Leaf true))) : St true := St.mk
 [SV.leaf (Leaf.str s0), SV.leaf (Leaf.sl c1 e1), SV.leaf (Leaf.sl c2 e2), SV.any, SV.any, SV.any, SV.any, SV.any,
  SV.any, SV.any, SV.any, SV.any, SV.any, SV.any, SV.any, SV.any, SV.any, SV.any, SV.any, SV.any, SV.any, SV.any,
  SV.any, SV.any, SV.any, SV.any, SV.any, SV.any, SV.any, SV.any, SV.any, SV.any, SV.any, SV.any, SV.any, SV.any,
  SV.any, SV.any, SV.any, SV.any, SV.any, SV.any, SV.any, SV.any, SV.any, SV.any, SV.any, SV.any, SV.any, SV.any,
  SV.any, SV.any, SV.any, SV.any, SV.any, SV.any, SV.any, SV.any, SV.any, SV.any, SV.any, SV.any, SV.any, SV.any,
  SV.any, SV.any, SV.any, SV.any, SV.any, SV.any, SV.any, SV.any, SV.any, SV.any, SV.any, SV.any, SV.any, SV.any,
  SV.any, SV.any, SV.any, SV.any, SV.any, SV.any, SV.any, SV.any, SV.any, SV.any, SV.any, SV.any, SV.any, SV.any,
  SV.any, SV.any, SV.any, SV.any, SV.any, SV.any, SV.any, SV.any]
 [none, none, none, none, none, none, none, none, none, none, none, none, none, none, none, none, none, none, none,
  none, none, none, none, none, none, none, none, none, none, none, none, none, none, none, none, none, none, none,
  none, none, none, none, none, none, none, none, none, none, none, none, none, none, none, none, none, none, none,
  none, none, none, none, none, none, none, none, none, none, none, none, none, none, none, none, none, none, none,
  none, none, none, none, none, none, none, none, none, none, none, none, none, none, none, none, none, none, none,
  none, none, none, none, none]
theorem laws_FnExactInChanges_c0 (D : Oracle true) (J : List Nat × St true → Option (SV true × List (List (SV true)))) (s0 : ByteArray) (c1 : Fl true) (e1 : List (List (Leaf true))) (c2 : Fl true) (e2 : List (List (Leaf true))) : nameF Go.Proofs.Try.prog D Go.Vs.Hs F.laws_FnExactInChanges [way 8] 0 J (way 0, laws_FnExactInChanges_s0 s0 c1 e1 c2 e2) =
  branch (decide ((↑s0.size : Int) > 1048576)) (some (SV.leaf (Leaf.bool true), []))
 ((D F.laws_szInDefS [SV.leaf (Leaf.sl c1 e1), SV.leaf (Leaf.int Go.IntKind.i64 1048576)] []).bind
  fun (r : SV true × List (List (SV true))) =>
  svLeafK r.fst fun (l : Leaf true) =>
   intK Go.IntKind.i64 l fun (n : Int) =>
    branch (decide (n < 0)) (some (SV.leaf (Leaf.bool true), []))
     ((D F.laws_szInDefS [SV.leaf (Leaf.sl c2 e2), SV.leaf (Leaf.int Go.IntKind.i64 n)] []).bind
      fun (r : SV true × List (List (SV true))) =>
      svLeafK r.fst fun (l : Leaf true) =>
       intK Go.IntKind.i64 l fun (n : Int) =>
        branch (decide (n < 0)) (some (SV.leaf (Leaf.bool true), []))
         ((D F.laws_toInDefS [SV.leaf (Leaf.sl c1 e1)] []).bind fun (r : SV true × List (List (SV true))) =>
          svSlK r.fst fun (c : Fl true) (es : List (List (Leaf true))) =>
           (D F.laws_toInDefS [SV.leaf (Leaf.sl c2 e2)] []).bind fun (r : SV true × List (List (SV true))) =>
            svSlK r.fst fun (c_1 : Fl true) (es_1 : List (List (Leaf true))) =>
             (D F.spec_InChanges [SV.leaf (Leaf.str s0), SV.leaf (Leaf.sl c es), SV.leaf (Leaf.sl c_1 es_1)] []).bind
              fun (r : SV true × List (List (SV true))) =>
              svOwnK T.impl_Change r.fst fun (es : List (List (Leaf true))) =>
               J
                (way 8,
                 St.mk
                  [SV.leaf (Leaf.str s0), SV.leaf (Leaf.sl c1 e1), SV.leaf (Leaf.sl c2 e2), SV.any, SV.any, SV.any,
                   SV.any, SV.any, SV.own (some T.impl_Change) es, SV.any, SV.any, SV.any, SV.any, SV.any, SV.any,
                   SV.any, SV.any, SV.any, SV.any, SV.any, SV.any, SV.any, SV.any, SV.any, SV.any, SV.any, SV.any,
                   SV.any, SV.any, SV.any, SV.any, SV.any, SV.any, SV.any, SV.any, SV.any, SV.any, SV.any, SV.any,
                   SV.any, SV.any, SV.any, SV.any, SV.any, SV.any, SV.any, SV.any, SV.any, SV.any, SV.any, SV.any,
                   SV.any, SV.any, SV.any, SV.any, SV.any, SV.any, SV.any, SV.any, SV.any, SV.any, SV.any, SV.any,
                   SV.any, SV.any, SV.any, SV.any, SV.any, SV.any, SV.any, SV.any, SV.any, SV.any, SV.any, SV.any,
                   SV.any, SV.any, SV.any, SV.any, SV.any, SV.any, SV.any, SV.any, SV.any, SV.any, SV.any, SV.any,
                   SV.any, SV.any, SV.any, SV.any, SV.any, SV.any, SV.any, SV.any, SV.any, SV.any, SV.any, SV.any,
                   SV.any]
                  [none, none, none, none, none, none, none, none, none, none, none, none, none, none, none, none, none,
                   none, none, none, none, none, none, none, none, none, none, none, none, none, none, none, none, none,
                   none, none, none, none, none, none, none, none, none, none, none, none, none, none, none, none, none,
                   none, none, none, none, none, none, none, none, none, none, none, none, none, none, none, none, none,
                   none, none, none, none, none, none, none, none, none, none, none, none, none, none, none, none, none,
                   none, none, none, none, none, none, none, none, none, none, none, none, none, none, none])))) := by
  revert J
  refine id ?_
  intro J
  kernel_rfl
def laws_FnExactInChanges_s1 (s0 : ByteArray) (c1 : Fl true) (e1 : List (List (Leaf true))) (c2 : Fl true) (e2 : List (List (Leaf true))) (c8 : Fl true) (e8 : List (List (Leaf true))) : St true := St.mk
 [SV.leaf (Leaf.str s0), SV.leaf (Leaf.sl c1 e1), SV.leaf (Leaf.sl c2 e2), SV.any, SV.any, SV.any, SV.any, SV.any,
  SV.leaf (Leaf.sl c8 e8), SV.any, SV.any, SV.any, SV.any, SV.any, SV.any, SV.any, SV.any, SV.any, SV.any, SV.any,
  SV.any, SV.any, SV.any, SV.any, SV.any, SV.any, SV.any, SV.any, SV.any, SV.any, SV.any, SV.any, SV.any, SV.any,
  SV.any, SV.any, SV.any, SV.any, SV.any, SV.any, SV.any, SV.any, SV.any, SV.any, SV.any, SV.any, SV.any, SV.any,
  SV.any, SV.any, SV.any, SV.any, SV.any, SV.any, SV.any, SV.any, SV.any, SV.any, SV.any, SV.any, SV.any, SV.any,
  SV.any, SV.any, SV.any, SV.any, SV.any, SV.any, SV.any, SV.any, SV.any, SV.any, SV.any, SV.any, SV.any, SV.any,
  SV.any, SV.any, SV.any, SV.any, SV.any, SV.any, SV.any, SV.any, SV.any, SV.any, SV.any, SV.any, SV.any, SV.any,
  SV.any, SV.any, SV.any, SV.any, SV.any, SV.any, SV.any, SV.any, SV.any, SV.any]
 [none, none, none, none, none, none, none, none, none, none, none, none, none, none, none, none, none, none, none,
  none, none, none, none, none, none, none, none, none, none, none, none, none, none, none, none, none, none, none,
  none, none, none, none, none, none, none, none, none, none, none, none, none, none, none, none, none, none, none,
  none, none, none, none, none, none, none, none, none, none, none, none, none, none, none, none, none, none, none,
  none, none, none, none, none, none, none, none, none, none, none, none, none, none, none, none, none, none, none,
  none, none, none, none, none]
theorem laws_FnExactInChanges_c1 (D : Oracle true) (J : List Nat × St true → Option (SV true × List (List (SV true)))) (s0 : ByteArray) (c1 : Fl true) (e1 : List (List (Leaf true))) (c2 : Fl true) (e2 : List (List (Leaf true))) (c8 : Fl true) (e8 : List (List (Leaf true))) : nameF Go.Proofs.Try.prog D Go.Vs.Hs F.laws_FnExactInChanges [way 10] 0 J (way 8, laws_FnExactInChanges_s1 s0 c1 e1 c2 e2 c8 e8) =
  (D F.laws_toInDefS [SV.leaf (Leaf.sl c1 e1)] []).bind fun (r : SV true × List (List (SV true))) =>
 svSlK r.fst fun (c : Fl true) (es : List (List (Leaf true))) =>
  (D F.laws_toInDefS [SV.leaf (Leaf.sl c2 e2)] []).bind fun (r : SV true × List (List (SV true))) =>
   svSlK r.fst fun (c_1 : Fl true) (es_1 : List (List (Leaf true))) =>
    J
     (way 10,
      St.mk
       [SV.leaf (Leaf.str s0), SV.leaf (Leaf.sl c1 e1), SV.leaf (Leaf.sl c2 e2), SV.any, SV.any, SV.any, SV.any, SV.any,
        SV.leaf (Leaf.sl c8 e8), SV.leaf (Leaf.sl c es), SV.leaf (Leaf.sl c_1 es_1), SV.any, SV.any, SV.any, SV.any,
        SV.any, SV.any, SV.any, SV.any, SV.any, SV.any, SV.any, SV.any, SV.any, SV.any, SV.any, SV.any, SV.any, SV.any,
        SV.any, SV.any, SV.any, SV.any, SV.any, SV.any, SV.any, SV.any, SV.any, SV.any, SV.any, SV.any, SV.any, SV.any,
        SV.any, SV.any, SV.any, SV.any, SV.any, SV.any, SV.any, SV.any, SV.any, SV.any, SV.any, SV.any, SV.any, SV.any,
        SV.any, SV.any, SV.any, SV.any, SV.any, SV.any, SV.any, SV.any, SV.any, SV.any, SV.any, SV.any, SV.any, SV.any,
        SV.any, SV.any, SV.any, SV.any, SV.any, SV.any, SV.any, SV.any, SV.any, SV.any, SV.any, SV.any, SV.any, SV.any,
        SV.any, SV.any, SV.any, SV.any, SV.any, SV.any, SV.any, SV.any, SV.any, SV.any, SV.any, SV.any, SV.any, SV.any,
        SV.any]
       [none, none, none, none, none, none, none, none, none, none, none, none, none, none, none, none, none, none,
        none, none, none, none, none, none, none, none, none, none, none, none, none, none, none, none, none, none,
        none, none, none, none, none, none, none, none, none, none, none, none, none, none, none, none, none, none,
        none, none, none, none, none, none, none, none, none, none, none, none, none, none, none, none, none, none,
        none, none, none, none, none, none, none, none, none, none, none, none, none, none, none, none, none, none,
        none, none, none, none, none, none, none, none, none, none]) := by
  revert J
  refine id ?_
  intro J
  kernel_rfl
def laws_FnExactInChanges_s2 (s0 : ByteArray) (c1 : Fl true) (e1 : List (List (Leaf true))) (c2 : Fl true) (e2 : List (List (Leaf true))) (c8 : Fl true) (e8 : List (List (Leaf true))) (c9 : Fl true) (e9 : List (List (Leaf true))) (c10 : Fl true) (e10 : List (List (Leaf true))) : St true := St.mk
 [SV.leaf (Leaf.str s0), SV.leaf (Leaf.sl c1 e1), SV.leaf (Leaf.sl c2 e2), SV.any, SV.any, SV.any, SV.any, SV.any,
  SV.leaf (Leaf.sl c8 e8), SV.leaf (Leaf.sl c9 e9), SV.leaf (Leaf.sl c10 e10), SV.any, SV.any, SV.any, SV.any, SV.any,
  SV.any, SV.any, SV.any, SV.any, SV.any, SV.any, SV.any, SV.any, SV.any, SV.any, SV.any, SV.any, SV.any, SV.any,
  SV.any, SV.any, SV.any, SV.any, SV.any, SV.any, SV.any, SV.any, SV.any, SV.any, SV.any, SV.any, SV.any, SV.any,
  SV.any, SV.any, SV.any, SV.any, SV.any, SV.any, SV.any, SV.any, SV.any, SV.any, SV.any, SV.any, SV.any, SV.any,
  SV.any, SV.any, SV.any, SV.any, SV.any, SV.any, SV.any, SV.any, SV.any, SV.any, SV.any, SV.any, SV.any, SV.any,
  SV.any, SV.any, SV.any, SV.any, SV.any, SV.any, SV.any, SV.any, SV.any, SV.any, SV.any, SV.any, SV.any, SV.any,
  SV.any, SV.any, SV.any, SV.any, SV.any, SV.any, SV.any, SV.any, SV.any, SV.any, SV.any, SV.any, SV.any, SV.any]
 [none, none, none, none, none, none, none, none, none, none, none, none, none, none, none, none, none, none, none,
  none, none, none, none, none, none, none, none, none, none, none, none, none, none, none, none, none, none, none,
  none, none, none, none, none, none, none, none, none, none, none, none, none, none, none, none, none, none, none,
  none, none, none, none, none, none, none, none, none, none, none, none, none, none, none, none, none, none, none,
  none, none, none, none, none, none, none, none, none, none, none, none, none, none, none, none, none, none, none,
  none, none, none, none, none]
theorem laws_FnExactInChanges_c2 (D : Oracle true) (J : List Nat × St true → Option (SV true × List (List (SV true)))) (s0 : ByteArray) (c1 : Fl true) (e1 : List (List (Leaf true))) (c2 : Fl true) (e2 : List (List (Leaf true))) (c8 : Fl true) (e8 : List (List (Leaf true))) (c9 : Fl true) (e9 : List (List (Leaf true))) (c10 : Fl true) (e10 : List (List (Leaf true))) : nameF Go.Proofs.Try.prog D Go.Vs.Hs F.laws_FnExactInChanges [way 14] 0 J (way 10, laws_FnExactInChanges_s2 s0 c1 e1 c2 e2 c8 e8 c9 e9 c10 e10) =
  (D F.impl_InChanges [SV.leaf (Leaf.str s0), SV.leaf (Leaf.sl c9 e9), SV.leaf (Leaf.sl c10 e10)] []).bind
 fun (r : SV true × List (List (SV true))) =>
 svSlK r.fst fun (c : Fl true) (es : List (List (Leaf true))) =>
  (D F.laws_eqChangeS [SV.leaf (Leaf.sl c es), SV.leaf (Leaf.sl c8 e8)] []).bind
   fun (r : SV true × List (List (SV true))) =>
   svLeafK r.fst fun (l : Leaf true) =>
    boolK l fun (b : Bool) =>
     branch (!b) (some (SV.leaf (Leaf.bool false), []))
      ((D F.laws_toInDefS [SV.leaf (Leaf.sl c1 e1)] []).bind fun (r : SV true × List (List (SV true))) =>
       svSlK r.fst fun (c_1 : Fl true) (es_1 : List (List (Leaf true))) =>
        (D F.laws_eqInDefS [SV.leaf (Leaf.sl c9 e9), SV.leaf (Leaf.sl c_1 es_1)] []).bind
         fun (r : SV true × List (List (SV true))) =>
         svLeafK r.fst fun (l : Leaf true) =>
          boolK l fun (b : Bool) =>
           branch (!b) (some (SV.leaf (Leaf.bool false), []))
            ((D F.laws_toInDefS [SV.leaf (Leaf.sl c2 e2)] []).bind fun (r : SV true × List (List (SV true))) =>
             svSlK r.fst fun (c_2 : Fl true) (es_2 : List (List (Leaf true))) =>
              (D F.laws_eqInDefS [SV.leaf (Leaf.sl c10 e10), SV.leaf (Leaf.sl c_2 es_2)] []).bind
               fun (r : SV true × List (List (SV true))) =>
               svLeafK r.fst fun (l : Leaf true) =>
                boolK l fun (b : Bool) =>
                 branch (!b) (some (SV.leaf (Leaf.bool false), []))
                  (J
                   (way 14,
                    St.mk
                     [SV.leaf (Leaf.str s0), SV.leaf (Leaf.sl c1 e1), SV.leaf (Leaf.sl c2 e2), SV.any, SV.any, SV.any,
                      SV.any, SV.any, SV.leaf (Leaf.sl c8 e8), SV.leaf (Leaf.sl c9 e9), SV.leaf (Leaf.sl c10 e10),
                      SV.leaf (Leaf.sl c es), SV.any, SV.any, SV.any, SV.any, SV.any, SV.any, SV.any, SV.any, SV.any,
                      SV.any, SV.any, SV.any, SV.any, SV.any, SV.any, SV.any, SV.any, SV.any, SV.any, SV.any, SV.any,
                      SV.any, SV.any, SV.any, SV.any, SV.any, SV.any, SV.any, SV.any, SV.any, SV.any, SV.any, SV.any,
                      SV.any, SV.any, SV.any, SV.any, SV.any, SV.any, SV.any, SV.any, SV.any, SV.any, SV.any, SV.any,
                      SV.any, SV.any, SV.any, SV.any, SV.any, SV.any, SV.any, SV.any, SV.any, SV.any, SV.any, SV.any,
                      SV.any, SV.any, SV.any, SV.any, SV.any, SV.any, SV.any, SV.any, SV.any, SV.any, SV.any, SV.any,
                      SV.any, SV.any, SV.any, SV.any, SV.any, SV.any, SV.any, SV.any, SV.any, SV.any, SV.any, SV.any,
                      SV.any, SV.any, SV.any, SV.any, SV.any, SV.any, SV.any]
                     [none, none, none, none, none, none, none, none, none, none, none, none, none, none, none, none,
                      none, none, none, none, none, none, none, none, none, none, none, none, none, none, none, none,
                      none, none, none, none, none, none, none, none, none, none, none, none, none, none, none, none,
                      none, none, none, none, none, none, none, none, none, none, none, none, none, none, none, none,
                      none, none, none, none, none, none, none, none, none, none, none, none, none, none, none, none,
                      none, none, none, none, none, none, none, none, none, none, none, none, none, none, none, none,
                      none, none, none, none])))) := by
  revert J
  refine id ?_
  intro J
  kernel_rfl
def laws_FnExactInChanges_s3 (s0 : ByteArray) (c1 : Fl true) (e1 : List (List (Leaf true))) (c2 : Fl true) (e2 : List (List (Leaf true))) (c8 : Fl true) (e8 : List (List (Leaf true))) (c9 : Fl true) (e9 : List (List (Leaf true))) (c10 : Fl true) (e10 : List (List (Leaf true))) (c11 : Fl true) (e11 : List (List (Leaf true))) : St true := St.mk
 [SV.leaf (Leaf.str s0), SV.leaf (Leaf.sl c1 e1), SV.leaf (Leaf.sl c2 e2), SV.any, SV.any, SV.any, SV.any, SV.any,
  SV.leaf (Leaf.sl c8 e8), SV.leaf (Leaf.sl c9 e9), SV.leaf (Leaf.sl c10 e10), SV.leaf (Leaf.sl c11 e11), SV.any,
  SV.any, SV.any, SV.any, SV.any, SV.any, SV.any, SV.any, SV.any, SV.any, SV.any, SV.any, SV.any, SV.any, SV.any,
  SV.any, SV.any, SV.any, SV.any, SV.any, SV.any, SV.any, SV.any, SV.any, SV.any, SV.any, SV.any, SV.any, SV.any,
  SV.any, SV.any, SV.any, SV.any, SV.any, SV.any, SV.any, SV.any, SV.any, SV.any, SV.any, SV.any, SV.any, SV.any,
  SV.any, SV.any, SV.any, SV.any, SV.any, SV.any, SV.any, SV.any, SV.any, SV.any, SV.any, SV.any, SV.any, SV.any,
  SV.any, SV.any, SV.any, SV.any, SV.any, SV.any, SV.any, SV.any, SV.any, SV.any, SV.any, SV.any, SV.any, SV.any,
  SV.any, SV.any, SV.any, SV.any, SV.any, SV.any, SV.any, SV.any, SV.any, SV.any, SV.any, SV.any, SV.any, SV.any,
  SV.any, SV.any, SV.any]
 [none, none, none, none, none, none, none, none, none, none, none, none, none, none, none, none, none, none, none,
  none, none, none, none, none, none, none, none, none, none, none, none, none, none, none, none, none, none, none,
  none, none, none, none, none, none, none, none, none, none, none, none, none, none, none, none, none, none, none,
  none, none, none, none, none, none, none, none, none, none, none, none, none, none, none, none, none, none, none,
  none, none, none, none, none, none, none, none, none, none, none, none, none, none, none, none, none, none, none,
  none, none, none, none, none]
theorem laws_FnExactInChanges_c3 (D : Oracle true) (J : List Nat × St true → Option (SV true × List (List (SV true)))) (s0 : ByteArray) (c1 : Fl true) (e1 : List (List (Leaf true))) (c2 : Fl true) (e2 : List (List (Leaf true))) (c8 : Fl true) (e8 : List (List (Leaf true))) (c9 : Fl true) (e9 : List (List (Leaf true))) (c10 : Fl true) (e10 : List (List (Leaf true))) (c11 : Fl true) (e11 : List (List (Leaf true))) : nameF Go.Proofs.Try.prog D Go.Vs.Hs F.laws_FnExactInChanges [way 18] 0 J (way 14, laws_FnExactInChanges_s3 s0 c1 e1 c2 e2 c8 e8 c9 e9 c10 e10 c11 e11) =
  (D F.laws_markInDefS [SV.leaf (Leaf.sl c9 e9), SV.leaf (Leaf.int Go.IntKind.i64 1)] []).bind
 fun (r : SV true × List (List (SV true))) =>
 lastB r.snd
  (svLeafK r.fst fun (l : Leaf true) =>
   intK Go.IntKind.i64 l fun (n : Int) =>
    (D F.laws_markInDefS [SV.leaf (Leaf.sl c10 e10), SV.leaf (Leaf.int Go.IntKind.i64 n)] []).bind
     fun (r : SV true × List (List (SV true))) =>
     lastB r.snd
      (svLeafK r.fst fun (l : Leaf true) =>
       intK Go.IntKind.i64 l fun (n : Int) =>
        branch (decide (n < 0) == false)
         ((D F.laws_eqChangeS [SV.leaf (Leaf.sl c11 e11), SV.leaf (Leaf.sl c8 e8)] []).bind
          fun (r : SV true × List (List (SV true))) =>
          svLeafK r.fst fun (l : Leaf true) =>
           boolK l fun (b : Bool) =>
            branch (!b) (some (SV.leaf (Leaf.bool false), []))
             (J
              (way 18,
               St.mk
                [SV.leaf (Leaf.str s0), SV.leaf (Leaf.sl c1 e1), SV.leaf (Leaf.sl c2 e2), SV.any, SV.any, SV.any,
                 SV.any, SV.any, SV.leaf (Leaf.sl c8 e8), SV.any, SV.any, SV.leaf (Leaf.sl c11 e11), SV.any, SV.any,
                 SV.any, SV.any, SV.any, SV.any, SV.any, SV.any, SV.any, SV.any, SV.any, SV.any, SV.any, SV.any, SV.any,
                 SV.any, SV.any, SV.any, SV.any, SV.any, SV.any, SV.any, SV.any, SV.any, SV.any, SV.any, SV.any, SV.any,
                 SV.any, SV.any, SV.any, SV.any, SV.any, SV.any, SV.any, SV.any, SV.any, SV.any, SV.any, SV.any, SV.any,
                 SV.any, SV.any, SV.any, SV.any, SV.any, SV.any, SV.any, SV.any, SV.any, SV.any, SV.any, SV.any, SV.any,
                 SV.any, SV.any, SV.any, SV.any, SV.any, SV.any, SV.any, SV.any, SV.any, SV.any, SV.any, SV.any, SV.any,
                 SV.any, SV.any, SV.any, SV.any, SV.any, SV.any, SV.any, SV.any, SV.any, SV.any, SV.any, SV.any, SV.any,
                 SV.any, SV.any, SV.any, SV.any, SV.any, SV.any, SV.any, SV.any]
                [none, none, none, none, none, none, none, none, none, none, none, none, none, none, none, none, none,
                 none, none, none, none, none, none, none, none, none, none, none, none, none, none, none, none, none,
                 none, none, none, none, none, none, none, none, none, none, none, none, none, none, none, none, none,
                 none, none, none, none, none, none, none, none, none, none, none, none, none, none, none, none, none,
                 none, none, none, none, none, none, none, none, none, none, none, none, none, none, none, none, none,
                 none, none, none, none, none, none, none, none, none, none, none, none, none, none, none])))
         (some (SV.leaf (Leaf.bool false), [])))) := by
  revert J
  refine id ?_
  intro J
  kernel_rfl
def laws_FnExactInChanges_s4 (s0 : ByteArray) (c1 : Fl true) (e1 : List (List (Leaf true))) (c2 : Fl true) (e2 : List (List (Leaf true))) (c8 : Fl true) (e8 : List (List (Leaf true))) (c11 : Fl true) (e11 : List (List (Leaf true))) : St true := St.mk
 [SV.leaf (Leaf.str s0), SV.leaf (Leaf.sl c1 e1), SV.leaf (Leaf.sl c2 e2), SV.any, SV.any, SV.any, SV.any, SV.any,
  SV.leaf (Leaf.sl c8 e8), SV.any, SV.any, SV.leaf (Leaf.sl c11 e11), SV.any, SV.any, SV.any, SV.any, SV.any, SV.any,
  SV.any, SV.any, SV.any, SV.any, SV.any, SV.any, SV.any, SV.any, SV.any, SV.any, SV.any, SV.any, SV.any, SV.any,
  SV.any, SV.any, SV.any, SV.any, SV.any, SV.any, SV.any, SV.any, SV.any, SV.any, SV.any, SV.any, SV.any, SV.any,
  SV.any, SV.any, SV.any, SV.any, SV.any, SV.any, SV.any, SV.any, SV.any, SV.any, SV.any, SV.any, SV.any, SV.any,
  SV.any, SV.any, SV.any, SV.any, SV.any, SV.any, SV.any, SV.any, SV.any, SV.any, SV.any, SV.any, SV.any, SV.any,
  SV.any, SV.any, SV.any, SV.any, SV.any, SV.any, SV.any, SV.any, SV.any, SV.any, SV.any, SV.any, SV.any, SV.any,
  SV.any, SV.any, SV.any, SV.any, SV.any, SV.any, SV.any, SV.any, SV.any, SV.any, SV.any, SV.any]
 [none, none, none, none, none, none, none, none, none, none, none, none, none, none, none, none, none, none, none,
  none, none, none, none, none, none, none, none, none, none, none, none, none, none, none, none, none, none, none,
  none, none, none, none, none, none, none, none, none, none, none, none, none, none, none, none, none, none, none,
  none, none, none, none, none, none, none, none, none, none, none, none, none, none, none, none, none, none, none,
  none, none, none, none, none, none, none, none, none, none, none, none, none, none, none, none, none, none, none,
  none, none, none, none, none]
theorem laws_FnExactInChanges_c4 (D : Oracle true) (J : List Nat × St true → Option (SV true × List (List (SV true)))) (s0 : ByteArray) (c1 : Fl true) (e1 : List (List (Leaf true))) (c2 : Fl true) (e2 : List (List (Leaf true))) (c8 : Fl true) (e8 : List (List (Leaf true))) (c11 : Fl true) (e11 : List (List (Leaf true))) : nameF Go.Proofs.Try.prog D Go.Vs.Hs F.laws_FnExactInChanges [] 0 J (way 18, laws_FnExactInChanges_s4 s0 c1 e1 c2 e2 c8 e8 c11 e11) =
  (D F.laws_markChangeS [SV.leaf (Leaf.sl c11 e11), SV.leaf (Leaf.int Go.IntKind.i64 1)] []).bind
 fun (r : SV true × List (List (SV true))) =>
 lastB r.snd
  (svLeafK r.fst fun (l : Leaf true) =>
   intK Go.IntKind.i64 l fun (n : Int) =>
    (D F.laws_heldChangeS [SV.leaf (Leaf.sl c11 e11), SV.leaf (Leaf.int Go.IntKind.i64 1)] []).bind
     fun (r : SV true × List (List (SV true))) =>
     lastB r.snd
      (svLeafK r.fst fun (l : Leaf true) =>
       intK Go.IntKind.i64 l fun (n_1 : Int) =>
        branch (decide (n_1 < 0)) (some (SV.leaf (Leaf.bool false), []))
         (branch (n_1 != n) (some (SV.leaf (Leaf.bool false), []))
          ((D F.laws_toInDefS [SV.leaf (Leaf.sl c1 e1)] []).bind fun (r : SV true × List (List (SV true))) =>
           svSlK r.fst fun (c : Fl true) (es : List (List (Leaf true))) =>
            (D F.laws_toInDefS [SV.leaf (Leaf.sl c2 e2)] []).bind fun (r : SV true × List (List (SV true))) =>
             svSlK r.fst fun (c_1 : Fl true) (es_1 : List (List (Leaf true))) =>
              (D F.impl_InChanges [SV.leaf (Leaf.str s0), SV.leaf (Leaf.sl c es), SV.leaf (Leaf.sl c_1 es_1)] []).bind
               fun (r : SV true × List (List (SV true))) =>
               svSlK r.fst fun (c : Fl true) (es : List (List (Leaf true))) =>
                (D F.laws_eqChangeS [SV.leaf (Leaf.sl c es), SV.leaf (Leaf.sl c8 e8)] []).bind
                 fun (r : SV true × List (List (SV true))) =>
                 svLeafK r.fst fun (l : Leaf true) =>
                  boolK l fun (b : Bool) =>
                   branch (!b) (some (SV.leaf (Leaf.bool false), []))
                    ((D F.laws_heldChangeS [SV.leaf (Leaf.sl c11 e11), SV.leaf (Leaf.int Go.IntKind.i64 1)] []).bind
                     fun (r : SV true × List (List (SV true))) =>
                     lastB r.snd
                      (svLeafK r.fst fun (l : Leaf true) =>
                       intK Go.IntKind.i64 l fun (n_2 : Int) =>
                        branch (decide (n_2 < 0)) (some (SV.leaf (Leaf.bool false), []))
                         (branch (n_2 != n) (some (SV.leaf (Leaf.bool false), []))
                          (some (SV.leaf (Leaf.bool true), []))))))))) := by
  revert J
  refine id ?_
  intro J
  kernel_rfl
def laws_FnExactInChanges_s4r (s0 : ByteArray) (c1 : Fl true) (e1 : List (List (Leaf true))) (c2 : Fl true) (e2 : List (List (Leaf true))) (c8 : Fl true) (e8 : List (List (Leaf true))) (n11 : Nat) (vx11 : List (SV true)) : St true := St.mk
 [SV.leaf (Leaf.str s0), SV.leaf (Leaf.sl c1 e1), SV.leaf (Leaf.sl c2 e2), SV.any, SV.any, SV.any, SV.any, SV.any,
  SV.leaf (Leaf.sl c8 e8), SV.any, SV.any, SV.bsl 11 3 0 n11, SV.any, SV.any, SV.any, SV.any, SV.any, SV.any, SV.any,
  SV.any, SV.any, SV.any, SV.any, SV.any, SV.any, SV.any, SV.any, SV.any, SV.any, SV.any, SV.any, SV.any, SV.any,
  SV.any, SV.any, SV.any, SV.any, SV.any, SV.any, SV.any, SV.any, SV.any, SV.any, SV.any, SV.any, SV.any, SV.any,
  SV.any, SV.any, SV.any, SV.any, SV.any, SV.any, SV.any, SV.any, SV.any, SV.any, SV.any, SV.any, SV.any, SV.any,
  SV.any, SV.any, SV.any, SV.any, SV.any, SV.any, SV.any, SV.any, SV.any, SV.any, SV.any, SV.any, SV.any, SV.any,
  SV.any, SV.any, SV.any, SV.any, SV.any, SV.any, SV.any, SV.any, SV.any, SV.any, SV.any, SV.any, SV.any, SV.any,
  SV.any, SV.any, SV.any, SV.any, SV.any, SV.any, SV.any, SV.any, SV.any, SV.any, SV.any]
 [none, none, none, none, none, none, none, none, none, none, none, some vx11, none, none, none, none, none, none, none,
  none, none, none, none, none, none, none, none, none, none, none, none, none, none, none, none, none, none, none,
  none, none, none, none, none, none, none, none, none, none, none, none, none, none, none, none, none, none, none,
  none, none, none, none, none, none, none, none, none, none, none, none, none, none, none, none, none, none, none,
  none, none, none, none, none, none, none, none, none, none, none, none, none, none, none, none, none, none, none,
  none, none, none, none, none]
theorem laws_FnExactInChanges_c4r (D : Oracle true) (J : List Nat × St true → Option (SV true × List (List (SV true)))) (s0 : ByteArray) (c1 : Fl true) (e1 : List (List (Leaf true))) (c2 : Fl true) (e2 : List (List (Leaf true))) (c8 : Fl true) (e8 : List (List (Leaf true))) (n11 : Nat) (vx11 : List (SV true)) : nameF Go.Proofs.Try.prog D Go.Vs.Hs F.laws_FnExactInChanges [] 0 J (way 18, laws_FnExactInChanges_s4r s0 c1 e1 c2 e2 c8 e8 n11 vx11) =
  guarded ([vx11].all fun (x : List (SV true)) => x.all SV.flat)
 ((D F.laws_markChangeS [SV.bsl 0 3 0 n11, SV.leaf (Leaf.int Go.IntKind.i64 1)] [vx11]).bind
  fun (r : SV true × List (List (SV true))) =>
  headB r.snd fun (d : List (SV true)) (r_1 : List (List (SV true))) =>
   lastB r_1
    (svLeafK r.fst fun (l : Leaf true) =>
     intK Go.IntKind.i64 l fun (n : Int) =>
      guarded ([d].all fun (x : List (SV true)) => x.all SV.flat)
       ((D F.laws_heldChangeS [SV.bsl 0 3 0 n11, SV.leaf (Leaf.int Go.IntKind.i64 1)] [d]).bind
        fun (r : SV true × List (List (SV true))) =>
        headB r.snd fun (d : List (SV true)) (r_2 : List (List (SV true))) =>
         lastB r_2
          (svLeafK r.fst fun (l : Leaf true) =>
           intK Go.IntKind.i64 l fun (n_1 : Int) =>
            branch (decide (n_1 < 0)) (some (SV.leaf (Leaf.bool false), []))
             (branch (n_1 != n) (some (SV.leaf (Leaf.bool false), []))
              ((D F.laws_toInDefS [SV.leaf (Leaf.sl c1 e1)] []).bind fun (r : SV true × List (List (SV true))) =>
               svSlK r.fst fun (c : Fl true) (es : List (List (Leaf true))) =>
                (D F.laws_toInDefS [SV.leaf (Leaf.sl c2 e2)] []).bind fun (r : SV true × List (List (SV true))) =>
                 svSlK r.fst fun (c_1 : Fl true) (es_1 : List (List (Leaf true))) =>
                  (D F.impl_InChanges [SV.leaf (Leaf.str s0), SV.leaf (Leaf.sl c es), SV.leaf (Leaf.sl c_1 es_1)]
                     []).bind
                   fun (r : SV true × List (List (SV true))) =>
                   svSlK r.fst fun (c : Fl true) (es : List (List (Leaf true))) =>
                    (D F.laws_eqChangeS [SV.leaf (Leaf.sl c es), SV.leaf (Leaf.sl c8 e8)] []).bind
                     fun (r : SV true × List (List (SV true))) =>
                     svLeafK r.fst fun (l : Leaf true) =>
                      boolK l fun (b : Bool) =>
                       branch (!b) (some (SV.leaf (Leaf.bool false), []))
                        (guarded ([d].all fun (x : List (SV true)) => x.all SV.flat)
                         ((D F.laws_heldChangeS [SV.bsl 0 3 0 n11, SV.leaf (Leaf.int Go.IntKind.i64 1)] [d]).bind
                          fun (r : SV true × List (List (SV true))) =>
                          headB r.snd fun (d : List (SV true)) (r_3 : List (List (SV true))) =>
                           lastB r_3
                            (svLeafK r.fst fun (l : Leaf true) =>
                             intK Go.IntKind.i64 l fun (n_2 : Int) =>
                              branch (decide (n_2 < 0)) (some (SV.leaf (Leaf.bool false), []))
                               (branch (n_2 != n) (some (SV.leaf (Leaf.bool false), []))
                                (some (SV.leaf (Leaf.bool true), [])))))))))))) := by
  revert J
  refine id ?_
  intro J
  kernel_rfl
end Go.Vs
end
