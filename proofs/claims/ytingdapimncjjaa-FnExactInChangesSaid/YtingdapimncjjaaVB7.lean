/- What the program's functions compute, read off their text by the shadow runner (CD); no condition. -/
import Derived.Test.YtingdapimncjjaaVB6
section
open Go Go.Vs Go.Proofs
set_option maxRecDepth 100000
set_option linter.unusedVariables false
namespace Go.Vs
-- FN 14 d_laws_toInDefS
noncomputable def d_laws_toInDefS_A (D : Oracle true) (x : List Nat × St true) : Option (SV true × List (List (SV true))) := atF Go.Proofs.Try.prog D Go.Vs.Hs F.laws_toInDefS x.1 0 x.2
def d_laws_toInDefS_0 (c0 : Fl true) (e0 : List (List (Leaf true))) (n3 : Nat) (i4 : Int) (vx7 : List (SV true)) : List Nat × St true := ([1, 1, 0, 1, 0], St.mk
 [SV.leaf (Leaf.sl c0 e0), SV.any, SV.any, SV.bsl 7 10 0 n3, SV.leaf (Leaf.int Go.IntKind.i64 i4), SV.any, SV.any,
  SV.any, SV.any, SV.any, SV.any, SV.any, SV.any, SV.any, SV.any, SV.any, SV.any, SV.any, SV.any, SV.any, SV.any,
  SV.any, SV.any]
 [none, none, none, none, none, none, none, some vx7, none, none, none, none, none, none, none, none, none, none, none,
  none, none, none, none])
theorem d_laws_toInDefS_0_eq (D : Oracle true) (c0 : Fl true) (e0 : List (List (Leaf true))) (n3 : Nat) (i4 : Int) (vx7 : List (SV true)) : d_laws_toInDefS_A D (d_laws_toInDefS_0 c0 e0 n3 i4 vx7) =
  branch (decide (i4 < (↑e0.length : Int)))
 (guarded (decide (0 ≤ i4) && decide (i4 < (↑e0.length : Int)) && sized 10 e0)
  (bindE (e0.getD i4.toNat []) fun (e : List (Leaf true)) =>
   atK e 0 fun (l : Leaf true) =>
    strK l fun (s : ByteArray) =>
     atK e 1 fun (l : Leaf true) =>
      strK l fun (s_1 : ByteArray) =>
       atK e 2 fun (l : Leaf true) =>
        strK l fun (s_2 : ByteArray) =>
         atK e 3 fun (l : Leaf true) =>
          strK l fun (s_3 : ByteArray) =>
           atK e 4 fun (l : Leaf true) =>
            boolK l fun (b : Bool) =>
             atK e 5 fun (l : Leaf true) =>
              intK Go.IntKind.i64 l fun (n : Int) =>
               atK e 6 fun (l : Leaf true) =>
                strK l fun (s_4 : ByteArray) =>
                 atK e 7 fun (l : Leaf true) =>
                  slK l fun (c : Fl true) (es : List (List (Leaf true))) =>
                   atK e 8 fun (l : Leaf true) =>
                    slK l fun (c_1 : Fl true) (es_1 : List (List (Leaf true))) =>
                     atK e 9 fun (l : Leaf true) =>
                      slK l fun (c_2 : Fl true) (es_2 : List (List (Leaf true))) =>
                       (D F.laws_toInDef
                          [SV.agg
                            [Leaf.str s, Leaf.str s_1, Leaf.str s_2, Leaf.str s_3, Leaf.bool b,
                             Leaf.int Go.IntKind.i64 n, Leaf.str s_4, Leaf.sl c es, Leaf.sl c_1 es_1, Leaf.sl c_2 es_2]]
                          []).bind
                        fun (r : SV true × List (List (SV true))) =>
                        svAggK r.fst fun (cs : List (Leaf true)) =>
                         guarded (cs.length == 10)
                          (atK cs 0 fun (l : Leaf true) =>
                           strK l fun (s : ByteArray) =>
                            atK cs 1 fun (l : Leaf true) =>
                             strK l fun (s_5 : ByteArray) =>
                              atK cs 2 fun (l : Leaf true) =>
                               strK l fun (s_6 : ByteArray) =>
                                atK cs 3 fun (l : Leaf true) =>
                                 strK l fun (s_7 : ByteArray) =>
                                  atK cs 4 fun (l : Leaf true) =>
                                   boolK l fun (b : Bool) =>
                                    atK cs 5 fun (l : Leaf true) =>
                                     intK Go.IntKind.i64 l fun (n : Int) =>
                                      atK cs 6 fun (l : Leaf true) =>
                                       strK l fun (s_8 : ByteArray) =>
                                        atK cs 7 fun (l : Leaf true) =>
                                         slK l fun (c : Fl true) (es : List (List (Leaf true))) =>
                                          atK cs 8 fun (l : Leaf true) =>
                                           slK l fun (c_3 : Fl true) (es_3 : List (List (Leaf true))) =>
                                            atK cs 9 fun (l : Leaf true) =>
                                             slK l fun (c_4 : Fl true) (es_4 : List (List (Leaf true))) =>
                                              guarded (decide (0 ≤ i4) && decide (i4 < (↑n3 : Int)))
                                               (guarded (decide ((0 + i4.toNat) * 10 + 10 ≤ vx7.length))
                                                (d_laws_toInDefS_A D
                                                 (d_laws_toInDefS_0 c0 e0 n3 (Go.IntKind.i64.wrap (i4 + 1))
                                                  (putAt vx7 ((0 + i4.toNat) * 10)
                                                   [SV.leaf (Leaf.str s), SV.leaf (Leaf.str s_5),
                                                    SV.leaf (Leaf.str s_6), SV.leaf (Leaf.str s_7),
                                                    SV.leaf (Leaf.bool b), SV.leaf (Leaf.int Go.IntKind.i64 n),
                                                    SV.leaf (Leaf.str s_8), SV.leaf (Leaf.sl c es),
                                                    SV.leaf (Leaf.sl c_3 es_3), SV.leaf (Leaf.sl c_4 es_4)])))))))
 ((if n3 * 10 ≤ vx7.length ∧ 0 < 10 then
    match asLeaves (List.take (n3 * 10) vx7) with
    | some x => some ((fun (l : List (Leaf true)) => SV.leaf (Leaf.sl (Fl.new true) (chunks 10 n3 l))) x)
    | none => none
   else none).bind
  fun (v : SV true) => guarded v.flatT (some (v, []))) := by
  refine (nameF_eq (J := d_laws_toInDefS_A D) (fun _ _ => rfl) [[1, 1, 0, 1, 0]] (d_laws_toInDefS_0 c0 e0 n3 i4 vx7)).trans ?_
  generalize d_laws_toInDefS_A D = J
  revert J
  refine id ?_
  intro J
  kernel_rfl
theorem run_d_laws_toInDefS (D : Oracle true) (c0 : Fl true) (e0 : List (List (Leaf true))) : run2V Go.Proofs.Try.prog D Go.Vs.Hs limR F.laws_toInDefS [SV.leaf (Leaf.sl c0 e0)] [] =
  guarded
 ((↑e0.length : Int) == (↑e0.length : Int) && decide ((↑e0.length : Int).toNat * 168 ≤ maxBytes) &&
  decide ((↑e0.length : Int).toNat ≤ maxBytes))
 (d_laws_toInDefS_A D
  (d_laws_toInDefS_0 c0 e0
   (decide (0 ≤ (↑e0.length : Int)) && (↑e0.length : Int) == (↑e0.length : Int) &&
         decide ((↑e0.length : Int).toNat * Go.Proofs.Try.prog.types[65].bytes ≤ maxBytes) &&
        decide ((↑e0.length : Int).toNat ≤ maxBytes),
       (Go.Proofs.Try.prog.types[65].size, (↑e0.length : Int).toNat),
       List.map SV.leaf
        (List.replicate (↑e0.length : Int).toNat
          ((fun (x : List (Leaf true)) => Leaf.str (ByteArray.mk #[]) :: x)
           ((fun (x : List (Leaf true)) => Leaf.str (ByteArray.mk #[]) :: x)
            ((fun (x : List (Leaf true)) => Leaf.str (ByteArray.mk #[]) :: x)
             ((fun (x : List (Leaf true)) => Leaf.str (ByteArray.mk #[]) :: x)
              ((fun (x : List (Leaf true)) => Leaf.bool false :: x)
               ((fun (x : List (Leaf true)) => Leaf.int Go.IntKind.i64 0 :: x)
                ((fun (x : List (Leaf true)) => Leaf.str (ByteArray.mk #[]) :: x)
                 ((fun (x : List (Leaf true)) => Leaf.sl (Fl.new true) [] :: x)
                  ((fun (x : List (Leaf true)) => Leaf.sl (Fl.new true) [] :: x)
                   ((fun (x : List (Leaf true)) => Leaf.sl (Fl.new true) [] :: x) []))))))))))).flatten).snd.fst.snd
   0
   (decide (0 ≤ (↑e0.length : Int)) && (↑e0.length : Int) == (↑e0.length : Int) &&
        decide ((↑e0.length : Int).toNat * Go.Proofs.Try.prog.types[65].bytes ≤ maxBytes) &&
       decide ((↑e0.length : Int).toNat ≤ maxBytes),
      (Go.Proofs.Try.prog.types[65].size, (↑e0.length : Int).toNat),
      List.map SV.leaf
       (List.replicate (↑e0.length : Int).toNat
         ((fun (x : List (Leaf true)) => Leaf.str (ByteArray.mk #[]) :: x)
          ((fun (x : List (Leaf true)) => Leaf.str (ByteArray.mk #[]) :: x)
           ((fun (x : List (Leaf true)) => Leaf.str (ByteArray.mk #[]) :: x)
            ((fun (x : List (Leaf true)) => Leaf.str (ByteArray.mk #[]) :: x)
             ((fun (x : List (Leaf true)) => Leaf.bool false :: x)
              ((fun (x : List (Leaf true)) => Leaf.int Go.IntKind.i64 0 :: x)
               ((fun (x : List (Leaf true)) => Leaf.str (ByteArray.mk #[]) :: x)
                ((fun (x : List (Leaf true)) => Leaf.sl (Fl.new true) [] :: x)
                 ((fun (x : List (Leaf true)) => Leaf.sl (Fl.new true) [] :: x)
                  ((fun (x : List (Leaf true)) => Leaf.sl (Fl.new true) [] :: x) []))))))))))).flatten).snd.snd)) := by
  refine (run_names (J := d_laws_toInDefS_A D) (by kernel_rfl) (fun _ _ => rfl) [[1, 1, 0, 1, 0]]).trans ?_
  generalize d_laws_toInDefS_A D = J
  revert J
  refine id ?_
  intro J
  kernel_rfl
-- FN 17 d_laws_markInDefS
noncomputable def d_laws_markInDefS_A (D : Oracle true) (x : List Nat × St true) : Option (SV true × List (List (SV true))) := atF Go.Proofs.Try.prog D Go.Vs.Hs F.laws_markInDefS x.1 0 x.2
def d_laws_markInDefS_0 (e0 : List (List (Leaf true))) (i1 : Int) (i5 : Int) : List Nat × St true := ([1, 0, 1, 0], St.mk
 [SV.leaf (Leaf.sl fSoft e0), SV.leaf (Leaf.int Go.IntKind.i64 i1), SV.any, SV.any, SV.any,
  SV.leaf (Leaf.int Go.IntKind.i64 i5), SV.any, SV.any, SV.any, SV.any, SV.any, SV.any, SV.any, SV.any, SV.any, SV.any,
  SV.any, SV.any, SV.any, SV.any, SV.any, SV.any, SV.any, SV.any, SV.any, SV.any, SV.any, SV.any, SV.any, SV.any,
  SV.any, SV.any, SV.any, SV.any, SV.any, SV.any, SV.any, SV.any, SV.any, SV.any, SV.any, SV.any, SV.any, SV.any,
  SV.any, SV.any, SV.any, SV.any, SV.any, SV.any, SV.any, SV.any, SV.any, SV.any, SV.any, SV.any, SV.any, SV.any,
  SV.any, SV.any, SV.any, SV.any, SV.any, SV.any, SV.any, SV.any, SV.any, SV.any, SV.any, SV.any, SV.any, SV.any,
  SV.any, SV.any, SV.any, SV.any, SV.any, SV.any, SV.any, SV.any, SV.any, SV.any, SV.any, SV.any, SV.any, SV.any,
  SV.any, SV.any, SV.any, SV.any, SV.any, SV.any, SV.any, SV.any, SV.any, SV.any]
 [none, none, none, none, none, none, none, none, none, none, none, none, none, none, none, none, none, none, none,
  none, none, none, none, none, none, none, none, none, none, none, none, none, none, none, none, none, none, none,
  none, none, none, none, none, none, none, none, none, none, none, none, none, none, none, none, none, none, none,
  none, none, none, none, none, none, none, none, none, none, none, none, none, none, none, none, none, none, none,
  none, none, none, none, none, none, none, none, none, none, none, none, none, none, none, none, none, none, none,
  none])
theorem d_laws_markInDefS_0_eq (D : Oracle true) (e0 : List (List (Leaf true))) (i1 : Int) (i5 : Int) : d_laws_markInDefS_A D (d_laws_markInDefS_0 e0 i1 i5) =
  branch (decide (i5 < (↑e0.length : Int)))
 ((D F.laws_markText [SV.leaf (Leaf.int Go.IntKind.i64 i1)] []).bind fun (r : SV true × List (List (SV true))) =>
  svLeafK r.fst fun (l : Leaf true) =>
   strK l fun (s : ByteArray) =>
    guarded (decide (0 ≤ i5) && decide (i5 < (↑e0.length : Int)) && sized 10 e0)
     (if
       (fSoft.isSoft = true ∧ softAt (e0.getD i5.toNat []) 0 = true) ∧
        ((St.mk
              [SV.leaf (Leaf.sl fSoft e0), SV.leaf (Leaf.int Go.IntKind.i64 i1), SV.any, SV.any, SV.any,
               SV.leaf (Leaf.int Go.IntKind.i64 i5), SV.any, SV.any, SV.any, SV.any, SV.any, SV.any,
               SV.leaf (Leaf.sl fSoft e0), SV.leaf (Leaf.int Go.IntKind.i64 i5), SV.leaf (Leaf.int Go.IntKind.i64 i1),
               SV.leaf (Leaf.str s), SV.eptr fSoft (e0.getD i5.toNat []) 0, SV.eptr fSoft (e0.getD i5.toNat []) 0,
               SV.any, SV.any, SV.any, SV.any, SV.any, SV.any, SV.any, SV.any, SV.any, SV.any, SV.any, SV.any, SV.any,
               SV.any, SV.any, SV.any, SV.any, SV.any, SV.any, SV.any, SV.any, SV.any, SV.any, SV.any, SV.any, SV.any,
               SV.any, SV.any, SV.any, SV.any, SV.any, SV.any, SV.any, SV.any, SV.any, SV.any, SV.any, SV.any, SV.any,
               SV.any, SV.any, SV.any, SV.any, SV.any, SV.any, SV.any, SV.any, SV.any, SV.any, SV.any, SV.any, SV.any,
               SV.any, SV.any, SV.any, SV.any, SV.any, SV.any, SV.any, SV.any, SV.any, SV.any, SV.any, SV.any, SV.any,
               SV.any, SV.any, SV.any, SV.any, SV.any, SV.any, SV.any, SV.any, SV.any, SV.any, SV.any, SV.any, SV.any]
              [none, none, none, none, none, none, none, none, none, none, none, none, none, none, none, none, none,
               none, none, none, none, none, none, none, none, none, none, none, none, none, none, none, none, none,
               none, none, none, none, none, none, none, none, none, none, none, none, none, none, none, none, none,
               none, none, none, none, none, none, none, none, none, none, none, none, none, none, none, none, none,
               none, none, none, none, none, none, none, none, none, none, none, none, none, none, none, none, none,
               none, none, none, none, none, none, none, none, none, none, none]).eval
            (Go.Operand.tmp 15)).plain =
          true ∧
         sizeT Go.Proofs.Try.prog 9 = some 1 then
      (D F.laws_markText [SV.leaf (Leaf.int Go.IntKind.i64 (Go.IntKind.i64.wrap (i1 + 1)))] []).bind
       fun (r : SV true × List (List (SV true))) =>
       svLeafK r.fst fun (l : Leaf true) =>
        strK l fun (s : ByteArray) =>
         guarded (decide (0 ≤ i5) && decide (i5 < (↑e0.length : Int)) && sized 10 e0)
          (if
            (fSoft.isSoft = true ∧ softAt (e0.getD i5.toNat []) 1 = true) ∧
             ((St.mk
                   [SV.leaf (Leaf.sl fSoft e0), SV.leaf (Leaf.int Go.IntKind.i64 (Go.IntKind.i64.wrap (i1 + 1))),
                    SV.any, SV.any, SV.any, SV.leaf (Leaf.int Go.IntKind.i64 i5), SV.any, SV.any, SV.any, SV.any,
                    SV.any, SV.any, SV.any, SV.any, SV.any, SV.any, SV.any, SV.any, SV.any, SV.any,
                    SV.leaf (Leaf.sl fSoft e0), SV.leaf (Leaf.int Go.IntKind.i64 i5),
                    SV.leaf (Leaf.int Go.IntKind.i64 (Go.IntKind.i64.wrap (i1 + 1))), SV.leaf (Leaf.str s),
                    SV.eptr fSoft (e0.getD i5.toNat []) 0, SV.eptr fSoft (e0.getD i5.toNat []) 1, SV.any, SV.any,
                    SV.any, SV.any, SV.any, SV.any, SV.any, SV.any, SV.any, SV.any, SV.any, SV.any, SV.any, SV.any,
                    SV.any, SV.any, SV.any, SV.any, SV.any, SV.any, SV.any, SV.any, SV.any, SV.any, SV.any, SV.any,
                    SV.any, SV.any, SV.any, SV.any, SV.any, SV.any, SV.any, SV.any, SV.any, SV.any, SV.any, SV.any,
                    SV.any, SV.any, SV.any, SV.any, SV.any, SV.any, SV.any, SV.any, SV.any, SV.any, SV.any, SV.any,
                    SV.any, SV.any, SV.any, SV.any, SV.any, SV.any, SV.any, SV.any, SV.any, SV.any, SV.any, SV.any,
                    SV.any, SV.any, SV.any, SV.any, SV.any, SV.any, SV.any, SV.any]
                   [none, none, none, none, none, none, none, none, none, none, none, none, none, none, none, none,
                    none, none, none, none, none, none, none, none, none, none, none, none, none, none, none, none,
                    none, none, none, none, none, none, none, none, none, none, none, none, none, none, none, none,
                    none, none, none, none, none, none, none, none, none, none, none, none, none, none, none, none,
                    none, none, none, none, none, none, none, none, none, none, none, none, none, none, none, none,
                    none, none, none, none, none, none, none, none, none, none, none, none, none, none, none,
                    none]).eval
                 (Go.Operand.tmp 23)).plain =
               true ∧
              sizeT Go.Proofs.Try.prog 9 = some 1 then
           (D F.laws_markText
              [SV.leaf (Leaf.int Go.IntKind.i64 (Go.IntKind.i64.wrap (Go.IntKind.i64.wrap (i1 + 1) + 1)))] []).bind
            fun (r : SV true × List (List (SV true))) =>
            svLeafK r.fst fun (l : Leaf true) =>
             strK l fun (s : ByteArray) =>
              guarded (decide (0 ≤ i5) && decide (i5 < (↑e0.length : Int)) && sized 10 e0)
               (if
                 (fSoft.isSoft = true ∧ softAt (e0.getD i5.toNat []) 2 = true) ∧
                  ((St.mk
                        [SV.leaf (Leaf.sl fSoft e0),
                         SV.leaf (Leaf.int Go.IntKind.i64 (Go.IntKind.i64.wrap (Go.IntKind.i64.wrap (i1 + 1) + 1))),
                         SV.any, SV.any, SV.any, SV.leaf (Leaf.int Go.IntKind.i64 i5), SV.any, SV.any, SV.any, SV.any,
                         SV.any, SV.any, SV.any, SV.any, SV.any, SV.any, SV.any, SV.any, SV.any, SV.any, SV.any, SV.any,
                         SV.any, SV.any, SV.any, SV.any, SV.any, SV.any, SV.leaf (Leaf.sl fSoft e0),
                         SV.leaf (Leaf.int Go.IntKind.i64 i5),
                         SV.leaf (Leaf.int Go.IntKind.i64 (Go.IntKind.i64.wrap (Go.IntKind.i64.wrap (i1 + 1) + 1))),
                         SV.leaf (Leaf.str s), SV.eptr fSoft (e0.getD i5.toNat []) 0,
                         SV.eptr fSoft (e0.getD i5.toNat []) 2, SV.eptr fSoft (e0.getD i5.toNat []) 2, SV.any, SV.any,
                         SV.any, SV.any, SV.any, SV.any, SV.any, SV.any, SV.any, SV.any, SV.any, SV.any, SV.any, SV.any,
                         SV.any, SV.any, SV.any, SV.any, SV.any, SV.any, SV.any, SV.any, SV.any, SV.any, SV.any, SV.any,
                         SV.any, SV.any, SV.any, SV.any, SV.any, SV.any, SV.any, SV.any, SV.any, SV.any, SV.any, SV.any,
                         SV.any, SV.any, SV.any, SV.any, SV.any, SV.any, SV.any, SV.any, SV.any, SV.any, SV.any, SV.any,
                         SV.any, SV.any, SV.any, SV.any, SV.any, SV.any, SV.any, SV.any, SV.any, SV.any, SV.any]
                        [none, none, none, none, none, none, none, none, none, none, none, none, none, none, none, none,
                         none, none, none, none, none, none, none, none, none, none, none, none, none, none, none, none,
                         none, none, none, none, none, none, none, none, none, none, none, none, none, none, none, none,
                         none, none, none, none, none, none, none, none, none, none, none, none, none, none, none, none,
                         none, none, none, none, none, none, none, none, none, none, none, none, none, none, none, none,
                         none, none, none, none, none, none, none, none, none, none, none, none, none, none, none,
                         none]).eval
                      (Go.Operand.tmp 31)).plain =
                    true ∧
                   sizeT Go.Proofs.Try.prog 9 = some 1 then
                (D F.laws_markText
                   [SV.leaf
                     (Leaf.int Go.IntKind.i64
                      (Go.IntKind.i64.wrap (Go.IntKind.i64.wrap (Go.IntKind.i64.wrap (i1 + 1) + 1) + 1)))]
                   []).bind
                 fun (r : SV true × List (List (SV true))) =>
                 svLeafK r.fst fun (l : Leaf true) =>
                  strK l fun (s : ByteArray) =>
                   guarded (decide (0 ≤ i5) && decide (i5 < (↑e0.length : Int)) && sized 10 e0)
                    (if
                      (fSoft.isSoft = true ∧ softAt (e0.getD i5.toNat []) 3 = true) ∧
                       ((St.mk
                             [SV.leaf (Leaf.sl fSoft e0),
                              SV.leaf
                               (Leaf.int Go.IntKind.i64
                                (Go.IntKind.i64.wrap (Go.IntKind.i64.wrap (Go.IntKind.i64.wrap (i1 + 1) + 1) + 1))),
                              SV.any, SV.any, SV.any, SV.leaf (Leaf.int Go.IntKind.i64 i5), SV.any, SV.any, SV.any,
                              SV.any, SV.any, SV.any, SV.any, SV.any, SV.any, SV.any, SV.any, SV.any, SV.any, SV.any,
                              SV.any, SV.any, SV.any, SV.any, SV.any, SV.any, SV.any, SV.any, SV.any, SV.any, SV.any,
                              SV.any, SV.any, SV.any, SV.any, SV.any, SV.any, SV.leaf (Leaf.sl fSoft e0),
                              SV.leaf (Leaf.int Go.IntKind.i64 i5),
                              SV.leaf
                               (Leaf.int Go.IntKind.i64
                                (Go.IntKind.i64.wrap (Go.IntKind.i64.wrap (Go.IntKind.i64.wrap (i1 + 1) + 1) + 1))),
                              SV.leaf (Leaf.str s), SV.eptr fSoft (e0.getD i5.toNat []) 0,
                              SV.eptr fSoft (e0.getD i5.toNat []) 2, SV.eptr fSoft (e0.getD i5.toNat []) 3, SV.any,
                              SV.any, SV.any, SV.any, SV.any, SV.any, SV.any, SV.any, SV.any, SV.any, SV.any, SV.any,
                              SV.any, SV.any, SV.any, SV.any, SV.any, SV.any, SV.any, SV.any, SV.any, SV.any, SV.any,
                              SV.any, SV.any, SV.any, SV.any, SV.any, SV.any, SV.any, SV.any, SV.any, SV.any, SV.any,
                              SV.any, SV.any, SV.any, SV.any, SV.any, SV.any, SV.any, SV.any, SV.any, SV.any, SV.any,
                              SV.any, SV.any, SV.any, SV.any, SV.any, SV.any, SV.any]
                             [none, none, none, none, none, none, none, none, none, none, none, none, none, none, none,
                              none, none, none, none, none, none, none, none, none, none, none, none, none, none, none,
                              none, none, none, none, none, none, none, none, none, none, none, none, none, none, none,
                              none, none, none, none, none, none, none, none, none, none, none, none, none, none, none,
                              none, none, none, none, none, none, none, none, none, none, none, none, none, none, none,
                              none, none, none, none, none, none, none, none, none, none, none, none, none, none, none,
                              none, none, none, none, none, none]).eval
                           (Go.Operand.tmp 40)).plain =
                         true ∧
                        sizeT Go.Proofs.Try.prog 9 = some 1 then
                     guarded (decide (0 ≤ i5) && decide (i5 < (↑e0.length : Int)) && sized 10 e0)
                      (if
                        (fSoft.isSoft = true ∧ softAt (e0.getD i5.toNat []) 4 = true) ∧
                         ((St.mk
                               [SV.leaf (Leaf.sl fSoft e0),
                                SV.leaf
                                 (Leaf.int Go.IntKind.i64
                                  (Go.IntKind.i64.wrap
                                   (Go.IntKind.i64.wrap (Go.IntKind.i64.wrap (Go.IntKind.i64.wrap (i1 + 1) + 1) + 1) +
                                    1))),
                                SV.any, SV.any, SV.any, SV.leaf (Leaf.int Go.IntKind.i64 i5), SV.any, SV.any, SV.any,
                                SV.any, SV.any, SV.any, SV.any, SV.any, SV.any, SV.any, SV.any, SV.any, SV.any, SV.any,
                                SV.any, SV.any, SV.any, SV.any, SV.any, SV.any, SV.any, SV.any, SV.any, SV.any, SV.any,
                                SV.any, SV.any, SV.any, SV.any, SV.any, SV.any, SV.any, SV.any, SV.any, SV.any, SV.any,
                                SV.any, SV.any, SV.any, SV.any, SV.leaf (Leaf.sl fSoft e0),
                                SV.leaf (Leaf.int Go.IntKind.i64 i5),
                                SV.leaf
                                 (Leaf.int Go.IntKind.i64
                                  (Go.IntKind.i64.wrap
                                   (Go.IntKind.i64.wrap (Go.IntKind.i64.wrap (Go.IntKind.i64.wrap (i1 + 1) + 1) + 1) +
                                    1))),
                                SV.leaf
                                 (Leaf.int Go.IntKind.i64
                                  ((Go.IntKind.i64.wrap
                                     (Go.IntKind.i64.wrap (Go.IntKind.i64.wrap (Go.IntKind.i64.wrap (i1 + 1) + 1) + 1) +
                                      1)).tmod
                                   3)),
                                SV.leaf
                                 (Leaf.bool
                                  ((Go.IntKind.i64.wrap
                                      (Go.IntKind.i64.wrap
                                        (Go.IntKind.i64.wrap (Go.IntKind.i64.wrap (i1 + 1) + 1) + 1) +
                                       1)).tmod
                                    3 ==
                                   0)),
                                SV.eptr fSoft (e0.getD i5.toNat []) 0, SV.eptr fSoft (e0.getD i5.toNat []) 4, SV.any,
                                SV.any, SV.any, SV.any, SV.any, SV.any, SV.any, SV.any, SV.any, SV.any, SV.any, SV.any,
                                SV.any, SV.any, SV.any, SV.any, SV.any, SV.any, SV.any, SV.any, SV.any, SV.any, SV.any,
                                SV.any, SV.any, SV.any, SV.any, SV.any, SV.any, SV.any, SV.any, SV.any, SV.any, SV.any,
                                SV.any, SV.any, SV.any, SV.any, SV.any, SV.any, SV.any, SV.any, SV.any]
                               [none, none, none, none, none, none, none, none, none, none, none, none, none, none,
                                none, none, none, none, none, none, none, none, none, none, none, none, none, none,
                                none, none, none, none, none, none, none, none, none, none, none, none, none, none,
                                none, none, none, none, none, none, none, none, none, none, none, none, none, none,
                                none, none, none, none, none, none, none, none, none, none, none, none, none, none,
                                none, none, none, none, none, none, none, none, none, none, none, none, none, none,
                                none, none, none, none, none, none, none, none, none, none, none, none]).eval
                             (Go.Operand.tmp 50)).plain =
                           true ∧
                          sizeT Go.Proofs.Try.prog 4 = some 1 then
                       guarded (decide (0 ≤ i5) && decide (i5 < (↑e0.length : Int)) && sized 10 e0)
                        (if
                          (fSoft.isSoft = true ∧ softAt (e0.getD i5.toNat []) 5 = true) ∧
                           ((St.mk
                                 [SV.leaf (Leaf.sl fSoft e0),
                                  SV.leaf
                                   (Leaf.int Go.IntKind.i64
                                    (Go.IntKind.i64.wrap
                                     (Go.IntKind.i64.wrap
                                       (Go.IntKind.i64.wrap
                                         (Go.IntKind.i64.wrap (Go.IntKind.i64.wrap (i1 + 1) + 1) + 1) +
                                        1) +
                                      1))),
                                  SV.any, SV.any, SV.any, SV.leaf (Leaf.int Go.IntKind.i64 i5), SV.any, SV.any, SV.any,
                                  SV.any, SV.any, SV.any, SV.any, SV.any, SV.any, SV.any, SV.any, SV.any, SV.any,
                                  SV.any, SV.any, SV.any, SV.any, SV.any, SV.any, SV.any, SV.any, SV.any, SV.any,
                                  SV.any, SV.any, SV.any, SV.any, SV.any, SV.any, SV.any, SV.any, SV.any, SV.any,
                                  SV.any, SV.any, SV.any, SV.any, SV.any, SV.any, SV.any, SV.any, SV.any, SV.any,
                                  SV.any, SV.any, SV.any, SV.any, SV.any, SV.any, SV.leaf (Leaf.sl fSoft e0),
                                  SV.leaf (Leaf.int Go.IntKind.i64 i5),
                                  SV.leaf
                                   (Leaf.int Go.IntKind.i64
                                    (Go.IntKind.i64.wrap
                                     (Go.IntKind.i64.wrap
                                       (Go.IntKind.i64.wrap
                                         (Go.IntKind.i64.wrap (Go.IntKind.i64.wrap (i1 + 1) + 1) + 1) +
                                        1) +
                                      1))),
                                  SV.eptr fSoft (e0.getD i5.toNat []) 0, SV.eptr fSoft (e0.getD i5.toNat []) 5,
                                  SV.eptr fSoft (e0.getD i5.toNat []) 5, SV.any, SV.any, SV.any, SV.any, SV.any, SV.any,
                                  SV.any, SV.any, SV.any, SV.any, SV.any, SV.any, SV.any, SV.any, SV.any, SV.any,
                                  SV.any, SV.any, SV.any, SV.any, SV.any, SV.any, SV.any, SV.any, SV.any, SV.any,
                                  SV.any, SV.any, SV.any, SV.any, SV.any, SV.any, SV.any, SV.any, SV.any]
                                 [none, none, none, none, none, none, none, none, none, none, none, none, none, none,
                                  none, none, none, none, none, none, none, none, none, none, none, none, none, none,
                                  none, none, none, none, none, none, none, none, none, none, none, none, none, none,
                                  none, none, none, none, none, none, none, none, none, none, none, none, none, none,
                                  none, none, none, none, none, none, none, none, none, none, none, none, none, none,
                                  none, none, none, none, none, none, none, none, none, none, none, none, none, none,
                                  none, none, none, none, none, none, none, none, none, none, none, none]).eval
                               (Go.Operand.tmp 57)).plain =
                             true ∧
                            sizeT Go.Proofs.Try.prog 3 = some 1 then
                         (D F.laws_markText
                            [SV.leaf
                              (Leaf.int Go.IntKind.i64
                               (Go.IntKind.i64.wrap
                                (Go.IntKind.i64.wrap
                                  (Go.IntKind.i64.wrap
                                    (Go.IntKind.i64.wrap (Go.IntKind.i64.wrap (Go.IntKind.i64.wrap (i1 + 1) + 1) + 1) +
                                     1) +
                                   1) +
                                 1)))]
                            []).bind
                          fun (r : SV true × List (List (SV true))) =>
                          svLeafK r.fst fun (l : Leaf true) =>
                           strK l fun (s : ByteArray) =>
                            guarded (decide (0 ≤ i5) && decide (i5 < (↑e0.length : Int)) && sized 10 e0)
                             (if
                               (fSoft.isSoft = true ∧ softAt (e0.getD i5.toNat []) 6 = true) ∧
                                ((St.mk
                                      [SV.leaf (Leaf.sl fSoft e0),
                                       SV.leaf
                                        (Leaf.int Go.IntKind.i64
                                         (Go.IntKind.i64.wrap
                                          (Go.IntKind.i64.wrap
                                            (Go.IntKind.i64.wrap
                                              (Go.IntKind.i64.wrap
                                                (Go.IntKind.i64.wrap (Go.IntKind.i64.wrap (i1 + 1) + 1) + 1) +
                                               1) +
                                             1) +
                                           1))),
                                       SV.any, SV.any, SV.any, SV.leaf (Leaf.int Go.IntKind.i64 i5), SV.any, SV.any,
                                       SV.any, SV.any, SV.any, SV.any, SV.any, SV.any, SV.any, SV.any, SV.any, SV.any,
                                       SV.any, SV.any, SV.any, SV.any, SV.any, SV.any, SV.any, SV.any, SV.any, SV.any,
                                       SV.any, SV.any, SV.any, SV.any, SV.any, SV.any, SV.any, SV.any, SV.any, SV.any,
                                       SV.any, SV.any, SV.any, SV.any, SV.any, SV.any, SV.any, SV.any, SV.any, SV.any,
                                       SV.any, SV.any, SV.any, SV.any, SV.any, SV.any, SV.any, SV.any, SV.any, SV.any,
                                       SV.any, SV.any, SV.any, SV.any, SV.any, SV.leaf (Leaf.sl fSoft e0),
                                       SV.leaf (Leaf.int Go.IntKind.i64 i5),
                                       SV.leaf
                                        (Leaf.int Go.IntKind.i64
                                         (Go.IntKind.i64.wrap
                                          (Go.IntKind.i64.wrap
                                            (Go.IntKind.i64.wrap
                                              (Go.IntKind.i64.wrap
                                                (Go.IntKind.i64.wrap (Go.IntKind.i64.wrap (i1 + 1) + 1) + 1) +
                                               1) +
                                             1) +
                                           1))),
                                       SV.leaf (Leaf.str s), SV.eptr fSoft (e0.getD i5.toNat []) 0,
                                       SV.eptr fSoft (e0.getD i5.toNat []) 5, SV.eptr fSoft (e0.getD i5.toNat []) 6,
                                       SV.any, SV.any, SV.any, SV.any, SV.any, SV.any, SV.any, SV.any, SV.any, SV.any,
                                       SV.any, SV.any, SV.any, SV.any, SV.any, SV.any, SV.any, SV.any, SV.any, SV.any,
                                       SV.any, SV.any, SV.any, SV.any, SV.any, SV.any]
                                      [none, none, none, none, none, none, none, none, none, none, none, none, none,
                                       none, none, none, none, none, none, none, none, none, none, none, none, none,
                                       none, none, none, none, none, none, none, none, none, none, none, none, none,
                                       none, none, none, none, none, none, none, none, none, none, none, none, none,
                                       none, none, none, none, none, none, none, none, none, none, none, none, none,
                                       none, none, none, none, none, none, none, none, none, none, none, none, none,
                                       none, none, none, none, none, none, none, none, none, none, none, none, none,
                                       none, none, none, none, none]).eval
                                    (Go.Operand.tmp 66)).plain =
                                  true ∧
                                 sizeT Go.Proofs.Try.prog 9 = some 1 then
                              guarded (decide (0 ≤ i5) && decide (i5 < (↑e0.length : Int)) && sized 10 e0)
                               (atK (e0.getD i5.toNat []) 7 fun (l : Leaf true) =>
                                slK l fun (c : Fl true) (es : List (List (Leaf true))) =>
                                 (D F.laws_markValueS
                                    [SV.leaf (Leaf.sl c es),
                                     SV.leaf
                                      (Leaf.int Go.IntKind.i64
                                       (Go.IntKind.i64.wrap
                                        (Go.IntKind.i64.wrap
                                          (Go.IntKind.i64.wrap
                                            (Go.IntKind.i64.wrap
                                              (Go.IntKind.i64.wrap
                                                (Go.IntKind.i64.wrap (Go.IntKind.i64.wrap (i1 + 1) + 1) + 1) +
                                               1) +
                                             1) +
                                           1) +
                                         1)))]
                                    []).bind
                                  fun (r : SV true × List (List (SV true))) =>
                                  svLeafK r.fst fun (l : Leaf true) =>
                                   intK Go.IntKind.i64 l fun (n : Int) =>
                                    guarded (decide (0 ≤ i5) && decide (i5 < (↑e0.length : Int)) && sized 10 e0)
                                     (atK (e0.getD i5.toNat []) 8 fun (l : Leaf true) =>
                                      slK l fun (c : Fl true) (es : List (List (Leaf true))) =>
                                       (D F.laws_markStringS
                                          [SV.leaf (Leaf.sl c es), SV.leaf (Leaf.int Go.IntKind.i64 n)] []).bind
                                        fun (r : SV true × List (List (SV true))) =>
                                        svLeafK r.fst fun (l : Leaf true) =>
                                         intK Go.IntKind.i64 l fun (n : Int) =>
                                          guarded (decide (0 ≤ i5) && decide (i5 < (↑e0.length : Int)) && sized 10 e0)
                                           (atK (e0.getD i5.toNat []) 9 fun (l : Leaf true) =>
                                            slK l fun (c : Fl true) (es : List (List (Leaf true))) =>
                                             (D F.laws_markDirS
                                                [SV.leaf (Leaf.sl c es), SV.leaf (Leaf.int Go.IntKind.i64 n)] []).bind
                                              fun (r : SV true × List (List (SV true))) =>
                                              svLeafK r.fst fun (l : Leaf true) =>
                                               intK Go.IntKind.i64 l fun (n : Int) =>
                                                d_laws_markInDefS_A D
                                                 (d_laws_markInDefS_0 e0 n (Go.IntKind.i64.wrap (i5 + 1))))))
                             else none)
                        else none)
                      else none)
                    else none)
               else none)
          else none)
     else none))
 (some (SV.leaf (Leaf.int Go.IntKind.i64 i1), [])) := by
  refine (nameF_eq (J := d_laws_markInDefS_A D) (fun _ _ => rfl) [[1, 0, 1, 0]] (d_laws_markInDefS_0 e0 i1 i5)).trans ?_
  generalize d_laws_markInDefS_A D = J
  revert J
  refine id ?_
  intro J
  kernel_rfl
theorem run_d_laws_markInDefS (D : Oracle true) (e0 : List (List (Leaf true))) (i1 : Int) : run2V Go.Proofs.Try.prog D Go.Vs.Hs limR F.laws_markInDefS [SV.leaf (Leaf.sl fSoft e0), SV.leaf (Leaf.int Go.IntKind.i64 i1)] [] =
  d_laws_markInDefS_A D (d_laws_markInDefS_0 e0 i1 0) := by
  refine (run_names (J := d_laws_markInDefS_A D) (by kernel_rfl) (fun _ _ => rfl) [[1, 0, 1, 0]]).trans ?_
  generalize d_laws_markInDefS_A D = J
  revert J
  refine id ?_
  intro J
  kernel_rfl
-- FN 15 d_impl_InChanges
noncomputable def d_impl_InChanges_A (D : Oracle true) (x : List Nat × St true) : Option (SV true × List (List (SV true))) := atF Go.Proofs.Try.prog D Go.Vs.Hs F.impl_InChanges x.1 0 x.2
def d_impl_InChanges_0 (s0 : ByteArray) (c1 : Fl true) (e1 : List (List (Leaf true))) (c2 : Fl true) (e2 : List (List (Leaf true))) (c19 : Fl true) (e19 : List (List (Leaf true))) (i20 : Int) (i21 : Int) (ex18_0 : List (List (Leaf true))) : List Nat × St true := ([1, 1, 0, 1, 0], St.mk
 [SV.leaf (Leaf.str s0), SV.leaf (Leaf.sl c1 e1), SV.leaf (Leaf.sl c2 e2), SV.any, SV.any, SV.any, SV.any, SV.ptr 18 0,
  SV.any, SV.any, SV.any, SV.any, SV.any, SV.any, SV.any, SV.any, SV.any, SV.any, SV.any, SV.leaf (Leaf.sl c19 e19),
  SV.leaf (Leaf.int Go.IntKind.i64 i20), SV.leaf (Leaf.int Go.IntKind.i64 i21), SV.any, SV.any, SV.any, SV.any, SV.any,
  SV.any, SV.any, SV.any, SV.any, SV.any, SV.any, SV.any, SV.any, SV.any, SV.any, SV.any, SV.any, SV.any, SV.any,
  SV.any, SV.any, SV.any, SV.any, SV.any, SV.any, SV.any, SV.any, SV.any, SV.any, SV.any, SV.any, SV.any, SV.any,
  SV.any, SV.any, SV.any, SV.any, SV.any, SV.any, SV.any, SV.any, SV.any, SV.any, SV.any, SV.any, SV.any, SV.any,
  SV.any, SV.any, SV.any, SV.any, SV.any, SV.any, SV.any, SV.any, SV.any, SV.any, SV.any, SV.any, SV.any, SV.any,
  SV.any, SV.any, SV.any, SV.any, SV.any, SV.any, SV.any, SV.any, SV.any, SV.any, SV.any, SV.any, SV.any, SV.any,
  SV.any, SV.any, SV.any, SV.any, SV.any, SV.any, SV.any, SV.any, SV.any, SV.any, SV.any, SV.any, SV.any, SV.any,
  SV.any, SV.any, SV.any, SV.any, SV.any, SV.any, SV.any, SV.any, SV.any, SV.any, SV.any, SV.any, SV.any, SV.any,
  SV.any, SV.any, SV.any, SV.any, SV.any, SV.any, SV.any, SV.any, SV.any, SV.any, SV.any, SV.any, SV.any, SV.any,
  SV.any, SV.any, SV.any, SV.any, SV.any, SV.any, SV.any, SV.any, SV.any, SV.any, SV.any]
 [none, none, none, none, none, none, none, none, none, none, none, none, none, none, none, none, none, none,
  some [SV.own (some T.impl_Change) ex18_0], none, none, none, none, none, none, none, none, none, none, none, none,
  none, none, none, none, none, none, none, none, none, none, none, none, none, none, none, none, none, none, none,
  none, none, none, none, none, none, none, none, none, none, none, none, none, none, none, none, none, none, none,
  none, none, none, none, none, none, none, none, none, none, none, none, none, none, none, none, none, none, none,
  none, none, none, none, none, none, none, none, none, none, none, none, none, none, none, none, none, none, none,
  none, none, none, none, none, none, none, none, none, none, none, none, none, none, none, none, none, none, none,
  none, none, none, none, none, none, none, none, none, none, none, none, none, none, none, none, none, none, none,
  none, none, none, none, none])
def d_impl_InChanges_1 (s0 : ByteArray) (c1 : Fl true) (e1 : List (List (Leaf true))) (c2 : Fl true) (e2 : List (List (Leaf true))) (c19 : Fl true) (e19 : List (List (Leaf true))) (i20 : Int) (i21 : Int) (ex18_0 : List (List (Leaf true))) : List Nat × St true := ([1, 1, 0, 1, 0, 0, 1, 1, 1], St.mk
 [SV.leaf (Leaf.str s0), SV.leaf (Leaf.sl c1 e1), SV.leaf (Leaf.sl c2 e2), SV.any, SV.any, SV.any, SV.any, SV.ptr 18 0,
  SV.any, SV.any, SV.any, SV.any, SV.any, SV.any, SV.any, SV.any, SV.any, SV.any, SV.any, SV.leaf (Leaf.sl c19 e19),
  SV.leaf (Leaf.int Go.IntKind.i64 i20), SV.leaf (Leaf.int Go.IntKind.i64 i21), SV.any, SV.any, SV.any, SV.any, SV.any,
  SV.any, SV.any, SV.any, SV.any, SV.any, SV.any, SV.any, SV.any, SV.any, SV.any, SV.any, SV.any, SV.any, SV.any,
  SV.any, SV.any, SV.any, SV.any, SV.any, SV.any, SV.any, SV.any, SV.any, SV.any, SV.any, SV.any, SV.any, SV.any,
  SV.any, SV.any, SV.any, SV.any, SV.any, SV.any, SV.any, SV.any, SV.any, SV.any, SV.any, SV.any, SV.any, SV.any,
  SV.any, SV.any, SV.any, SV.any, SV.any, SV.any, SV.any, SV.any, SV.any, SV.any, SV.any, SV.any, SV.any, SV.any,
  SV.any, SV.any, SV.any, SV.any, SV.any, SV.any, SV.any, SV.any, SV.any, SV.any, SV.any, SV.any, SV.any, SV.any,
  SV.any, SV.any, SV.any, SV.any, SV.any, SV.any, SV.any, SV.any, SV.any, SV.any, SV.any, SV.any, SV.any, SV.any,
  SV.any, SV.any, SV.any, SV.any, SV.any, SV.any, SV.any, SV.any, SV.any, SV.any, SV.any, SV.any, SV.any, SV.any,
  SV.any, SV.any, SV.any, SV.any, SV.any, SV.any, SV.any, SV.any, SV.any, SV.any, SV.any, SV.any, SV.any, SV.any,
  SV.any, SV.any, SV.any, SV.any, SV.any, SV.any, SV.any, SV.any, SV.any, SV.any, SV.any]
 [none, none, none, none, none, none, none, none, none, none, none, none, none, none, none, none, none, none,
  some [SV.own (some T.impl_Change) ex18_0], none, none, none, none, none, none, none, none, none, none, none, none,
  none, none, none, none, none, none, none, none, none, none, none, none, none, none, none, none, none, none, none,
  none, none, none, none, none, none, none, none, none, none, none, none, none, none, none, none, none, none, none,
  none, none, none, none, none, none, none, none, none, none, none, none, none, none, none, none, none, none, none,
  none, none, none, none, none, none, none, none, none, none, none, none, none, none, none, none, none, none, none,
  none, none, none, none, none, none, none, none, none, none, none, none, none, none, none, none, none, none, none,
  none, none, none, none, none, none, none, none, none, none, none, none, none, none, none, none, none, none, none,
  none, none, none, none, none])
def d_impl_InChanges_2 (s0 : ByteArray) (c1 : Fl true) (e1 : List (List (Leaf true))) (c2 : Fl true) (e2 : List (List (Leaf true))) (b12 : Bool) (c19 : Fl true) (e19 : List (List (Leaf true))) (i20 : Int) (i21 : Int) (sx9_0 : ByteArray) (sx9_1 : ByteArray) (sx9_2 : ByteArray) (sx9_3 : ByteArray) (bx9_4 : Bool) (ix9_5 : Int) (sx9_6 : ByteArray) (cx9_7 : Fl true) (ex9_7 : List (List (Leaf true))) (cx9_8 : Fl true) (ex9_8 : List (List (Leaf true))) (cx9_9 : Fl true) (ex9_9 : List (List (Leaf true))) (sx11_0 : ByteArray) (sx11_1 : ByteArray) (sx11_2 : ByteArray) (sx11_3 : ByteArray) (bx11_4 : Bool) (ix11_5 : Int) (sx11_6 : ByteArray) (cx11_7 : Fl true) (ex11_7 : List (List (Leaf true))) (cx11_8 : Fl true) (ex11_8 : List (List (Leaf true))) (cx11_9 : Fl true) (ex11_9 : List (List (Leaf true))) (ex18_0 : List (List (Leaf true))) : List Nat × St true := ([1, 1, 0, 1, 0, 0, 1, 1, 0, 0, 1, 1, 1, 1, 1, 1], St.mk
 [SV.leaf (Leaf.str s0), SV.leaf (Leaf.sl c1 e1), SV.leaf (Leaf.sl c2 e2), SV.any, SV.any, SV.any, SV.any, SV.ptr 18 0,
  SV.any, SV.ptr 9 0, SV.any, SV.ptr 11 0, SV.leaf (Leaf.bool b12), SV.any, SV.any, SV.any, SV.any, SV.any, SV.any,
  SV.leaf (Leaf.sl c19 e19), SV.leaf (Leaf.int Go.IntKind.i64 i20), SV.leaf (Leaf.int Go.IntKind.i64 i21), SV.any,
  SV.any, SV.any, SV.any, SV.any, SV.any, SV.any, SV.any, SV.any, SV.any, SV.any, SV.any, SV.any, SV.any, SV.any,
  SV.any, SV.any, SV.any, SV.any, SV.any, SV.any, SV.any, SV.any, SV.any, SV.any, SV.any, SV.any, SV.any, SV.any,
  SV.any, SV.any, SV.any, SV.any, SV.any, SV.any, SV.any, SV.any, SV.any, SV.any, SV.any, SV.any, SV.any, SV.any,
  SV.any, SV.any, SV.any, SV.any, SV.any, SV.any, SV.any, SV.any, SV.any, SV.any, SV.any, SV.any, SV.any, SV.any,
  SV.any, SV.any, SV.any, SV.any, SV.any, SV.any, SV.any, SV.any, SV.any, SV.any, SV.any, SV.any, SV.any, SV.any,
  SV.any, SV.any, SV.any, SV.any, SV.any, SV.any, SV.any, SV.any, SV.any, SV.any, SV.any, SV.any, SV.any, SV.any,
  SV.any, SV.any, SV.any, SV.any, SV.any, SV.any, SV.any, SV.any, SV.any, SV.any, SV.any, SV.any, SV.any, SV.any,
  SV.any, SV.any, SV.any, SV.any, SV.any, SV.any, SV.any, SV.any, SV.any, SV.any, SV.any, SV.any, SV.any, SV.any,
  SV.any, SV.any, SV.any, SV.any, SV.any, SV.any, SV.any, SV.any, SV.any, SV.any, SV.any, SV.any, SV.any, SV.any,
  SV.any]
 [none, none, none, none, none, none, none, none, none,
  some
   [SV.leaf (Leaf.str sx9_0), SV.leaf (Leaf.str sx9_1), SV.leaf (Leaf.str sx9_2), SV.leaf (Leaf.str sx9_3),
    SV.leaf (Leaf.bool bx9_4), SV.leaf (Leaf.int Go.IntKind.i64 ix9_5), SV.leaf (Leaf.str sx9_6),
    SV.leaf (Leaf.sl cx9_7 ex9_7), SV.leaf (Leaf.sl cx9_8 ex9_8), SV.leaf (Leaf.sl cx9_9 ex9_9)],
  none,
  some
   [SV.leaf (Leaf.str sx11_0), SV.leaf (Leaf.str sx11_1), SV.leaf (Leaf.str sx11_2), SV.leaf (Leaf.str sx11_3),
    SV.leaf (Leaf.bool bx11_4), SV.leaf (Leaf.int Go.IntKind.i64 ix11_5), SV.leaf (Leaf.str sx11_6),
    SV.leaf (Leaf.sl cx11_7 ex11_7), SV.leaf (Leaf.sl cx11_8 ex11_8), SV.leaf (Leaf.sl cx11_9 ex11_9)],
  none, none, none, none, none, none, some [SV.own (some T.impl_Change) ex18_0], none, none, none, none, none, none,
  none, none, none, none, none, none, none, none, none, none, none, none, none, none, none, none, none, none, none,
  none, none, none, none, none, none, none, none, none, none, none, none, none, none, none, none, none, none, none,
  none, none, none, none, none, none, none, none, none, none, none, none, none, none, none, none, none, none, none,
  none, none, none, none, none, none, none, none, none, none, none, none, none, none, none, none, none, none, none,
  none, none, none, none, none, none, none, none, none, none, none, none, none, none, none, none, none, none, none,
  none, none, none, none, none, none, none, none, none, none, none, none, none, none, none, none, none, none, none,
  none, none, none, none, none, none, none, none, none, none, none])
def d_impl_InChanges_3 (s0 : ByteArray) (c1 : Fl true) (e1 : List (List (Leaf true))) (c113 : Fl true) (e113 : List (List (Leaf true))) (i114 : Int) (i115 : Int) (ex18_0 : List (List (Leaf true))) : List Nat × St true := ([1, 1, 1, 0, 1, 0], St.mk
 [SV.leaf (Leaf.str s0), SV.leaf (Leaf.sl c1 e1), SV.any, SV.any, SV.any, SV.any, SV.any, SV.ptr 18 0, SV.any, SV.any,
  SV.any, SV.any, SV.any, SV.any, SV.any, SV.any, SV.any, SV.any, SV.any, SV.any, SV.any, SV.any, SV.any, SV.any,
  SV.any, SV.any, SV.any, SV.any, SV.any, SV.any, SV.any, SV.any, SV.any, SV.any, SV.any, SV.any, SV.any, SV.any,
  SV.any, SV.any, SV.any, SV.any, SV.any, SV.any, SV.any, SV.any, SV.any, SV.any, SV.any, SV.any, SV.any, SV.any,
  SV.any, SV.any, SV.any, SV.any, SV.any, SV.any, SV.any, SV.any, SV.any, SV.any, SV.any, SV.any, SV.any, SV.any,
  SV.any, SV.any, SV.any, SV.any, SV.any, SV.any, SV.any, SV.any, SV.any, SV.any, SV.any, SV.any, SV.any, SV.any,
  SV.any, SV.any, SV.any, SV.any, SV.any, SV.any, SV.any, SV.any, SV.any, SV.any, SV.any, SV.any, SV.any, SV.any,
  SV.any, SV.any, SV.any, SV.any, SV.any, SV.any, SV.any, SV.any, SV.any, SV.any, SV.any, SV.any, SV.any, SV.any,
  SV.any, SV.any, SV.any, SV.any, SV.any, SV.leaf (Leaf.sl c113 e113), SV.leaf (Leaf.int Go.IntKind.i64 i114),
  SV.leaf (Leaf.int Go.IntKind.i64 i115), SV.any, SV.any, SV.any, SV.any, SV.any, SV.any, SV.any, SV.any, SV.any,
  SV.any, SV.any, SV.any, SV.any, SV.any, SV.any, SV.any, SV.any, SV.any, SV.any, SV.any, SV.any, SV.any, SV.any,
  SV.any, SV.any, SV.any, SV.any, SV.any, SV.any, SV.any, SV.any, SV.any, SV.any, SV.any]
 [none, none, none, none, none, none, none, none, none, none, none, none, none, none, none, none, none, none,
  some [SV.own (some T.impl_Change) ex18_0], none, none, none, none, none, none, none, none, none, none, none, none,
  none, none, none, none, none, none, none, none, none, none, none, none, none, none, none, none, none, none, none,
  none, none, none, none, none, none, none, none, none, none, none, none, none, none, none, none, none, none, none,
  none, none, none, none, none, none, none, none, none, none, none, none, none, none, none, none, none, none, none,
  none, none, none, none, none, none, none, none, none, none, none, none, none, none, none, none, none, none, none,
  none, none, none, none, none, none, none, none, none, none, none, none, none, none, none, none, none, none, none,
  none, none, none, none, none, none, none, none, none, none, none, none, none, none, none, none, none, none, none,
  none, none, none, none, none])
def d_impl_InChanges_4 (s0 : ByteArray) (c1 : Fl true) (e1 : List (List (Leaf true))) (c2 : Fl true) (e2 : List (List (Leaf true))) (c19 : Fl true) (e19 : List (List (Leaf true))) (i20 : Int) (i21 : Int) (sx9_0 : ByteArray) (sx9_1 : ByteArray) (sx9_2 : ByteArray) (sx9_3 : ByteArray) (bx9_4 : Bool) (ix9_5 : Int) (sx9_6 : ByteArray) (cx9_7 : Fl true) (ex9_7 : List (List (Leaf true))) (cx9_8 : Fl true) (ex9_8 : List (List (Leaf true))) (cx9_9 : Fl true) (ex9_9 : List (List (Leaf true))) (sx11_0 : ByteArray) (sx11_1 : ByteArray) (sx11_2 : ByteArray) (sx11_3 : ByteArray) (bx11_4 : Bool) (ix11_5 : Int) (sx11_6 : ByteArray) (cx11_7 : Fl true) (ex11_7 : List (List (Leaf true))) (cx11_8 : Fl true) (ex11_8 : List (List (Leaf true))) (cx11_9 : Fl true) (ex11_9 : List (List (Leaf true))) (ex18_0 : List (List (Leaf true))) : List Nat × St true := ([1, 1, 0, 1, 0, 0, 1, 1, 0, 0, 1, 1, 1, 1, 1, 1, 1], St.mk
 [SV.leaf (Leaf.str s0), SV.leaf (Leaf.sl c1 e1), SV.leaf (Leaf.sl c2 e2), SV.any, SV.any, SV.any, SV.any, SV.ptr 18 0,
  SV.any, SV.ptr 9 0, SV.any, SV.ptr 11 0, SV.any, SV.any, SV.any, SV.any, SV.any, SV.any, SV.any,
  SV.leaf (Leaf.sl c19 e19), SV.leaf (Leaf.int Go.IntKind.i64 i20), SV.leaf (Leaf.int Go.IntKind.i64 i21), SV.any,
  SV.any, SV.any, SV.any, SV.any, SV.any, SV.any, SV.any, SV.any, SV.any, SV.any, SV.any, SV.any, SV.any, SV.any,
  SV.any, SV.any, SV.any, SV.any, SV.any, SV.any, SV.any, SV.any, SV.any, SV.any, SV.any, SV.any, SV.any, SV.any,
  SV.any, SV.any, SV.any, SV.any, SV.any, SV.any, SV.any, SV.any, SV.any, SV.any, SV.any, SV.any, SV.any, SV.any,
  SV.any, SV.any, SV.any, SV.any, SV.any, SV.any, SV.any, SV.any, SV.any, SV.any, SV.any, SV.any, SV.any, SV.any,
  SV.any, SV.any, SV.any, SV.any, SV.any, SV.any, SV.any, SV.any, SV.any, SV.any, SV.any, SV.any, SV.any, SV.any,
  SV.any, SV.any, SV.any, SV.any, SV.any, SV.any, SV.any, SV.any, SV.any, SV.any, SV.any, SV.any, SV.any, SV.any,
  SV.any, SV.any, SV.any, SV.any, SV.any, SV.any, SV.any, SV.any, SV.any, SV.any, SV.any, SV.any, SV.any, SV.any,
  SV.any, SV.any, SV.any, SV.any, SV.any, SV.any, SV.any, SV.any, SV.any, SV.any, SV.any, SV.any, SV.any, SV.any,
  SV.any, SV.any, SV.any, SV.any, SV.any, SV.any, SV.any, SV.any, SV.any, SV.any, SV.any, SV.any, SV.any, SV.any,
  SV.any]
 [none, none, none, none, none, none, none, none, none,
  some
   [SV.leaf (Leaf.str sx9_0), SV.leaf (Leaf.str sx9_1), SV.leaf (Leaf.str sx9_2), SV.leaf (Leaf.str sx9_3),
    SV.leaf (Leaf.bool bx9_4), SV.leaf (Leaf.int Go.IntKind.i64 ix9_5), SV.leaf (Leaf.str sx9_6),
    SV.leaf (Leaf.sl cx9_7 ex9_7), SV.leaf (Leaf.sl cx9_8 ex9_8), SV.leaf (Leaf.sl cx9_9 ex9_9)],
  none,
  some
   [SV.leaf (Leaf.str sx11_0), SV.leaf (Leaf.str sx11_1), SV.leaf (Leaf.str sx11_2), SV.leaf (Leaf.str sx11_3),
    SV.leaf (Leaf.bool bx11_4), SV.leaf (Leaf.int Go.IntKind.i64 ix11_5), SV.leaf (Leaf.str sx11_6),
    SV.leaf (Leaf.sl cx11_7 ex11_7), SV.leaf (Leaf.sl cx11_8 ex11_8), SV.leaf (Leaf.sl cx11_9 ex11_9)],
  none, none, none, none, none, none, some [SV.own (some T.impl_Change) ex18_0], none, none, none, none, none, none,
  none, none, none, none, none, none, none, none, none, none, none, none, none, none, none, none, none, none, none,
  none, none, none, none, none, none, none, none, none, none, none, none, none, none, none, none, none, none, none,
  none, none, none, none, none, none, none, none, none, none, none, none, none, none, none, none, none, none, none,
  none, none, none, none, none, none, none, none, none, none, none, none, none, none, none, none, none, none, none,
  none, none, none, none, none, none, none, none, none, none, none, none, none, none, none, none, none, none, none,
  none, none, none, none, none, none, none, none, none, none, none, none, none, none, none, none, none, none, none,
  none, none, none, none, none, none, none, none, none, none, none])
def d_impl_InChanges_5 (s0 : ByteArray) (c1 : Fl true) (e1 : List (List (Leaf true))) (c113 : Fl true) (e113 : List (List (Leaf true))) (i114 : Int) (i115 : Int) (ex18_0 : List (List (Leaf true))) : List Nat × St true := ([1, 1, 1, 0, 1, 0, 0, 1, 1, 1], St.mk
 [SV.leaf (Leaf.str s0), SV.leaf (Leaf.sl c1 e1), SV.any, SV.any, SV.any, SV.any, SV.any, SV.ptr 18 0, SV.any, SV.any,
  SV.any, SV.any, SV.any, SV.any, SV.any, SV.any, SV.any, SV.any, SV.any, SV.any, SV.any, SV.any, SV.any, SV.any,
  SV.any, SV.any, SV.any, SV.any, SV.any, SV.any, SV.any, SV.any, SV.any, SV.any, SV.any, SV.any, SV.any, SV.any,
  SV.any, SV.any, SV.any, SV.any, SV.any, SV.any, SV.any, SV.any, SV.any, SV.any, SV.any, SV.any, SV.any, SV.any,
  SV.any, SV.any, SV.any, SV.any, SV.any, SV.any, SV.any, SV.any, SV.any, SV.any, SV.any, SV.any, SV.any, SV.any,
  SV.any, SV.any, SV.any, SV.any, SV.any, SV.any, SV.any, SV.any, SV.any, SV.any, SV.any, SV.any, SV.any, SV.any,
  SV.any, SV.any, SV.any, SV.any, SV.any, SV.any, SV.any, SV.any, SV.any, SV.any, SV.any, SV.any, SV.any, SV.any,
  SV.any, SV.any, SV.any, SV.any, SV.any, SV.any, SV.any, SV.any, SV.any, SV.any, SV.any, SV.any, SV.any, SV.any,
  SV.any, SV.any, SV.any, SV.any, SV.any, SV.leaf (Leaf.sl c113 e113), SV.leaf (Leaf.int Go.IntKind.i64 i114),
  SV.leaf (Leaf.int Go.IntKind.i64 i115), SV.any, SV.any, SV.any, SV.any, SV.any, SV.any, SV.any, SV.any, SV.any,
  SV.any, SV.any, SV.any, SV.any, SV.any, SV.any, SV.any, SV.any, SV.any, SV.any, SV.any, SV.any, SV.any, SV.any,
  SV.any, SV.any, SV.any, SV.any, SV.any, SV.any, SV.any, SV.any, SV.any, SV.any, SV.any]
 [none, none, none, none, none, none, none, none, none, none, none, none, none, none, none, none, none, none,
  some [SV.own (some T.impl_Change) ex18_0], none, none, none, none, none, none, none, none, none, none, none, none,
  none, none, none, none, none, none, none, none, none, none, none, none, none, none, none, none, none, none, none,
  none, none, none, none, none, none, none, none, none, none, none, none, none, none, none, none, none, none, none,
  none, none, none, none, none, none, none, none, none, none, none, none, none, none, none, none, none, none, none,
  none, none, none, none, none, none, none, none, none, none, none, none, none, none, none, none, none, none, none,
  none, none, none, none, none, none, none, none, none, none, none, none, none, none, none, none, none, none, none,
  none, none, none, none, none, none, none, none, none, none, none, none, none, none, none, none, none, none, none,
  none, none, none, none, none])
def d_impl_InChanges_6 (s0 : ByteArray) (c1 : Fl true) (e1 : List (List (Leaf true))) (b16 : Bool) (c113 : Fl true) (e113 : List (List (Leaf true))) (i114 : Int) (i115 : Int) (sx15_0 : ByteArray) (sx15_1 : ByteArray) (sx15_2 : ByteArray) (sx15_3 : ByteArray) (bx15_4 : Bool) (ix15_5 : Int) (sx15_6 : ByteArray) (cx15_7 : Fl true) (ex15_7 : List (List (Leaf true))) (cx15_8 : Fl true) (ex15_8 : List (List (Leaf true))) (cx15_9 : Fl true) (ex15_9 : List (List (Leaf true))) (ex18_0 : List (List (Leaf true))) : List Nat × St true := ([1, 1, 1, 0, 1, 0, 0, 1, 1, 0, 0, 1, 1, 1], St.mk
 [SV.leaf (Leaf.str s0), SV.leaf (Leaf.sl c1 e1), SV.any, SV.any, SV.any, SV.any, SV.any, SV.ptr 18 0, SV.any, SV.any,
  SV.any, SV.any, SV.any, SV.any, SV.any, SV.ptr 15 0, SV.leaf (Leaf.bool b16), SV.any, SV.any, SV.any, SV.any, SV.any,
  SV.any, SV.any, SV.any, SV.any, SV.any, SV.any, SV.any, SV.any, SV.any, SV.any, SV.any, SV.any, SV.any, SV.any,
  SV.any, SV.any, SV.any, SV.any, SV.any, SV.any, SV.any, SV.any, SV.any, SV.any, SV.any, SV.any, SV.any, SV.any,
  SV.any, SV.any, SV.any, SV.any, SV.any, SV.any, SV.any, SV.any, SV.any, SV.any, SV.any, SV.any, SV.any, SV.any,
  SV.any, SV.any, SV.any, SV.any, SV.any, SV.any, SV.any, SV.any, SV.any, SV.any, SV.any, SV.any, SV.any, SV.any,
  SV.any, SV.any, SV.any, SV.any, SV.any, SV.any, SV.any, SV.any, SV.any, SV.any, SV.any, SV.any, SV.any, SV.any,
  SV.any, SV.any, SV.any, SV.any, SV.any, SV.any, SV.any, SV.any, SV.any, SV.any, SV.any, SV.any, SV.any, SV.any,
  SV.any, SV.any, SV.any, SV.any, SV.any, SV.any, SV.any, SV.leaf (Leaf.sl c113 e113),
  SV.leaf (Leaf.int Go.IntKind.i64 i114), SV.leaf (Leaf.int Go.IntKind.i64 i115), SV.any, SV.any, SV.any, SV.any,
  SV.any, SV.any, SV.any, SV.any, SV.any, SV.any, SV.any, SV.any, SV.any, SV.any, SV.any, SV.any, SV.any, SV.any,
  SV.any, SV.any, SV.any, SV.any, SV.any, SV.any, SV.any, SV.any, SV.any, SV.any, SV.any, SV.any, SV.any, SV.any,
  SV.any, SV.any]
 [none, none, none, none, none, none, none, none, none, none, none, none, none, none, none,
  some
   [SV.leaf (Leaf.str sx15_0), SV.leaf (Leaf.str sx15_1), SV.leaf (Leaf.str sx15_2), SV.leaf (Leaf.str sx15_3),
    SV.leaf (Leaf.bool bx15_4), SV.leaf (Leaf.int Go.IntKind.i64 ix15_5), SV.leaf (Leaf.str sx15_6),
    SV.leaf (Leaf.sl cx15_7 ex15_7), SV.leaf (Leaf.sl cx15_8 ex15_8), SV.leaf (Leaf.sl cx15_9 ex15_9)],
  none, none, some [SV.own (some T.impl_Change) ex18_0], none, none, none, none, none, none, none, none, none, none,
  none, none, none, none, none, none, none, none, none, none, none, none, none, none, none, none, none, none, none,
  none, none, none, none, none, none, none, none, none, none, none, none, none, none, none, none, none, none, none,
  none, none, none, none, none, none, none, none, none, none, none, none, none, none, none, none, none, none, none,
  none, none, none, none, none, none, none, none, none, none, none, none, none, none, none, none, none, none, none,
  none, none, none, none, none, none, none, none, none, none, none, none, none, none, none, none, none, none, none,
  none, none, none, none, none, none, none, none, none, none, none, none, none, none, none, none, none, none, none,
  none, none, none, none, none, none, none])
def d_impl_InChanges_7 (s0 : ByteArray) (c1 : Fl true) (e1 : List (List (Leaf true))) (c2 : Fl true) (e2 : List (List (Leaf true))) (b13 : Bool) (c19 : Fl true) (e19 : List (List (Leaf true))) (i20 : Int) (i21 : Int) (sx9_0 : ByteArray) (sx9_1 : ByteArray) (sx9_2 : ByteArray) (sx9_3 : ByteArray) (bx9_4 : Bool) (ix9_5 : Int) (sx9_6 : ByteArray) (cx9_7 : Fl true) (ex9_7 : List (List (Leaf true))) (cx9_8 : Fl true) (ex9_8 : List (List (Leaf true))) (cx9_9 : Fl true) (ex9_9 : List (List (Leaf true))) (sx11_0 : ByteArray) (sx11_1 : ByteArray) (sx11_2 : ByteArray) (sx11_3 : ByteArray) (bx11_4 : Bool) (ix11_5 : Int) (sx11_6 : ByteArray) (cx11_7 : Fl true) (ex11_7 : List (List (Leaf true))) (cx11_8 : Fl true) (ex11_8 : List (List (Leaf true))) (cx11_9 : Fl true) (ex11_9 : List (List (Leaf true))) (ex18_0 : List (List (Leaf true))) : List Nat × St true := ([1, 1, 0, 1, 0, 0, 1, 1, 0, 0, 1, 1, 1, 1, 1, 1, 1, 1], St.mk
 [SV.leaf (Leaf.str s0), SV.leaf (Leaf.sl c1 e1), SV.leaf (Leaf.sl c2 e2), SV.any, SV.any, SV.any, SV.any, SV.ptr 18 0,
  SV.any, SV.ptr 9 0, SV.any, SV.ptr 11 0, SV.any, SV.leaf (Leaf.bool b13), SV.any, SV.any, SV.any, SV.any, SV.any,
  SV.leaf (Leaf.sl c19 e19), SV.leaf (Leaf.int Go.IntKind.i64 i20), SV.leaf (Leaf.int Go.IntKind.i64 i21), SV.any,
  SV.any, SV.any, SV.any, SV.any, SV.any, SV.any, SV.any, SV.any, SV.any, SV.any, SV.any, SV.any, SV.any, SV.any,
  SV.any, SV.any, SV.any, SV.any, SV.any, SV.any, SV.any, SV.any, SV.any, SV.any, SV.any, SV.any, SV.any, SV.any,
  SV.any, SV.any, SV.any, SV.any, SV.any, SV.any, SV.any, SV.any, SV.any, SV.any, SV.any, SV.any, SV.any, SV.any,
  SV.any, SV.any, SV.any, SV.any, SV.any, SV.any, SV.any, SV.any, SV.any, SV.any, SV.any, SV.any, SV.any, SV.any,
  SV.any, SV.any, SV.any, SV.any, SV.any, SV.any, SV.any, SV.any, SV.any, SV.any, SV.any, SV.any, SV.any, SV.any,
  SV.any, SV.any, SV.any, SV.any, SV.any, SV.any, SV.any, SV.any, SV.any, SV.any, SV.any, SV.any, SV.any, SV.any,
  SV.any, SV.any, SV.any, SV.any, SV.any, SV.any, SV.any, SV.any, SV.any, SV.any, SV.any, SV.any, SV.any, SV.any,
  SV.any, SV.any, SV.any, SV.any, SV.any, SV.any, SV.any, SV.any, SV.any, SV.any, SV.any, SV.any, SV.any, SV.any,
  SV.any, SV.any, SV.any, SV.any, SV.any, SV.any, SV.any, SV.any, SV.any, SV.any, SV.any, SV.any, SV.any, SV.any,
  SV.any]
 [none, none, none, none, none, none, none, none, none,
  some
   [SV.leaf (Leaf.str sx9_0), SV.leaf (Leaf.str sx9_1), SV.leaf (Leaf.str sx9_2), SV.leaf (Leaf.str sx9_3),
    SV.leaf (Leaf.bool bx9_4), SV.leaf (Leaf.int Go.IntKind.i64 ix9_5), SV.leaf (Leaf.str sx9_6),
    SV.leaf (Leaf.sl cx9_7 ex9_7), SV.leaf (Leaf.sl cx9_8 ex9_8), SV.leaf (Leaf.sl cx9_9 ex9_9)],
  none,
  some
   [SV.leaf (Leaf.str sx11_0), SV.leaf (Leaf.str sx11_1), SV.leaf (Leaf.str sx11_2), SV.leaf (Leaf.str sx11_3),
    SV.leaf (Leaf.bool bx11_4), SV.leaf (Leaf.int Go.IntKind.i64 ix11_5), SV.leaf (Leaf.str sx11_6),
    SV.leaf (Leaf.sl cx11_7 ex11_7), SV.leaf (Leaf.sl cx11_8 ex11_8), SV.leaf (Leaf.sl cx11_9 ex11_9)],
  none, none, none, none, none, none, some [SV.own (some T.impl_Change) ex18_0], none, none, none, none, none, none,
  none, none, none, none, none, none, none, none, none, none, none, none, none, none, none, none, none, none, none,
  none, none, none, none, none, none, none, none, none, none, none, none, none, none, none, none, none, none, none,
  none, none, none, none, none, none, none, none, none, none, none, none, none, none, none, none, none, none, none,
  none, none, none, none, none, none, none, none, none, none, none, none, none, none, none, none, none, none, none,
  none, none, none, none, none, none, none, none, none, none, none, none, none, none, none, none, none, none, none,
  none, none, none, none, none, none, none, none, none, none, none, none, none, none, none, none, none, none, none,
  none, none, none, none, none, none, none, none, none, none, none])
theorem d_impl_InChanges_0_eq (D : Oracle true) (s0 : ByteArray) (c1 : Fl true) (e1 : List (List (Leaf true))) (c2 : Fl true) (e2 : List (List (Leaf true))) (c19 : Fl true) (e19 : List (List (Leaf true))) (i20 : Int) (i21 : Int) (ex18_0 : List (List (Leaf true))) : d_impl_InChanges_A D (d_impl_InChanges_0 s0 c1 e1 c2 e2 c19 e19 i20 i21 ex18_0) =
  branch (decide (i21 < i20))
 (guarded (decide (0 ≤ i21) && decide (i21 < (↑e19.length : Int)) && sized 10 e19)
  (bindE (e19.getD i21.toNat []) fun (e : List (Leaf true)) =>
   atK e 0 fun (l : Leaf true) =>
    strK l fun (s : ByteArray) =>
     atK e 1 fun (l : Leaf true) =>
      strK l fun (s_1 : ByteArray) =>
       atK e 2 fun (l : Leaf true) =>
        strK l fun (s_2 : ByteArray) =>
         atK e 3 fun (l : Leaf true) =>
          strK l fun (s_3 : ByteArray) =>
           atK e 4 fun (l : Leaf true) =>
            boolK l fun (b : Bool) =>
             atK e 5 fun (l : Leaf true) =>
              intK Go.IntKind.i64 l fun (n : Int) =>
               atK e 6 fun (l : Leaf true) =>
                strK l fun (s_4 : ByteArray) =>
                 atK e 7 fun (l : Leaf true) =>
                  slK l fun (c : Fl true) (es : List (List (Leaf true))) =>
                   atK e 8 fun (l : Leaf true) =>
                    slK l fun (c_1 : Fl true) (es_1 : List (List (Leaf true))) =>
                     atK e 9 fun (l : Leaf true) =>
                      slK l fun (c_2 : Fl true) (es_2 : List (List (Leaf true))) =>
                       (D F.impl_InAt [SV.leaf (Leaf.sl c2 e2), SV.leaf (Leaf.str s)] []).bind
                        fun (r : SV true × List (List (SV true))) =>
                        svLeafK r.fst fun (l : Leaf true) =>
                         intK Go.IntKind.i64 l fun (n_1 : Int) =>
                          branch (decide (n_1 < 0))
                           ((D F.impl_changes_add
                              [SV.ptr 0 0, SV.leaf (Leaf.bool true), SV.leaf (Leaf.int Go.IntKind.i64 6),
                               SV.leaf (Leaf.str s0), SV.leaf (Leaf.str s)]
                              [[SV.own (some T.impl_Change) ex18_0]]).bind
                            fun (r : SV true × List (List (SV true))) =>
                            headB r.snd fun (d : List (SV true)) (r_1 : List (List (SV true))) =>
                             headK d fun (d : SV true) (r_2 : List (SV true)) =>
                              svOwnK T.impl_Change d fun (es : List (List (Leaf true))) =>
                               lastK r_2
                                (lastB r_1
                                 (svTupK r.fst fun (vs : List (SV true)) =>
                                  lastK vs
                                   (d_impl_InChanges_A D (d_impl_InChanges_1 s0 c1 e1 c2 e2 c19 e19 i20 i21 es)))))
                           (guarded (decide (0 ≤ n_1) && decide (n_1 < (↑e2.length : Int)) && sized 10 e2)
                            (bindE (e2.getD n_1.toNat []) fun (e : List (Leaf true)) =>
                             atK e 0 fun (l : Leaf true) =>
                              strK l fun (s_5 : ByteArray) =>
                               atK e 1 fun (l : Leaf true) =>
                                strK l fun (s_6 : ByteArray) =>
                                 atK e 2 fun (l : Leaf true) =>
                                  strK l fun (s_7 : ByteArray) =>
                                   atK e 3 fun (l : Leaf true) =>
                                    strK l fun (s_8 : ByteArray) =>
                                     atK e 4 fun (l : Leaf true) =>
                                      boolK l fun (b_1 : Bool) =>
                                       atK e 5 fun (l : Leaf true) =>
                                        intK Go.IntKind.i64 l fun (n_2 : Int) =>
                                         atK e 6 fun (l : Leaf true) =>
                                          strK l fun (s_9 : ByteArray) =>
                                           atK e 7 fun (l : Leaf true) =>
                                            slK l fun (c_3 : Fl true) (es_3 : List (List (Leaf true))) =>
                                             atK e 8 fun (l : Leaf true) =>
                                              slK l fun (c_4 : Fl true) (es_4 : List (List (Leaf true))) =>
                                               atK e 9 fun (l : Leaf true) =>
                                                slK l fun (c_5 : Fl true) (es_5 : List (List (Leaf true))) =>
                                                 (D F.impl_Compatible
                                                    [SV.agg [Leaf.str s_2, Leaf.str s_3],
                                                     SV.agg [Leaf.str s_7, Leaf.str s_8]]
                                                    []).bind
                                                  fun (r : SV true × List (List (SV true))) =>
                                                  svLeafK r.fst fun (l : Leaf true) =>
                                                   boolK l fun (b_2 : Bool) =>
                                                    branch ((!(s_2 == s_7 && (s_3 == s_8 && true))) == true)
                                                     ((D F.impl_changes_add
                                                        [SV.ptr 0 0, SV.leaf (Leaf.bool !b_2),
                                                         SV.leaf (Leaf.int Go.IntKind.i64 7), SV.leaf (Leaf.str s0),
                                                         SV.leaf (Leaf.str s)]
                                                        [[SV.own (some T.impl_Change) ex18_0]]).bind
                                                      fun (r : SV true × List (List (SV true))) =>
                                                      headB r.snd
                                                       fun (d : List (SV true)) (r_1 : List (List (SV true))) =>
                                                       headK d fun (d : SV true) (r_2 : List (SV true)) =>
                                                        svOwnK T.impl_Change d fun (es_6 : List (List (Leaf true))) =>
                                                         lastK r_2
                                                          (lastB r_1
                                                           (svTupK r.fst fun (vs : List (SV true)) =>
                                                            lastK vs
                                                             (d_impl_InChanges_A D
                                                              (d_impl_InChanges_2 s0 c1 e1 c2 e2 b_2 c19 e19 i20 i21 s
                                                               s_1 s_2 s_3 b n s_4 c es c_1 es_1 c_2 es_2 s_5 s_6 s_7
                                                               s_8 b_1 n_2 s_9 c_3 es_3 c_4 es_4 c_5 es_5 es_6)))))
                                                     ((D F.impl_changes_add
                                                        [SV.ptr 0 0, SV.leaf (Leaf.bool false),
                                                         SV.leaf (Leaf.int Go.IntKind.i64 7), SV.leaf (Leaf.str s0),
                                                         SV.leaf (Leaf.str s)]
                                                        [[SV.own (some T.impl_Change) ex18_0]]).bind
                                                      fun (r : SV true × List (List (SV true))) =>
                                                      headB r.snd
                                                       fun (d : List (SV true)) (r_1 : List (List (SV true))) =>
                                                       headK d fun (d : SV true) (r_2 : List (SV true)) =>
                                                        svOwnK T.impl_Change d fun (es_6 : List (List (Leaf true))) =>
                                                         lastK r_2
                                                          (lastB r_1
                                                           (svTupK r.fst fun (vs : List (SV true)) =>
                                                            lastK vs
                                                             (d_impl_InChanges_A D
                                                              (d_impl_InChanges_2 s0 c1 e1 c2 e2 b_2 c19 e19 i20 i21 s
                                                               s_1 s_2 s_3 b n s_4 c es c_1 es_1 c_2 es_2 s_5 s_6 s_7
                                                               s_8 b_1 n_2 s_9 c_3 es_3 c_4 es_4 c_5 es_5 es_6)))))))))
 (d_impl_InChanges_A D (d_impl_InChanges_3 s0 c1 e1 c2 e2 (↑e2.length : Int) 0 ex18_0)) := by
  refine (nameF_eq (J := d_impl_InChanges_A D) (fun _ _ => rfl) [[1, 1, 0, 1, 0], [1, 1, 0, 1, 0, 0, 1, 1, 1], [1, 1, 0, 1, 0, 0, 1, 1, 0, 0, 1, 1, 1, 1, 1, 1], [1, 1, 0, 1, 0, 0, 1, 1, 0, 0, 1, 1, 1, 1, 1, 1, 1], [1, 1, 0, 1, 0, 0, 1, 1, 0, 0, 1, 1, 1, 1, 1, 1, 1, 1], [1, 1, 1, 0, 1, 0], [1, 1, 1, 0, 1, 0, 0, 1, 1, 1], [1, 1, 1, 0, 1, 0, 0, 1, 1, 0, 0, 1, 1, 1]] (d_impl_InChanges_0 s0 c1 e1 c2 e2 c19 e19 i20 i21 ex18_0)).trans ?_
  generalize d_impl_InChanges_A D = J
  revert J
  refine id ?_
  intro J
  kernel_rfl
theorem d_impl_InChanges_1_eq (D : Oracle true) (s0 : ByteArray) (c1 : Fl true) (e1 : List (List (Leaf true))) (c2 : Fl true) (e2 : List (List (Leaf true))) (c19 : Fl true) (e19 : List (List (Leaf true))) (i20 : Int) (i21 : Int) (ex18_0 : List (List (Leaf true))) : d_impl_InChanges_A D (d_impl_InChanges_1 s0 c1 e1 c2 e2 c19 e19 i20 i21 ex18_0) =
  d_impl_InChanges_A D (d_impl_InChanges_0 s0 c1 e1 c2 e2 c19 e19 i20 (Go.IntKind.i64.wrap (i21 + 1)) ex18_0) := by
  refine (nameF_eq (J := d_impl_InChanges_A D) (fun _ _ => rfl) [[1, 1, 0, 1, 0], [1, 1, 0, 1, 0, 0, 1, 1, 1], [1, 1, 0, 1, 0, 0, 1, 1, 0, 0, 1, 1, 1, 1, 1, 1], [1, 1, 0, 1, 0, 0, 1, 1, 0, 0, 1, 1, 1, 1, 1, 1, 1], [1, 1, 0, 1, 0, 0, 1, 1, 0, 0, 1, 1, 1, 1, 1, 1, 1, 1], [1, 1, 1, 0, 1, 0], [1, 1, 1, 0, 1, 0, 0, 1, 1, 1], [1, 1, 1, 0, 1, 0, 0, 1, 1, 0, 0, 1, 1, 1]] (d_impl_InChanges_1 s0 c1 e1 c2 e2 c19 e19 i20 i21 ex18_0)).trans ?_
  generalize d_impl_InChanges_A D = J
  revert J
  refine id ?_
  intro J
  kernel_rfl
theorem d_impl_InChanges_2_eq (D : Oracle true) (s0 : ByteArray) (c1 : Fl true) (e1 : List (List (Leaf true))) (c2 : Fl true) (e2 : List (List (Leaf true))) (b12 : Bool) (c19 : Fl true) (e19 : List (List (Leaf true))) (i20 : Int) (i21 : Int) (sx9_0 : ByteArray) (sx9_1 : ByteArray) (sx9_2 : ByteArray) (sx9_3 : ByteArray) (bx9_4 : Bool) (ix9_5 : Int) (sx9_6 : ByteArray) (cx9_7 : Fl true) (ex9_7 : List (List (Leaf true))) (cx9_8 : Fl true) (ex9_8 : List (List (Leaf true))) (cx9_9 : Fl true) (ex9_9 : List (List (Leaf true))) (sx11_0 : ByteArray) (sx11_1 : ByteArray) (sx11_2 : ByteArray) (sx11_3 : ByteArray) (bx11_4 : Bool) (ix11_5 : Int) (sx11_6 : ByteArray) (cx11_7 : Fl true) (ex11_7 : List (List (Leaf true))) (cx11_8 : Fl true) (ex11_8 : List (List (Leaf true))) (cx11_9 : Fl true) (ex11_9 : List (List (Leaf true))) (ex18_0 : List (List (Leaf true))) : d_impl_InChanges_A D (d_impl_InChanges_2 s0 c1 e1 c2 e2 b12 c19 e19 i20 i21 sx9_0 sx9_1 sx9_2 sx9_3 bx9_4 ix9_5 sx9_6 cx9_7 ex9_7 cx9_8 ex9_8 cx9_9 ex9_9 sx11_0 sx11_1 sx11_2 sx11_3 bx11_4 ix11_5 sx11_6 cx11_7 ex11_7 cx11_8 ex11_8 cx11_9 ex11_9 ex18_0) =
  branch ((!(sx9_2 == sx11_2 && (sx9_3 == sx11_3 && true))) == true)
 ((D F.impl_changes_add
    [SV.ptr 0 0, SV.leaf (Leaf.bool b12), SV.leaf (Leaf.int Go.IntKind.i64 19), SV.leaf (Leaf.str s0),
     SV.leaf (Leaf.str sx9_0)]
    [[SV.own (some T.impl_Change) ex18_0]]).bind
  fun (r : SV true × List (List (SV true))) =>
  headB r.snd fun (d : List (SV true)) (r_1 : List (List (SV true))) =>
   headK d fun (d : SV true) (r_2 : List (SV true)) =>
    svOwnK T.impl_Change d fun (es : List (List (Leaf true))) =>
     lastK r_2
      (lastB r_1
       (svTupK r.fst fun (vs : List (SV true)) =>
        lastK vs
         (d_impl_InChanges_A D
          (d_impl_InChanges_4 s0 c1 e1 c2 e2 c19 e19 i20 i21 sx9_0 sx9_1 sx9_2 sx9_3 bx9_4 ix9_5 sx9_6 cx9_7 ex9_7 cx9_8
           ex9_8 cx9_9 ex9_9 sx11_0 sx11_1 sx11_2 sx11_3 bx11_4 ix11_5 sx11_6 cx11_7 ex11_7 cx11_8 ex11_8 cx11_9 ex11_9
           es)))))
 ((D F.impl_changes_add
    [SV.ptr 0 0, SV.leaf (Leaf.bool false), SV.leaf (Leaf.int Go.IntKind.i64 19), SV.leaf (Leaf.str s0),
     SV.leaf (Leaf.str sx9_0)]
    [[SV.own (some T.impl_Change) ex18_0]]).bind
  fun (r : SV true × List (List (SV true))) =>
  headB r.snd fun (d : List (SV true)) (r_1 : List (List (SV true))) =>
   headK d fun (d : SV true) (r_2 : List (SV true)) =>
    svOwnK T.impl_Change d fun (es : List (List (Leaf true))) =>
     lastK r_2
      (lastB r_1
       (svTupK r.fst fun (vs : List (SV true)) =>
        lastK vs
         (d_impl_InChanges_A D
          (d_impl_InChanges_4 s0 c1 e1 c2 e2 c19 e19 i20 i21 sx9_0 sx9_1 sx9_2 sx9_3 bx9_4 ix9_5 sx9_6 cx9_7 ex9_7 cx9_8
           ex9_8 cx9_9 ex9_9 sx11_0 sx11_1 sx11_2 sx11_3 bx11_4 ix11_5 sx11_6 cx11_7 ex11_7 cx11_8 ex11_8 cx11_9 ex11_9
           es))))) := by
  refine (nameF_eq (J := d_impl_InChanges_A D) (fun _ _ => rfl) [[1, 1, 0, 1, 0], [1, 1, 0, 1, 0, 0, 1, 1, 1], [1, 1, 0, 1, 0, 0, 1, 1, 0, 0, 1, 1, 1, 1, 1, 1], [1, 1, 0, 1, 0, 0, 1, 1, 0, 0, 1, 1, 1, 1, 1, 1, 1], [1, 1, 0, 1, 0, 0, 1, 1, 0, 0, 1, 1, 1, 1, 1, 1, 1, 1], [1, 1, 1, 0, 1, 0], [1, 1, 1, 0, 1, 0, 0, 1, 1, 1], [1, 1, 1, 0, 1, 0, 0, 1, 1, 0, 0, 1, 1, 1]] (d_impl_InChanges_2 s0 c1 e1 c2 e2 b12 c19 e19 i20 i21 sx9_0 sx9_1 sx9_2 sx9_3 bx9_4 ix9_5 sx9_6 cx9_7 ex9_7 cx9_8 ex9_8 cx9_9 ex9_9 sx11_0 sx11_1 sx11_2 sx11_3 bx11_4 ix11_5 sx11_6 cx11_7 ex11_7 cx11_8 ex11_8 cx11_9 ex11_9 ex18_0)).trans ?_
  generalize d_impl_InChanges_A D = J
  revert J
  refine id ?_
  intro J
  kernel_rfl
theorem d_impl_InChanges_3_eq (D : Oracle true) (s0 : ByteArray) (c1 : Fl true) (e1 : List (List (Leaf true))) (c113 : Fl true) (e113 : List (List (Leaf true))) (i114 : Int) (i115 : Int) (ex18_0 : List (List (Leaf true))) : d_impl_InChanges_A D (d_impl_InChanges_3 s0 c1 e1 c113 e113 i114 i115 ex18_0) =
  branch (decide (i115 < i114))
 (guarded (decide (0 ≤ i115) && decide (i115 < (↑e113.length : Int)) && sized 10 e113)
  (bindE (e113.getD i115.toNat []) fun (e : List (Leaf true)) =>
   atK e 0 fun (l : Leaf true) =>
    strK l fun (s : ByteArray) =>
     atK e 1 fun (l : Leaf true) =>
      strK l fun (s_1 : ByteArray) =>
       atK e 2 fun (l : Leaf true) =>
        strK l fun (s_2 : ByteArray) =>
         atK e 3 fun (l : Leaf true) =>
          strK l fun (s_3 : ByteArray) =>
           atK e 4 fun (l : Leaf true) =>
            boolK l fun (b : Bool) =>
             atK e 5 fun (l : Leaf true) =>
              intK Go.IntKind.i64 l fun (n : Int) =>
               atK e 6 fun (l : Leaf true) =>
                strK l fun (s_4 : ByteArray) =>
                 atK e 7 fun (l : Leaf true) =>
                  slK l fun (c : Fl true) (es : List (List (Leaf true))) =>
                   atK e 8 fun (l : Leaf true) =>
                    slK l fun (c_1 : Fl true) (es_1 : List (List (Leaf true))) =>
                     atK e 9 fun (l : Leaf true) =>
                      slK l fun (c_2 : Fl true) (es_2 : List (List (Leaf true))) =>
                       (D F.impl_InAt [SV.leaf (Leaf.sl c1 e1), SV.leaf (Leaf.str s)] []).bind
                        fun (r : SV true × List (List (SV true))) =>
                        svLeafK r.fst fun (l : Leaf true) =>
                         intK Go.IntKind.i64 l fun (n_1 : Int) =>
                          branch (decide (n_1 ≥ 0))
                           (d_impl_InChanges_A D (d_impl_InChanges_5 s0 c1 e1 c113 e113 i114 i115 ex18_0))
                           ((D F.impl_Needed [SV.agg [Leaf.str s_2, Leaf.str s_3]] []).bind
                            fun (r : SV true × List (List (SV true))) =>
                            svLeafK r.fst fun (l : Leaf true) =>
                             boolK l fun (b_1 : Bool) =>
                              branch (b_1 == true)
                               (d_impl_InChanges_A D
                                (d_impl_InChanges_6 s0 c1 e1 (!b) c113 e113 i114 i115 s s_1 s_2 s_3 b n s_4 c es c_1
                                 es_1 c_2 es_2 ex18_0))
                               (d_impl_InChanges_A D
                                (d_impl_InChanges_6 s0 c1 e1 false c113 e113 i114 i115 s s_1 s_2 s_3 b n s_4 c es c_1
                                 es_1 c_2 es_2 ex18_0)))))
 (some (SV.leaf (Leaf.sl fNew ex18_0), [])) := by
  refine (nameF_eq (J := d_impl_InChanges_A D) (fun _ _ => rfl) [[1, 1, 0, 1, 0], [1, 1, 0, 1, 0, 0, 1, 1, 1], [1, 1, 0, 1, 0, 0, 1, 1, 0, 0, 1, 1, 1, 1, 1, 1], [1, 1, 0, 1, 0, 0, 1, 1, 0, 0, 1, 1, 1, 1, 1, 1, 1], [1, 1, 0, 1, 0, 0, 1, 1, 0, 0, 1, 1, 1, 1, 1, 1, 1, 1], [1, 1, 1, 0, 1, 0], [1, 1, 1, 0, 1, 0, 0, 1, 1, 1], [1, 1, 1, 0, 1, 0, 0, 1, 1, 0, 0, 1, 1, 1]] (d_impl_InChanges_3 s0 c1 e1 c113 e113 i114 i115 ex18_0)).trans ?_
  generalize d_impl_InChanges_A D = J
  revert J
  refine id ?_
  intro J
  kernel_rfl
theorem d_impl_InChanges_4_eq (D : Oracle true) (s0 : ByteArray) (c1 : Fl true) (e1 : List (List (Leaf true))) (c2 : Fl true) (e2 : List (List (Leaf true))) (c19 : Fl true) (e19 : List (List (Leaf true))) (i20 : Int) (i21 : Int) (sx9_0 : ByteArray) (sx9_1 : ByteArray) (sx9_2 : ByteArray) (sx9_3 : ByteArray) (bx9_4 : Bool) (ix9_5 : Int) (sx9_6 : ByteArray) (cx9_7 : Fl true) (ex9_7 : List (List (Leaf true))) (cx9_8 : Fl true) (ex9_8 : List (List (Leaf true))) (cx9_9 : Fl true) (ex9_9 : List (List (Leaf true))) (sx11_0 : ByteArray) (sx11_1 : ByteArray) (sx11_2 : ByteArray) (sx11_3 : ByteArray) (bx11_4 : Bool) (ix11_5 : Int) (sx11_6 : ByteArray) (cx11_7 : Fl true) (ex11_7 : List (List (Leaf true))) (cx11_8 : Fl true) (ex11_8 : List (List (Leaf true))) (cx11_9 : Fl true) (ex11_9 : List (List (Leaf true))) (ex18_0 : List (List (Leaf true))) : d_impl_InChanges_A D (d_impl_InChanges_4 s0 c1 e1 c2 e2 c19 e19 i20 i21 sx9_0 sx9_1 sx9_2 sx9_3 bx9_4 ix9_5 sx9_6 cx9_7 ex9_7 cx9_8 ex9_8 cx9_9 ex9_9 sx11_0 sx11_1 sx11_2 sx11_3 bx11_4 ix11_5 sx11_6 cx11_7 ex11_7 cx11_8 ex11_8 cx11_9 ex11_9 ex18_0) =
  branch (bx9_4 == true)
 (branch ((!bx11_4) == true)
  ((D F.impl_Needed [SV.agg [Leaf.str sx11_2, Leaf.str sx11_3]] []).bind fun (r : SV true × List (List (SV true))) =>
   svLeafK r.fst fun (l : Leaf true) =>
    boolK l fun (b : Bool) =>
     d_impl_InChanges_A D
      (d_impl_InChanges_7 s0 c1 e1 c2 e2 b c19 e19 i20 i21 sx9_0 sx9_1 sx9_2 sx9_3 bx9_4 ix9_5 sx9_6 cx9_7 ex9_7 cx9_8
       ex9_8 cx9_9 ex9_9 sx11_0 sx11_1 sx11_2 sx11_3 bx11_4 ix11_5 sx11_6 cx11_7 ex11_7 cx11_8 ex11_8 cx11_9 ex11_9
       ex18_0))
  (d_impl_InChanges_A D
   (d_impl_InChanges_7 s0 c1 e1 c2 e2 false c19 e19 i20 i21 sx9_0 sx9_1 sx9_2 sx9_3 bx9_4 ix9_5 sx9_6 cx9_7 ex9_7 cx9_8
    ex9_8 cx9_9 ex9_9 sx11_0 sx11_1 sx11_2 sx11_3 bx11_4 ix11_5 sx11_6 cx11_7 ex11_7 cx11_8 ex11_8 cx11_9 ex11_9
    ex18_0)))
 (d_impl_InChanges_A D
  (d_impl_InChanges_7 s0 c1 e1 c2 e2 false c19 e19 i20 i21 sx9_0 sx9_1 sx9_2 sx9_3 bx9_4 ix9_5 sx9_6 cx9_7 ex9_7 cx9_8
   ex9_8 cx9_9 ex9_9 sx11_0 sx11_1 sx11_2 sx11_3 bx11_4 ix11_5 sx11_6 cx11_7 ex11_7 cx11_8 ex11_8 cx11_9 ex11_9 ex18_0)) := by
  refine (nameF_eq (J := d_impl_InChanges_A D) (fun _ _ => rfl) [[1, 1, 0, 1, 0], [1, 1, 0, 1, 0, 0, 1, 1, 1], [1, 1, 0, 1, 0, 0, 1, 1, 0, 0, 1, 1, 1, 1, 1, 1], [1, 1, 0, 1, 0, 0, 1, 1, 0, 0, 1, 1, 1, 1, 1, 1, 1], [1, 1, 0, 1, 0, 0, 1, 1, 0, 0, 1, 1, 1, 1, 1, 1, 1, 1], [1, 1, 1, 0, 1, 0], [1, 1, 1, 0, 1, 0, 0, 1, 1, 1], [1, 1, 1, 0, 1, 0, 0, 1, 1, 0, 0, 1, 1, 1]] (d_impl_InChanges_4 s0 c1 e1 c2 e2 c19 e19 i20 i21 sx9_0 sx9_1 sx9_2 sx9_3 bx9_4 ix9_5 sx9_6 cx9_7 ex9_7 cx9_8 ex9_8 cx9_9 ex9_9 sx11_0 sx11_1 sx11_2 sx11_3 bx11_4 ix11_5 sx11_6 cx11_7 ex11_7 cx11_8 ex11_8 cx11_9 ex11_9 ex18_0)).trans ?_
  generalize d_impl_InChanges_A D = J
  revert J
  refine id ?_
  intro J
  kernel_rfl
theorem d_impl_InChanges_5_eq (D : Oracle true) (s0 : ByteArray) (c1 : Fl true) (e1 : List (List (Leaf true))) (c113 : Fl true) (e113 : List (List (Leaf true))) (i114 : Int) (i115 : Int) (ex18_0 : List (List (Leaf true))) : d_impl_InChanges_A D (d_impl_InChanges_5 s0 c1 e1 c113 e113 i114 i115 ex18_0) =
  d_impl_InChanges_A D (d_impl_InChanges_3 s0 c1 e1 c113 e113 i114 (Go.IntKind.i64.wrap (i115 + 1)) ex18_0) := by
  refine (nameF_eq (J := d_impl_InChanges_A D) (fun _ _ => rfl) [[1, 1, 0, 1, 0], [1, 1, 0, 1, 0, 0, 1, 1, 1], [1, 1, 0, 1, 0, 0, 1, 1, 0, 0, 1, 1, 1, 1, 1, 1], [1, 1, 0, 1, 0, 0, 1, 1, 0, 0, 1, 1, 1, 1, 1, 1, 1], [1, 1, 0, 1, 0, 0, 1, 1, 0, 0, 1, 1, 1, 1, 1, 1, 1, 1], [1, 1, 1, 0, 1, 0], [1, 1, 1, 0, 1, 0, 0, 1, 1, 1], [1, 1, 1, 0, 1, 0, 0, 1, 1, 0, 0, 1, 1, 1]] (d_impl_InChanges_5 s0 c1 e1 c113 e113 i114 i115 ex18_0)).trans ?_
  generalize d_impl_InChanges_A D = J
  revert J
  refine id ?_
  intro J
  kernel_rfl
theorem d_impl_InChanges_6_eq (D : Oracle true) (s0 : ByteArray) (c1 : Fl true) (e1 : List (List (Leaf true))) (b16 : Bool) (c113 : Fl true) (e113 : List (List (Leaf true))) (i114 : Int) (i115 : Int) (sx15_0 : ByteArray) (sx15_1 : ByteArray) (sx15_2 : ByteArray) (sx15_3 : ByteArray) (bx15_4 : Bool) (ix15_5 : Int) (sx15_6 : ByteArray) (cx15_7 : Fl true) (ex15_7 : List (List (Leaf true))) (cx15_8 : Fl true) (ex15_8 : List (List (Leaf true))) (cx15_9 : Fl true) (ex15_9 : List (List (Leaf true))) (ex18_0 : List (List (Leaf true))) : d_impl_InChanges_A D (d_impl_InChanges_6 s0 c1 e1 b16 c113 e113 i114 i115 sx15_0 sx15_1 sx15_2 sx15_3 bx15_4 ix15_5 sx15_6 cx15_7 ex15_7 cx15_8 ex15_8 cx15_9 ex15_9 ex18_0) =
  (D F.impl_changes_add
   [SV.ptr 0 0, SV.leaf (Leaf.bool b16), SV.leaf (Leaf.int Go.IntKind.i64 8), SV.leaf (Leaf.str s0),
    SV.leaf (Leaf.str sx15_0)]
   [[SV.own (some T.impl_Change) ex18_0]]).bind
 fun (r : SV true × List (List (SV true))) =>
 headB r.snd fun (d : List (SV true)) (r_1 : List (List (SV true))) =>
  headK d fun (d : SV true) (r_2 : List (SV true)) =>
   svOwnK T.impl_Change d fun (es : List (List (Leaf true))) =>
    lastK r_2
     (lastB r_1
      (svTupK r.fst fun (vs : List (SV true)) =>
       lastK vs
        ((D F.impl_changes_add
           [SV.ptr 0 0, SV.leaf (Leaf.bool !b16), SV.leaf (Leaf.int Go.IntKind.i64 20), SV.leaf (Leaf.str s0),
            SV.leaf (Leaf.str sx15_0)]
           [[SV.own (some T.impl_Change) es]]).bind
         fun (r : SV true × List (List (SV true))) =>
         headB r.snd fun (d : List (SV true)) (r_3 : List (List (SV true))) =>
          headK d fun (d : SV true) (r_4 : List (SV true)) =>
           svOwnK T.impl_Change d fun (es : List (List (Leaf true))) =>
            lastK r_4
             (lastB r_3
              (svTupK r.fst fun (vs : List (SV true)) =>
               lastK vs (d_impl_InChanges_A D (d_impl_InChanges_5 s0 c1 e1 c113 e113 i114 i115 es))))))) := by
  refine (nameF_eq (J := d_impl_InChanges_A D) (fun _ _ => rfl) [[1, 1, 0, 1, 0], [1, 1, 0, 1, 0, 0, 1, 1, 1], [1, 1, 0, 1, 0, 0, 1, 1, 0, 0, 1, 1, 1, 1, 1, 1], [1, 1, 0, 1, 0, 0, 1, 1, 0, 0, 1, 1, 1, 1, 1, 1, 1], [1, 1, 0, 1, 0, 0, 1, 1, 0, 0, 1, 1, 1, 1, 1, 1, 1, 1], [1, 1, 1, 0, 1, 0], [1, 1, 1, 0, 1, 0, 0, 1, 1, 1], [1, 1, 1, 0, 1, 0, 0, 1, 1, 0, 0, 1, 1, 1]] (d_impl_InChanges_6 s0 c1 e1 b16 c113 e113 i114 i115 sx15_0 sx15_1 sx15_2 sx15_3 bx15_4 ix15_5 sx15_6 cx15_7 ex15_7 cx15_8 ex15_8 cx15_9 ex15_9 ex18_0)).trans ?_
  generalize d_impl_InChanges_A D = J
  revert J
  refine id ?_
  intro J
  kernel_rfl
theorem d_impl_InChanges_7_eq (D : Oracle true) (s0 : ByteArray) (c1 : Fl true) (e1 : List (List (Leaf true))) (c2 : Fl true) (e2 : List (List (Leaf true))) (b13 : Bool) (c19 : Fl true) (e19 : List (List (Leaf true))) (i20 : Int) (i21 : Int) (sx9_0 : ByteArray) (sx9_1 : ByteArray) (sx9_2 : ByteArray) (sx9_3 : ByteArray) (bx9_4 : Bool) (ix9_5 : Int) (sx9_6 : ByteArray) (cx9_7 : Fl true) (ex9_7 : List (List (Leaf true))) (cx9_8 : Fl true) (ex9_8 : List (List (Leaf true))) (cx9_9 : Fl true) (ex9_9 : List (List (Leaf true))) (sx11_0 : ByteArray) (sx11_1 : ByteArray) (sx11_2 : ByteArray) (sx11_3 : ByteArray) (bx11_4 : Bool) (ix11_5 : Int) (sx11_6 : ByteArray) (cx11_7 : Fl true) (ex11_7 : List (List (Leaf true))) (cx11_8 : Fl true) (ex11_8 : List (List (Leaf true))) (cx11_9 : Fl true) (ex11_9 : List (List (Leaf true))) (ex18_0 : List (List (Leaf true))) : d_impl_InChanges_A D (d_impl_InChanges_7 s0 c1 e1 c2 e2 b13 c19 e19 i20 i21 sx9_0 sx9_1 sx9_2 sx9_3 bx9_4 ix9_5 sx9_6 cx9_7 ex9_7 cx9_8 ex9_8 cx9_9 ex9_9 sx11_0 sx11_1 sx11_2 sx11_3 bx11_4 ix11_5 sx11_6 cx11_7 ex11_7 cx11_8 ex11_8 cx11_9 ex11_9 ex18_0) =
  (D F.impl_changes_add
   [SV.ptr 0 0, SV.leaf (Leaf.bool b13), SV.leaf (Leaf.int Go.IntKind.i64 9), SV.leaf (Leaf.str s0),
    SV.leaf (Leaf.str sx9_0)]
   [[SV.own (some T.impl_Change) ex18_0]]).bind
 fun (r : SV true × List (List (SV true))) =>
 headB r.snd fun (d : List (SV true)) (r_1 : List (List (SV true))) =>
  headK d fun (d : SV true) (r_2 : List (SV true)) =>
   svOwnK T.impl_Change d fun (es : List (List (Leaf true))) =>
    lastK r_2
     (lastB r_1
      (svTupK r.fst fun (vs : List (SV true)) =>
       lastK vs
        (branch ((!b13) == true)
         (branch ((!bx9_4 == bx11_4) == false)
          ((D F.impl_SameValue
             [SV.agg [Leaf.int Go.IntKind.i64 ix9_5, Leaf.str sx9_6, Leaf.sl cx9_7 ex9_7, Leaf.sl cx9_8 ex9_8],
              SV.agg [Leaf.int Go.IntKind.i64 ix11_5, Leaf.str sx11_6, Leaf.sl cx11_7 ex11_7, Leaf.sl cx11_8 ex11_8]]
             []).bind
           fun (r : SV true × List (List (SV true))) =>
           svLeafK r.fst fun (l : Leaf true) =>
            boolK l fun (b : Bool) =>
             (D F.impl_changes_add
                [SV.ptr 0 0, SV.leaf (Leaf.bool !b), SV.leaf (Leaf.int Go.IntKind.i64 21), SV.leaf (Leaf.str s0),
                 SV.leaf (Leaf.str sx9_0)]
                [[SV.own (some T.impl_Change) es]]).bind
              fun (r : SV true × List (List (SV true))) =>
              headB r.snd fun (d : List (SV true)) (r_3 : List (List (SV true))) =>
               headK d fun (d : SV true) (r_4 : List (SV true)) =>
                svOwnK T.impl_Change d fun (es : List (List (Leaf true))) =>
                 lastK r_4
                  (lastB r_3
                   (svTupK r.fst fun (vs : List (SV true)) =>
                    lastK vs (d_impl_InChanges_A D (d_impl_InChanges_1 s0 c1 e1 c2 e2 c19 e19 i20 i21 es)))))
          ((D F.impl_changes_add
             [SV.ptr 0 0, SV.leaf (Leaf.bool true), SV.leaf (Leaf.int Go.IntKind.i64 21), SV.leaf (Leaf.str s0),
              SV.leaf (Leaf.str sx9_0)]
             [[SV.own (some T.impl_Change) es]]).bind
           fun (r : SV true × List (List (SV true))) =>
           headB r.snd fun (d : List (SV true)) (r_3 : List (List (SV true))) =>
            headK d fun (d : SV true) (r_4 : List (SV true)) =>
             svOwnK T.impl_Change d fun (es : List (List (Leaf true))) =>
              lastK r_4
               (lastB r_3
                (svTupK r.fst fun (vs : List (SV true)) =>
                 lastK vs (d_impl_InChanges_A D (d_impl_InChanges_1 s0 c1 e1 c2 e2 c19 e19 i20 i21 es))))))
         ((D F.impl_changes_add
            [SV.ptr 0 0, SV.leaf (Leaf.bool false), SV.leaf (Leaf.int Go.IntKind.i64 21), SV.leaf (Leaf.str s0),
             SV.leaf (Leaf.str sx9_0)]
            [[SV.own (some T.impl_Change) es]]).bind
          fun (r : SV true × List (List (SV true))) =>
          headB r.snd fun (d : List (SV true)) (r_3 : List (List (SV true))) =>
           headK d fun (d : SV true) (r_4 : List (SV true)) =>
            svOwnK T.impl_Change d fun (es : List (List (Leaf true))) =>
             lastK r_4
              (lastB r_3
               (svTupK r.fst fun (vs : List (SV true)) =>
                lastK vs (d_impl_InChanges_A D (d_impl_InChanges_1 s0 c1 e1 c2 e2 c19 e19 i20 i21 es)))))))) := by
  refine (nameF_eq (J := d_impl_InChanges_A D) (fun _ _ => rfl) [[1, 1, 0, 1, 0], [1, 1, 0, 1, 0, 0, 1, 1, 1], [1, 1, 0, 1, 0, 0, 1, 1, 0, 0, 1, 1, 1, 1, 1, 1], [1, 1, 0, 1, 0, 0, 1, 1, 0, 0, 1, 1, 1, 1, 1, 1, 1], [1, 1, 0, 1, 0, 0, 1, 1, 0, 0, 1, 1, 1, 1, 1, 1, 1, 1], [1, 1, 1, 0, 1, 0], [1, 1, 1, 0, 1, 0, 0, 1, 1, 1], [1, 1, 1, 0, 1, 0, 0, 1, 1, 0, 0, 1, 1, 1]] (d_impl_InChanges_7 s0 c1 e1 c2 e2 b13 c19 e19 i20 i21 sx9_0 sx9_1 sx9_2 sx9_3 bx9_4 ix9_5 sx9_6 cx9_7 ex9_7 cx9_8 ex9_8 cx9_9 ex9_9 sx11_0 sx11_1 sx11_2 sx11_3 bx11_4 ix11_5 sx11_6 cx11_7 ex11_7 cx11_8 ex11_8 cx11_9 ex11_9 ex18_0)).trans ?_
  generalize d_impl_InChanges_A D = J
  revert J
  refine id ?_
  intro J
  kernel_rfl
theorem run_d_impl_InChanges (D : Oracle true) (s0 : ByteArray) (c1 : Fl true) (e1 : List (List (Leaf true))) (c2 : Fl true) (e2 : List (List (Leaf true))) : run2V Go.Proofs.Try.prog D Go.Vs.Hs limR F.impl_InChanges [SV.leaf (Leaf.str s0), SV.leaf (Leaf.sl c1 e1), SV.leaf (Leaf.sl c2 e2)] [] =
  d_impl_InChanges_A D (d_impl_InChanges_0 s0 c1 e1 c2 e2 c1 e1 (↑e1.length : Int) 0 []) := by
  refine (run_names (J := d_impl_InChanges_A D) (by kernel_rfl) (fun _ _ => rfl) [[1, 1, 0, 1, 0], [1, 1, 0, 1, 0, 0, 1, 1, 1], [1, 1, 0, 1, 0, 0, 1, 1, 0, 0, 1, 1, 1, 1, 1, 1], [1, 1, 0, 1, 0, 0, 1, 1, 0, 0, 1, 1, 1, 1, 1, 1, 1], [1, 1, 0, 1, 0, 0, 1, 1, 0, 0, 1, 1, 1, 1, 1, 1, 1, 1], [1, 1, 1, 0, 1, 0], [1, 1, 1, 0, 1, 0, 0, 1, 1, 1], [1, 1, 1, 0, 1, 0, 0, 1, 1, 0, 0, 1, 1, 1]]).trans ?_
  generalize d_impl_InChanges_A D = J
  revert J
  refine id ?_
  intro J
  kernel_rfl
-- FN 32 d_laws_toInDef
noncomputable def d_laws_toInDef_A (D : Oracle true) (x : List Nat × St true) : Option (SV true × List (List (SV true))) := atF Go.Proofs.Try.prog D Go.Vs.Hs F.laws_toInDef x.1 0 x.2
theorem run_d_laws_toInDef (D : Oracle true) (s0_0 : ByteArray) (s0_1 : ByteArray) (s0_2 : ByteArray) (s0_3 : ByteArray) (b0_4 : Bool) (i0_5 : Int) (s0_6 : ByteArray) (c0_7 : Fl true) (e0_7 : List (List (Leaf true))) (c0_8 : Fl true) (e0_8 : List (List (Leaf true))) (c0_9 : Fl true) (e0_9 : List (List (Leaf true))) : run2V Go.Proofs.Try.prog D Go.Vs.Hs limR F.laws_toInDef [SV.agg
  [Leaf.str s0_0, Leaf.str s0_1, Leaf.str s0_2, Leaf.str s0_3, Leaf.bool b0_4, Leaf.int Go.IntKind.i64 i0_5,
   Leaf.str s0_6, Leaf.sl c0_7 e0_7, Leaf.sl c0_8 e0_8, Leaf.sl c0_9 e0_9]] [] =
  (D F.laws_toType [SV.agg [Leaf.str s0_2, Leaf.str s0_3]] []).bind fun (r : SV true × List (List (SV true))) =>
 svAggK r.fst fun (cs : List (Leaf true)) =>
  guarded (cs.length == 2)
   (atK cs 0 fun (l : Leaf true) =>
    strK l fun (s : ByteArray) =>
     atK cs 1 fun (l : Leaf true) =>
      strK l fun (s_1 : ByteArray) =>
       (D F.laws_toValue [SV.agg [Leaf.int Go.IntKind.i64 i0_5, Leaf.str s0_6, Leaf.sl c0_7 e0_7, Leaf.sl c0_8 e0_8]]
          []).bind
        fun (r : SV true × List (List (SV true))) =>
        svAggK r.fst fun (cs : List (Leaf true)) =>
         guarded (cs.length == 4)
          (atK cs 0 fun (l : Leaf true) =>
           intK Go.IntKind.i64 l fun (n : Int) =>
            atK cs 1 fun (l : Leaf true) =>
             strK l fun (s_2 : ByteArray) =>
              atK cs 2 fun (l : Leaf true) =>
               slK l fun (c : Fl true) (es : List (List (Leaf true))) =>
                atK cs 3 fun (l : Leaf true) =>
                 slK l fun (c_1 : Fl true) (es_1 : List (List (Leaf true))) =>
                  (D F.laws_toDirS [SV.leaf (Leaf.sl c0_9 e0_9)] []).bind fun (r : SV true × List (List (SV true))) =>
                   svSlK r.fst fun (c_2 : Fl true) (es_2 : List (List (Leaf true))) =>
                    some
                     (SV.agg
                       [Leaf.str s0_0, Leaf.str s0_1, Leaf.str s, Leaf.str s_1, Leaf.bool b0_4,
                        Leaf.int Go.IntKind.i64 n, Leaf.str s_2, Leaf.sl c es, Leaf.sl c_1 es_1, Leaf.sl c_2 es_2],
                      []))) := by
  refine (run_names (J := d_laws_toInDef_A D) (by kernel_rfl) (fun _ _ => rfl) []).trans ?_
  generalize d_laws_toInDef_A D = J
  revert J
  refine id ?_
  intro J
  kernel_rfl
-- FN 39 d_laws_markValueS
noncomputable def d_laws_markValueS_A (D : Oracle true) (x : List Nat × St true) : Option (SV true × List (List (SV true))) := atF Go.Proofs.Try.prog D Go.Vs.Hs F.laws_markValueS x.1 0 x.2
def d_laws_markValueS_0 (c0 : Fl true) (e0 : List (List (Leaf true))) (i1 : Int) (i5 : Int) : List Nat × St true := ([1, 0, 1, 0], St.mk
 [SV.leaf (Leaf.sl c0 e0), SV.leaf (Leaf.int Go.IntKind.i64 i1), SV.any, SV.any, SV.any,
  SV.leaf (Leaf.int Go.IntKind.i64 i5), SV.any, SV.any, SV.any, SV.any, SV.any, SV.any, SV.any, SV.any, SV.any, SV.any,
  SV.any, SV.any, SV.any, SV.any, SV.any, SV.any, SV.any, SV.any, SV.any, SV.any, SV.any, SV.any, SV.any, SV.any,
  SV.any, SV.any, SV.any, SV.any, SV.any, SV.any, SV.any, SV.any, SV.any, SV.any, SV.any, SV.any]
 [none, none, none, none, none, none, none, none, none, none, none, none, none, none, none, none, none, none, none,
  none, none, none, none, none, none, none, none, none, none, none, none, none, none, none, none, none, none, none,
  none, none, none, none])
theorem d_laws_markValueS_0_eq (D : Oracle true) (c0 : Fl true) (e0 : List (List (Leaf true))) (i1 : Int) (i5 : Int) : d_laws_markValueS_A D (d_laws_markValueS_0 c0 e0 i1 i5) =
  branch (decide (i5 < (↑e0.length : Int)))
 (guarded (decide (0 ≤ i5) && decide (i5 < (↑e0.length : Int)) && sized 4 e0)
  (if
    (c0.isSoft = true ∧ softAt (e0.getD i5.toNat []) 0 = true) ∧
     ((St.mk
           [SV.leaf (Leaf.sl c0 e0), SV.leaf (Leaf.int Go.IntKind.i64 i1), SV.any, SV.any, SV.any,
            SV.leaf (Leaf.int Go.IntKind.i64 i5), SV.any, SV.any, SV.any, SV.any, SV.any, SV.any,
            SV.leaf (Leaf.sl c0 e0), SV.leaf (Leaf.int Go.IntKind.i64 i5), SV.leaf (Leaf.int Go.IntKind.i64 i1),
            SV.eptr c0 (e0.getD i5.toNat []) 0, SV.eptr c0 (e0.getD i5.toNat []) 0, SV.any, SV.any, SV.any, SV.any,
            SV.any, SV.any, SV.any, SV.any, SV.any, SV.any, SV.any, SV.any, SV.any, SV.any, SV.any, SV.any, SV.any,
            SV.any, SV.any, SV.any, SV.any, SV.any, SV.any, SV.any, SV.any]
           [none, none, none, none, none, none, none, none, none, none, none, none, none, none, none, none, none, none,
            none, none, none, none, none, none, none, none, none, none, none, none, none, none, none, none, none, none,
            none, none, none, none, none, none]).eval
         (Go.Operand.tmp 14)).plain =
       true ∧
      sizeT Go.Proofs.Try.prog 3 = some 1 then
   (D F.laws_markText [SV.leaf (Leaf.int Go.IntKind.i64 (Go.IntKind.i64.wrap (i1 + 1)))] []).bind
    fun (r : SV true × List (List (SV true))) =>
    svLeafK r.fst fun (l : Leaf true) =>
     strK l fun (s : ByteArray) =>
      guarded (decide (0 ≤ i5) && decide (i5 < (↑e0.length : Int)) && sized 4 e0)
       (if
         (c0.isSoft = true ∧ softAt (e0.getD i5.toNat []) 1 = true) ∧
          ((St.mk
                [SV.leaf (Leaf.sl c0 e0), SV.leaf (Leaf.int Go.IntKind.i64 (Go.IntKind.i64.wrap (i1 + 1))), SV.any,
                 SV.any, SV.any, SV.leaf (Leaf.int Go.IntKind.i64 i5), SV.any, SV.any, SV.any, SV.any, SV.any, SV.any,
                 SV.any, SV.any, SV.any, SV.any, SV.any, SV.any, SV.any, SV.leaf (Leaf.sl c0 e0),
                 SV.leaf (Leaf.int Go.IntKind.i64 i5), SV.leaf (Leaf.int Go.IntKind.i64 (Go.IntKind.i64.wrap (i1 + 1))),
                 SV.leaf (Leaf.str s), SV.eptr c0 (e0.getD i5.toNat []) 0, SV.eptr c0 (e0.getD i5.toNat []) 1, SV.any,
                 SV.any, SV.any, SV.any, SV.any, SV.any, SV.any, SV.any, SV.any, SV.any, SV.any, SV.any, SV.any, SV.any,
                 SV.any, SV.any, SV.any]
                [none, none, none, none, none, none, none, none, none, none, none, none, none, none, none, none, none,
                 none, none, none, none, none, none, none, none, none, none, none, none, none, none, none, none, none,
                 none, none, none, none, none, none, none, none]).eval
              (Go.Operand.tmp 22)).plain =
            true ∧
           sizeT Go.Proofs.Try.prog 9 = some 1 then
        guarded (decide (0 ≤ i5) && decide (i5 < (↑e0.length : Int)) && sized 4 e0)
         (atK (e0.getD i5.toNat []) 2 fun (l : Leaf true) =>
          slK l fun (c : Fl true) (es : List (List (Leaf true))) =>
           (D F.laws_markValueS
              [SV.leaf (Leaf.sl c es),
               SV.leaf (Leaf.int Go.IntKind.i64 (Go.IntKind.i64.wrap (Go.IntKind.i64.wrap (i1 + 1) + 1)))]
              []).bind
            fun (r : SV true × List (List (SV true))) =>
            svLeafK r.fst fun (l : Leaf true) =>
             intK Go.IntKind.i64 l fun (n : Int) =>
              guarded (decide (0 ≤ i5) && decide (i5 < (↑e0.length : Int)) && sized 4 e0)
               (atK (e0.getD i5.toNat []) 3 fun (l : Leaf true) =>
                slK l fun (c : Fl true) (es : List (List (Leaf true))) =>
                 (D F.laws_markStringS [SV.leaf (Leaf.sl c es), SV.leaf (Leaf.int Go.IntKind.i64 n)] []).bind
                  fun (r : SV true × List (List (SV true))) =>
                  svLeafK r.fst fun (l : Leaf true) =>
                   intK Go.IntKind.i64 l fun (n : Int) =>
                    d_laws_markValueS_A D (d_laws_markValueS_0 c0 e0 n (Go.IntKind.i64.wrap (i5 + 1)))))
       else none)
  else none))
 (some (SV.leaf (Leaf.int Go.IntKind.i64 i1), [])) := by
  refine (nameF_eq (J := d_laws_markValueS_A D) (fun _ _ => rfl) [[1, 0, 1, 0]] (d_laws_markValueS_0 c0 e0 i1 i5)).trans ?_
  generalize d_laws_markValueS_A D = J
  revert J
  refine id ?_
  intro J
  kernel_rfl
theorem run_d_laws_markValueS (D : Oracle true) (c0 : Fl true) (e0 : List (List (Leaf true))) (i1 : Int) : run2V Go.Proofs.Try.prog D Go.Vs.Hs limR F.laws_markValueS [SV.leaf (Leaf.sl c0 e0), SV.leaf (Leaf.int Go.IntKind.i64 i1)] [] =
  d_laws_markValueS_A D (d_laws_markValueS_0 c0 e0 i1 0) := by
  refine (run_names (J := d_laws_markValueS_A D) (by kernel_rfl) (fun _ _ => rfl) [[1, 0, 1, 0]]).trans ?_
  generalize d_laws_markValueS_A D = J
  revert J
  refine id ?_
  intro J
  kernel_rfl
-- FN 40 d_laws_markStringS
noncomputable def d_laws_markStringS_A (D : Oracle true) (x : List Nat × St true) : Option (SV true × List (List (SV true))) := atF Go.Proofs.Try.prog D Go.Vs.Hs F.laws_markStringS x.1 0 x.2
def d_laws_markStringS_0 (c0 : Fl true) (e0 : List (List (Leaf true))) (i1 : Int) (i5 : Int) : List Nat × St true := ([1, 0, 1, 0], St.mk
 [SV.leaf (Leaf.sl c0 e0), SV.leaf (Leaf.int Go.IntKind.i64 i1), SV.any, SV.any, SV.any,
  SV.leaf (Leaf.int Go.IntKind.i64 i5), SV.any, SV.any, SV.any, SV.any, SV.any, SV.any, SV.any, SV.any, SV.any, SV.any,
  SV.any, SV.any, SV.any, SV.any]
 [none, none, none, none, none, none, none, none, none, none, none, none, none, none, none, none, none, none, none,
  none])
theorem d_laws_markStringS_0_eq (D : Oracle true) (c0 : Fl true) (e0 : List (List (Leaf true))) (i1 : Int) (i5 : Int) : d_laws_markStringS_A D (d_laws_markStringS_0 c0 e0 i1 i5) =
  branch (decide (i5 < (↑e0.length : Int)))
 ((D F.laws_markText [SV.leaf (Leaf.int Go.IntKind.i64 i1)] []).bind fun (r : SV true × List (List (SV true))) =>
  svLeafK r.fst fun (l : Leaf true) =>
   strK l fun (s : ByteArray) =>
    guarded (decide (0 ≤ i5) && decide (i5 < (↑e0.length : Int)) && sized 1 e0)
     (if
       (c0.isSoft = true ∧ softAt (e0.getD i5.toNat []) 0 = true) ∧
        ((St.mk
              [SV.leaf (Leaf.sl c0 e0), SV.leaf (Leaf.int Go.IntKind.i64 i1), SV.any, SV.any, SV.any,
               SV.leaf (Leaf.int Go.IntKind.i64 i5), SV.any, SV.any, SV.any, SV.any, SV.any, SV.any,
               SV.leaf (Leaf.sl c0 e0), SV.leaf (Leaf.int Go.IntKind.i64 i5), SV.leaf (Leaf.int Go.IntKind.i64 i1),
               SV.leaf (Leaf.str s), SV.eptr c0 (e0.getD i5.toNat []) 0, SV.any, SV.any, SV.any]
              [none, none, none, none, none, none, none, none, none, none, none, none, none, none, none, none, none,
               none, none, none]).eval
            (Go.Operand.tmp 15)).plain =
          true ∧
         sizeT Go.Proofs.Try.prog 9 = some 1 then
      d_laws_markStringS_A D (d_laws_markStringS_0 c0 e0 (Go.IntKind.i64.wrap (i1 + 1)) (Go.IntKind.i64.wrap (i5 + 1)))
     else none))
 (some (SV.leaf (Leaf.int Go.IntKind.i64 i1), [])) := by
  refine (nameF_eq (J := d_laws_markStringS_A D) (fun _ _ => rfl) [[1, 0, 1, 0]] (d_laws_markStringS_0 c0 e0 i1 i5)).trans ?_
  generalize d_laws_markStringS_A D = J
  revert J
  refine id ?_
  intro J
  kernel_rfl
theorem run_d_laws_markStringS (D : Oracle true) (c0 : Fl true) (e0 : List (List (Leaf true))) (i1 : Int) : run2V Go.Proofs.Try.prog D Go.Vs.Hs limR F.laws_markStringS [SV.leaf (Leaf.sl c0 e0), SV.leaf (Leaf.int Go.IntKind.i64 i1)] [] =
  d_laws_markStringS_A D (d_laws_markStringS_0 c0 e0 i1 0) := by
  refine (run_names (J := d_laws_markStringS_A D) (by kernel_rfl) (fun _ _ => rfl) [[1, 0, 1, 0]]).trans ?_
  generalize d_laws_markStringS_A D = J
  revert J
  refine id ?_
  intro J
  kernel_rfl
-- FN 41 d_laws_markDirS
noncomputable def d_laws_markDirS_A (D : Oracle true) (x : List Nat × St true) : Option (SV true × List (List (SV true))) := atF Go.Proofs.Try.prog D Go.Vs.Hs F.laws_markDirS x.1 0 x.2
def d_laws_markDirS_0 (c0 : Fl true) (e0 : List (List (Leaf true))) (i1 : Int) (i5 : Int) : List Nat × St true := ([1, 0, 1, 0], St.mk
 [SV.leaf (Leaf.sl c0 e0), SV.leaf (Leaf.int Go.IntKind.i64 i1), SV.any, SV.any, SV.any,
  SV.leaf (Leaf.int Go.IntKind.i64 i5), SV.any, SV.any, SV.any, SV.any, SV.any, SV.any, SV.any, SV.any, SV.any, SV.any,
  SV.any, SV.any, SV.any, SV.any, SV.any, SV.any, SV.any, SV.any, SV.any, SV.any, SV.any, SV.any]
 [none, none, none, none, none, none, none, none, none, none, none, none, none, none, none, none, none, none, none,
  none, none, none, none, none, none, none, none, none])
theorem d_laws_markDirS_0_eq (D : Oracle true) (c0 : Fl true) (e0 : List (List (Leaf true))) (i1 : Int) (i5 : Int) : d_laws_markDirS_A D (d_laws_markDirS_0 c0 e0 i1 i5) =
  branch (decide (i5 < (↑e0.length : Int)))
 ((D F.laws_markText [SV.leaf (Leaf.int Go.IntKind.i64 i1)] []).bind fun (r : SV true × List (List (SV true))) =>
  svLeafK r.fst fun (l : Leaf true) =>
   strK l fun (s : ByteArray) =>
    guarded (decide (0 ≤ i5) && decide (i5 < (↑e0.length : Int)) && sized 2 e0)
     (if
       (c0.isSoft = true ∧ softAt (e0.getD i5.toNat []) 0 = true) ∧
        ((St.mk
              [SV.leaf (Leaf.sl c0 e0), SV.leaf (Leaf.int Go.IntKind.i64 i1), SV.any, SV.any, SV.any,
               SV.leaf (Leaf.int Go.IntKind.i64 i5), SV.any, SV.any, SV.any, SV.any, SV.any, SV.any,
               SV.leaf (Leaf.sl c0 e0), SV.leaf (Leaf.int Go.IntKind.i64 i5), SV.leaf (Leaf.int Go.IntKind.i64 i1),
               SV.leaf (Leaf.str s), SV.eptr c0 (e0.getD i5.toNat []) 0, SV.eptr c0 (e0.getD i5.toNat []) 0, SV.any,
               SV.any, SV.any, SV.any, SV.any, SV.any, SV.any, SV.any, SV.any, SV.any]
              [none, none, none, none, none, none, none, none, none, none, none, none, none, none, none, none, none,
               none, none, none, none, none, none, none, none, none, none, none]).eval
            (Go.Operand.tmp 15)).plain =
          true ∧
         sizeT Go.Proofs.Try.prog 9 = some 1 then
      guarded (decide (0 ≤ i5) && decide (i5 < (↑e0.length : Int)) && sized 2 e0)
       (atK (e0.getD i5.toNat []) 1 fun (l : Leaf true) =>
        slK l fun (c : Fl true) (es : List (List (Leaf true))) =>
         (D F.laws_markArgS [SV.leaf (Leaf.sl c es), SV.leaf (Leaf.int Go.IntKind.i64 (Go.IntKind.i64.wrap (i1 + 1)))]
            []).bind
          fun (r : SV true × List (List (SV true))) =>
          svLeafK r.fst fun (l : Leaf true) =>
           intK Go.IntKind.i64 l fun (n : Int) =>
            d_laws_markDirS_A D (d_laws_markDirS_0 c0 e0 n (Go.IntKind.i64.wrap (i5 + 1))))
     else none))
 (some (SV.leaf (Leaf.int Go.IntKind.i64 i1), [])) := by
  refine (nameF_eq (J := d_laws_markDirS_A D) (fun _ _ => rfl) [[1, 0, 1, 0]] (d_laws_markDirS_0 c0 e0 i1 i5)).trans ?_
  generalize d_laws_markDirS_A D = J
  revert J
  refine id ?_
  intro J
  kernel_rfl
theorem run_d_laws_markDirS (D : Oracle true) (c0 : Fl true) (e0 : List (List (Leaf true))) (i1 : Int) : run2V Go.Proofs.Try.prog D Go.Vs.Hs limR F.laws_markDirS [SV.leaf (Leaf.sl c0 e0), SV.leaf (Leaf.int Go.IntKind.i64 i1)] [] =
  d_laws_markDirS_A D (d_laws_markDirS_0 c0 e0 i1 0) := by
  refine (run_names (J := d_laws_markDirS_A D) (by kernel_rfl) (fun _ _ => rfl) [[1, 0, 1, 0]]).trans ?_
  generalize d_laws_markDirS_A D = J
  revert J
  refine id ?_
  intro J
  kernel_rfl
-- FN 34 d_impl_changes_add
noncomputable def d_impl_changes_add_A (D : Oracle true) (x : List Nat × St true) : Option (SV true × List (List (SV true))) := atF Go.Proofs.Try.prog D Go.Vs.Hs F.impl_changes_add x.1 1 x.2
theorem run_d_impl_changes_add (D : Oracle true) (b1 : Bool) (i2 : Int) (s3 : ByteArray) (s4 : ByteArray) (eb0_0 : List (List (Leaf true))) : run2V Go.Proofs.Try.prog D Go.Vs.Hs limR F.impl_changes_add [SV.ptr 0 0, SV.leaf (Leaf.bool b1), SV.leaf (Leaf.int Go.IntKind.i64 i2), SV.leaf (Leaf.str s3), SV.leaf (Leaf.str s4)] [[SV.own (some T.impl_Change) eb0_0]] =
  branch b1
 (guarded (decide ((eb0_0.length + 1) * 40 ≤ maxBytes) && true)
  (some
   (SV.tup [], [[SV.own (some T.impl_Change) (eb0_0 ++ [[Leaf.int Go.IntKind.i64 i2, Leaf.str s3, Leaf.str s4]])]])))
 (some (SV.tup [], [[SV.own (some T.impl_Change) eb0_0]])) := by
  refine (run_names (J := d_impl_changes_add_A D) (by kernel_rfl) (fun _ _ => rfl) []).trans ?_
  generalize d_impl_changes_add_A D = J
  revert J
  refine id ?_
  intro J
  kernel_rfl
-- FN 48 d_laws_toType
noncomputable def d_laws_toType_A (D : Oracle true) (x : List Nat × St true) : Option (SV true × List (List (SV true))) := atF Go.Proofs.Try.prog D Go.Vs.Hs F.laws_toType x.1 0 x.2
theorem run_d_laws_toType (D : Oracle true) (s0_0 : ByteArray) (s0_1 : ByteArray) : run2V Go.Proofs.Try.prog D Go.Vs.Hs limR F.laws_toType [SV.agg [Leaf.str s0_0, Leaf.str s0_1]] [] =
  some (SV.agg [Leaf.str s0_0, Leaf.str s0_1], []) := by
  refine (run_names (J := d_laws_toType_A D) (by kernel_rfl) (fun _ _ => rfl) []).trans ?_
  generalize d_laws_toType_A D = J
  revert J
  refine id ?_
  intro J
  kernel_rfl
-- FN 49 d_laws_toValue
noncomputable def d_laws_toValue_A (D : Oracle true) (x : List Nat × St true) : Option (SV true × List (List (SV true))) := atF Go.Proofs.Try.prog D Go.Vs.Hs F.laws_toValue x.1 0 x.2
theorem run_d_laws_toValue (D : Oracle true) (i0_0 : Int) (s0_1 : ByteArray) (c0_2 : Fl true) (e0_2 : List (List (Leaf true))) (c0_3 : Fl true) (e0_3 : List (List (Leaf true))) : run2V Go.Proofs.Try.prog D Go.Vs.Hs limR F.laws_toValue [SV.agg [Leaf.int Go.IntKind.i64 i0_0, Leaf.str s0_1, Leaf.sl c0_2 e0_2, Leaf.sl c0_3 e0_3]] [] =
  (D F.laws_toValueS [SV.leaf (Leaf.sl c0_2 e0_2)] []).bind fun (r : SV true × List (List (SV true))) =>
 svSlK r.fst fun (c : Fl true) (es : List (List (Leaf true))) =>
  (D F.laws_toStringS [SV.leaf (Leaf.sl c0_3 e0_3)] []).bind fun (r : SV true × List (List (SV true))) =>
   svSlK r.fst fun (c_1 : Fl true) (es_1 : List (List (Leaf true))) =>
    some (SV.agg [Leaf.int Go.IntKind.i64 i0_0, Leaf.str s0_1, Leaf.sl c es, Leaf.sl c_1 es_1], []) := by
  refine (run_names (J := d_laws_toValue_A D) (by kernel_rfl) (fun _ _ => rfl) []).trans ?_
  generalize d_laws_toValue_A D = J
  revert J
  refine id ?_
  intro J
  kernel_rfl
-- FN 50 d_laws_toDirS
noncomputable def d_laws_toDirS_A (D : Oracle true) (x : List Nat × St true) : Option (SV true × List (List (SV true))) := atF Go.Proofs.Try.prog D Go.Vs.Hs F.laws_toDirS x.1 0 x.2
def d_laws_toDirS_0 (c0 : Fl true) (e0 : List (List (Leaf true))) (n3 : Nat) (i4 : Int) (vx7 : List (SV true)) : List Nat × St true := ([1, 1, 0, 1, 0], St.mk
 [SV.leaf (Leaf.sl c0 e0), SV.any, SV.any, SV.bsl 7 2 0 n3, SV.leaf (Leaf.int Go.IntKind.i64 i4), SV.any, SV.any,
  SV.any, SV.any, SV.any, SV.any, SV.any, SV.any, SV.any, SV.any, SV.any, SV.any, SV.any, SV.any, SV.any, SV.any,
  SV.any, SV.any]
 [none, none, none, none, none, none, none, some vx7, none, none, none, none, none, none, none, none, none, none, none,
  none, none, none, none])
theorem d_laws_toDirS_0_eq (D : Oracle true) (c0 : Fl true) (e0 : List (List (Leaf true))) (n3 : Nat) (i4 : Int) (vx7 : List (SV true)) : d_laws_toDirS_A D (d_laws_toDirS_0 c0 e0 n3 i4 vx7) =
  branch (decide (i4 < (↑e0.length : Int)))
 (guarded (decide (0 ≤ i4) && decide (i4 < (↑e0.length : Int)) && sized 2 e0)
  (bindE (e0.getD i4.toNat []) fun (e : List (Leaf true)) =>
   atK e 0 fun (l : Leaf true) =>
    strK l fun (s : ByteArray) =>
     atK e 1 fun (l : Leaf true) =>
      slK l fun (c : Fl true) (es : List (List (Leaf true))) =>
       (D F.laws_toDir [SV.agg [Leaf.str s, Leaf.sl c es]] []).bind fun (r : SV true × List (List (SV true))) =>
        svAggK r.fst fun (cs : List (Leaf true)) =>
         guarded (cs.length == 2)
          (atK cs 0 fun (l : Leaf true) =>
           strK l fun (s : ByteArray) =>
            atK cs 1 fun (l : Leaf true) =>
             slK l fun (c : Fl true) (es : List (List (Leaf true))) =>
              guarded (decide (0 ≤ i4) && decide (i4 < (↑n3 : Int)))
               (guarded (decide ((0 + i4.toNat) * 2 + 2 ≤ vx7.length))
                (d_laws_toDirS_A D
                 (d_laws_toDirS_0 c0 e0 n3 (Go.IntKind.i64.wrap (i4 + 1))
                  (putAt vx7 ((0 + i4.toNat) * 2) [SV.leaf (Leaf.str s), SV.leaf (Leaf.sl c es)])))))))
 ((if n3 * 2 ≤ vx7.length ∧ 0 < 2 then
    match asLeaves (List.take (n3 * 2) vx7) with
    | some x => some ((fun (l : List (Leaf true)) => SV.leaf (Leaf.sl (Fl.new true) (chunks 2 n3 l))) x)
    | none => none
   else none).bind
  fun (v : SV true) => guarded v.flatT (some (v, []))) := by
  refine (nameF_eq (J := d_laws_toDirS_A D) (fun _ _ => rfl) [[1, 1, 0, 1, 0]] (d_laws_toDirS_0 c0 e0 n3 i4 vx7)).trans ?_
  generalize d_laws_toDirS_A D = J
  revert J
  refine id ?_
  intro J
  kernel_rfl
theorem run_d_laws_toDirS (D : Oracle true) (c0 : Fl true) (e0 : List (List (Leaf true))) : run2V Go.Proofs.Try.prog D Go.Vs.Hs limR F.laws_toDirS [SV.leaf (Leaf.sl c0 e0)] [] =
  guarded
 ((↑e0.length : Int) == (↑e0.length : Int) && decide ((↑e0.length : Int).toNat * 40 ≤ maxBytes) &&
  decide ((↑e0.length : Int).toNat ≤ maxBytes))
 (d_laws_toDirS_A D
  (d_laws_toDirS_0 c0 e0
   (decide (0 ≤ (↑e0.length : Int)) && (↑e0.length : Int) == (↑e0.length : Int) &&
         decide ((↑e0.length : Int).toNat * Go.Proofs.Try.prog.types[98].bytes ≤ maxBytes) &&
        decide ((↑e0.length : Int).toNat ≤ maxBytes),
       (Go.Proofs.Try.prog.types[98].size, (↑e0.length : Int).toNat),
       List.map SV.leaf
        (List.replicate (↑e0.length : Int).toNat
          ((fun (x : List (Leaf true)) => Leaf.str (ByteArray.mk #[]) :: x)
           ((fun (x : List (Leaf true)) => Leaf.sl (Fl.new true) [] :: x) []))).flatten).snd.fst.snd
   0
   (decide (0 ≤ (↑e0.length : Int)) && (↑e0.length : Int) == (↑e0.length : Int) &&
        decide ((↑e0.length : Int).toNat * Go.Proofs.Try.prog.types[98].bytes ≤ maxBytes) &&
       decide ((↑e0.length : Int).toNat ≤ maxBytes),
      (Go.Proofs.Try.prog.types[98].size, (↑e0.length : Int).toNat),
      List.map SV.leaf
       (List.replicate (↑e0.length : Int).toNat
         ((fun (x : List (Leaf true)) => Leaf.str (ByteArray.mk #[]) :: x)
          ((fun (x : List (Leaf true)) => Leaf.sl (Fl.new true) [] :: x) []))).flatten).snd.snd)) := by
  refine (run_names (J := d_laws_toDirS_A D) (by kernel_rfl) (fun _ _ => rfl) [[1, 1, 0, 1, 0]]).trans ?_
  generalize d_laws_toDirS_A D = J
  revert J
  refine id ?_
  intro J
  kernel_rfl
-- FN 60 d_laws_markArgS
noncomputable def d_laws_markArgS_A (D : Oracle true) (x : List Nat × St true) : Option (SV true × List (List (SV true))) := atF Go.Proofs.Try.prog D Go.Vs.Hs F.laws_markArgS x.1 0 x.2
def d_laws_markArgS_0 (c0 : Fl true) (e0 : List (List (Leaf true))) (i1 : Int) (i5 : Int) : List Nat × St true := ([1, 0, 1, 0], St.mk
 [SV.leaf (Leaf.sl c0 e0), SV.leaf (Leaf.int Go.IntKind.i64 i1), SV.any, SV.any, SV.any,
  SV.leaf (Leaf.int Go.IntKind.i64 i5), SV.any, SV.any, SV.any, SV.any, SV.any, SV.any, SV.any, SV.any, SV.any, SV.any,
  SV.any, SV.any, SV.any, SV.any, SV.any, SV.any, SV.any, SV.any, SV.any, SV.any, SV.any, SV.any, SV.any, SV.any,
  SV.any, SV.any, SV.any, SV.any, SV.any, SV.any, SV.any, SV.any, SV.any, SV.any, SV.any, SV.any, SV.any, SV.any,
  SV.any, SV.any, SV.any, SV.any, SV.any, SV.any, SV.any, SV.any, SV.any, SV.any]
 [none, none, none, none, none, none, none, none, none, none, none, none, none, none, none, none, none, none, none,
  none, none, none, none, none, none, none, none, none, none, none, none, none, none, none, none, none, none, none,
  none, none, none, none, none, none, none, none, none, none, none, none, none, none, none, none])
theorem d_laws_markArgS_0_eq (D : Oracle true) (c0 : Fl true) (e0 : List (List (Leaf true))) (i1 : Int) (i5 : Int) : d_laws_markArgS_A D (d_laws_markArgS_0 c0 e0 i1 i5) =
  branch (decide (i5 < (↑e0.length : Int)))
 ((D F.laws_markText [SV.leaf (Leaf.int Go.IntKind.i64 i1)] []).bind fun (r : SV true × List (List (SV true))) =>
  svLeafK r.fst fun (l : Leaf true) =>
   strK l fun (s : ByteArray) =>
    guarded (decide (0 ≤ i5) && decide (i5 < (↑e0.length : Int)) && sized 5 e0)
     (if
       (c0.isSoft = true ∧ softAt (e0.getD i5.toNat []) 0 = true) ∧
        ((St.mk
              [SV.leaf (Leaf.sl c0 e0), SV.leaf (Leaf.int Go.IntKind.i64 i1), SV.any, SV.any, SV.any,
               SV.leaf (Leaf.int Go.IntKind.i64 i5), SV.any, SV.any, SV.any, SV.any, SV.any, SV.any,
               SV.leaf (Leaf.sl c0 e0), SV.leaf (Leaf.int Go.IntKind.i64 i5), SV.leaf (Leaf.int Go.IntKind.i64 i1),
               SV.leaf (Leaf.str s), SV.eptr c0 (e0.getD i5.toNat []) 0, SV.eptr c0 (e0.getD i5.toNat []) 0, SV.any,
               SV.any, SV.any, SV.any, SV.any, SV.any, SV.any, SV.any, SV.any, SV.any, SV.any, SV.any, SV.any, SV.any,
               SV.any, SV.any, SV.any, SV.any, SV.any, SV.any, SV.any, SV.any, SV.any, SV.any, SV.any, SV.any, SV.any,
               SV.any, SV.any, SV.any, SV.any, SV.any, SV.any, SV.any, SV.any, SV.any]
              [none, none, none, none, none, none, none, none, none, none, none, none, none, none, none, none, none,
               none, none, none, none, none, none, none, none, none, none, none, none, none, none, none, none, none,
               none, none, none, none, none, none, none, none, none, none, none, none, none, none, none, none, none,
               none, none, none]).eval
            (Go.Operand.tmp 15)).plain =
          true ∧
         sizeT Go.Proofs.Try.prog 9 = some 1 then
      guarded (decide (0 ≤ i5) && decide (i5 < (↑e0.length : Int)) && sized 5 e0)
       (if
         (c0.isSoft = true ∧ softAt (e0.getD i5.toNat []) 1 = true) ∧
          ((St.mk
                [SV.leaf (Leaf.sl c0 e0), SV.leaf (Leaf.int Go.IntKind.i64 (Go.IntKind.i64.wrap (i1 + 1))), SV.any,
                 SV.any, SV.any, SV.leaf (Leaf.int Go.IntKind.i64 i5), SV.any, SV.any, SV.any, SV.any, SV.any, SV.any,
                 SV.any, SV.any, SV.any, SV.any, SV.any, SV.any, SV.any, SV.any, SV.leaf (Leaf.sl c0 e0),
                 SV.leaf (Leaf.int Go.IntKind.i64 i5), SV.leaf (Leaf.int Go.IntKind.i64 (Go.IntKind.i64.wrap (i1 + 1))),
                 SV.eptr c0 (e0.getD i5.toNat []) 0, SV.eptr c0 (e0.getD i5.toNat []) 1,
                 SV.eptr c0 (e0.getD i5.toNat []) 1, SV.any, SV.any, SV.any, SV.any, SV.any, SV.any, SV.any, SV.any,
                 SV.any, SV.any, SV.any, SV.any, SV.any, SV.any, SV.any, SV.any, SV.any, SV.any, SV.any, SV.any, SV.any,
                 SV.any, SV.any, SV.any, SV.any, SV.any, SV.any, SV.any]
                [none, none, none, none, none, none, none, none, none, none, none, none, none, none, none, none, none,
                 none, none, none, none, none, none, none, none, none, none, none, none, none, none, none, none, none,
                 none, none, none, none, none, none, none, none, none, none, none, none, none, none, none, none, none,
                 none, none, none]).eval
              (Go.Operand.tmp 22)).plain =
            true ∧
           sizeT Go.Proofs.Try.prog 3 = some 1 then
        (D F.laws_markText [SV.leaf (Leaf.int Go.IntKind.i64 (Go.IntKind.i64.wrap (Go.IntKind.i64.wrap (i1 + 1) + 1)))]
           []).bind
         fun (r : SV true × List (List (SV true))) =>
         svLeafK r.fst fun (l : Leaf true) =>
          strK l fun (s : ByteArray) =>
           guarded (decide (0 ≤ i5) && decide (i5 < (↑e0.length : Int)) && sized 5 e0)
            (if
              (c0.isSoft = true ∧ softAt (e0.getD i5.toNat []) 2 = true) ∧
               ((St.mk
                     [SV.leaf (Leaf.sl c0 e0),
                      SV.leaf (Leaf.int Go.IntKind.i64 (Go.IntKind.i64.wrap (Go.IntKind.i64.wrap (i1 + 1) + 1))),
                      SV.any, SV.any, SV.any, SV.leaf (Leaf.int Go.IntKind.i64 i5), SV.any, SV.any, SV.any, SV.any,
                      SV.any, SV.any, SV.any, SV.any, SV.any, SV.any, SV.any, SV.any, SV.any, SV.any, SV.any, SV.any,
                      SV.any, SV.any, SV.any, SV.any, SV.any, SV.any, SV.leaf (Leaf.sl c0 e0),
                      SV.leaf (Leaf.int Go.IntKind.i64 i5),
                      SV.leaf (Leaf.int Go.IntKind.i64 (Go.IntKind.i64.wrap (Go.IntKind.i64.wrap (i1 + 1) + 1))),
                      SV.leaf (Leaf.str s), SV.eptr c0 (e0.getD i5.toNat []) 0, SV.eptr c0 (e0.getD i5.toNat []) 1,
                      SV.eptr c0 (e0.getD i5.toNat []) 2, SV.any, SV.any, SV.any, SV.any, SV.any, SV.any, SV.any,
                      SV.any, SV.any, SV.any, SV.any, SV.any, SV.any, SV.any, SV.any, SV.any, SV.any, SV.any, SV.any]
                     [none, none, none, none, none, none, none, none, none, none, none, none, none, none, none, none,
                      none, none, none, none, none, none, none, none, none, none, none, none, none, none, none, none,
                      none, none, none, none, none, none, none, none, none, none, none, none, none, none, none, none,
                      none, none, none, none, none, none]).eval
                   (Go.Operand.tmp 31)).plain =
                 true ∧
                sizeT Go.Proofs.Try.prog 9 = some 1 then
             guarded (decide (0 ≤ i5) && decide (i5 < (↑e0.length : Int)) && sized 5 e0)
              (atK (e0.getD i5.toNat []) 3 fun (l : Leaf true) =>
               slK l fun (c : Fl true) (es : List (List (Leaf true))) =>
                (D F.laws_markValueS
                   [SV.leaf (Leaf.sl c es),
                    SV.leaf
                     (Leaf.int Go.IntKind.i64
                      (Go.IntKind.i64.wrap (Go.IntKind.i64.wrap (Go.IntKind.i64.wrap (i1 + 1) + 1) + 1)))]
                   []).bind
                 fun (r : SV true × List (List (SV true))) =>
                 svLeafK r.fst fun (l : Leaf true) =>
                  intK Go.IntKind.i64 l fun (n : Int) =>
                   guarded (decide (0 ≤ i5) && decide (i5 < (↑e0.length : Int)) && sized 5 e0)
                    (atK (e0.getD i5.toNat []) 4 fun (l : Leaf true) =>
                     slK l fun (c : Fl true) (es : List (List (Leaf true))) =>
                      (D F.laws_markStringS [SV.leaf (Leaf.sl c es), SV.leaf (Leaf.int Go.IntKind.i64 n)] []).bind
                       fun (r : SV true × List (List (SV true))) =>
                       svLeafK r.fst fun (l : Leaf true) =>
                        intK Go.IntKind.i64 l fun (n : Int) =>
                         d_laws_markArgS_A D (d_laws_markArgS_0 c0 e0 n (Go.IntKind.i64.wrap (i5 + 1)))))
            else none)
       else none)
     else none))
 (some (SV.leaf (Leaf.int Go.IntKind.i64 i1), [])) := by
  refine (nameF_eq (J := d_laws_markArgS_A D) (fun _ _ => rfl) [[1, 0, 1, 0]] (d_laws_markArgS_0 c0 e0 i1 i5)).trans ?_
  generalize d_laws_markArgS_A D = J
  revert J
  refine id ?_
  intro J
  kernel_rfl
theorem run_d_laws_markArgS (D : Oracle true) (c0 : Fl true) (e0 : List (List (Leaf true))) (i1 : Int) : run2V Go.Proofs.Try.prog D Go.Vs.Hs limR F.laws_markArgS [SV.leaf (Leaf.sl c0 e0), SV.leaf (Leaf.int Go.IntKind.i64 i1)] [] =
  d_laws_markArgS_A D (d_laws_markArgS_0 c0 e0 i1 0) := by
  refine (run_names (J := d_laws_markArgS_A D) (by kernel_rfl) (fun _ _ => rfl) [[1, 0, 1, 0]]).trans ?_
  generalize d_laws_markArgS_A D = J
  revert J
  refine id ?_
  intro J
  kernel_rfl
-- FN 64 d_laws_toValueS
noncomputable def d_laws_toValueS_A (D : Oracle true) (x : List Nat × St true) : Option (SV true × List (List (SV true))) := atF Go.Proofs.Try.prog D Go.Vs.Hs F.laws_toValueS x.1 0 x.2
def d_laws_toValueS_0 (c0 : Fl true) (e0 : List (List (Leaf true))) (n3 : Nat) (i4 : Int) (vx7 : List (SV true)) : List Nat × St true := ([1, 1, 0, 1, 0], St.mk
 [SV.leaf (Leaf.sl c0 e0), SV.any, SV.any, SV.bsl 7 4 0 n3, SV.leaf (Leaf.int Go.IntKind.i64 i4), SV.any, SV.any,
  SV.any, SV.any, SV.any, SV.any, SV.any, SV.any, SV.any, SV.any, SV.any, SV.any, SV.any, SV.any, SV.any, SV.any,
  SV.any, SV.any]
 [none, none, none, none, none, none, none, some vx7, none, none, none, none, none, none, none, none, none, none, none,
  none, none, none, none])
theorem d_laws_toValueS_0_eq (D : Oracle true) (c0 : Fl true) (e0 : List (List (Leaf true))) (n3 : Nat) (i4 : Int) (vx7 : List (SV true)) : d_laws_toValueS_A D (d_laws_toValueS_0 c0 e0 n3 i4 vx7) =
  branch (decide (i4 < (↑e0.length : Int)))
 (guarded (decide (0 ≤ i4) && decide (i4 < (↑e0.length : Int)) && sized 4 e0)
  (bindE (e0.getD i4.toNat []) fun (e : List (Leaf true)) =>
   atK e 0 fun (l : Leaf true) =>
    intK Go.IntKind.i64 l fun (n : Int) =>
     atK e 1 fun (l : Leaf true) =>
      strK l fun (s : ByteArray) =>
       atK e 2 fun (l : Leaf true) =>
        slK l fun (c : Fl true) (es : List (List (Leaf true))) =>
         atK e 3 fun (l : Leaf true) =>
          slK l fun (c_1 : Fl true) (es_1 : List (List (Leaf true))) =>
           (D F.laws_toValue [SV.agg [Leaf.int Go.IntKind.i64 n, Leaf.str s, Leaf.sl c es, Leaf.sl c_1 es_1]] []).bind
            fun (r : SV true × List (List (SV true))) =>
            svAggK r.fst fun (cs : List (Leaf true)) =>
             guarded (cs.length == 4)
              (atK cs 0 fun (l : Leaf true) =>
               intK Go.IntKind.i64 l fun (n : Int) =>
                atK cs 1 fun (l : Leaf true) =>
                 strK l fun (s : ByteArray) =>
                  atK cs 2 fun (l : Leaf true) =>
                   slK l fun (c : Fl true) (es : List (List (Leaf true))) =>
                    atK cs 3 fun (l : Leaf true) =>
                     slK l fun (c_2 : Fl true) (es_2 : List (List (Leaf true))) =>
                      guarded (decide (0 ≤ i4) && decide (i4 < (↑n3 : Int)))
                       (guarded (decide ((0 + i4.toNat) * 4 + 4 ≤ vx7.length))
                        (d_laws_toValueS_A D
                         (d_laws_toValueS_0 c0 e0 n3 (Go.IntKind.i64.wrap (i4 + 1))
                          (putAt vx7 ((0 + i4.toNat) * 4)
                           [SV.leaf (Leaf.int Go.IntKind.i64 n), SV.leaf (Leaf.str s), SV.leaf (Leaf.sl c es),
                            SV.leaf (Leaf.sl c_2 es_2)])))))))
 ((if n3 * 4 ≤ vx7.length ∧ 0 < 4 then
    match asLeaves (List.take (n3 * 4) vx7) with
    | some x => some ((fun (l : List (Leaf true)) => SV.leaf (Leaf.sl (Fl.new true) (chunks 4 n3 l))) x)
    | none => none
   else none).bind
  fun (v : SV true) => guarded v.flatT (some (v, []))) := by
  refine (nameF_eq (J := d_laws_toValueS_A D) (fun _ _ => rfl) [[1, 1, 0, 1, 0]] (d_laws_toValueS_0 c0 e0 n3 i4 vx7)).trans ?_
  generalize d_laws_toValueS_A D = J
  revert J
  refine id ?_
  intro J
  kernel_rfl
theorem run_d_laws_toValueS (D : Oracle true) (c0 : Fl true) (e0 : List (List (Leaf true))) : run2V Go.Proofs.Try.prog D Go.Vs.Hs limR F.laws_toValueS [SV.leaf (Leaf.sl c0 e0)] [] =
  guarded
 ((↑e0.length : Int) == (↑e0.length : Int) && decide ((↑e0.length : Int).toNat * 72 ≤ maxBytes) &&
  decide ((↑e0.length : Int).toNat ≤ maxBytes))
 (d_laws_toValueS_A D
  (d_laws_toValueS_0 c0 e0
   (decide (0 ≤ (↑e0.length : Int)) && (↑e0.length : Int) == (↑e0.length : Int) &&
         decide ((↑e0.length : Int).toNat * Go.Proofs.Try.prog.types[62].bytes ≤ maxBytes) &&
        decide ((↑e0.length : Int).toNat ≤ maxBytes),
       (Go.Proofs.Try.prog.types[62].size, (↑e0.length : Int).toNat),
       List.map SV.leaf
        (List.replicate (↑e0.length : Int).toNat
          ((fun (x : List (Leaf true)) => Leaf.int Go.IntKind.i64 0 :: x)
           ((fun (x : List (Leaf true)) => Leaf.str (ByteArray.mk #[]) :: x)
            ((fun (x : List (Leaf true)) => Leaf.sl (Fl.new true) [] :: x)
             ((fun (x : List (Leaf true)) => Leaf.sl (Fl.new true) [] :: x) []))))).flatten).snd.fst.snd
   0
   (decide (0 ≤ (↑e0.length : Int)) && (↑e0.length : Int) == (↑e0.length : Int) &&
        decide ((↑e0.length : Int).toNat * Go.Proofs.Try.prog.types[62].bytes ≤ maxBytes) &&
       decide ((↑e0.length : Int).toNat ≤ maxBytes),
      (Go.Proofs.Try.prog.types[62].size, (↑e0.length : Int).toNat),
      List.map SV.leaf
       (List.replicate (↑e0.length : Int).toNat
         ((fun (x : List (Leaf true)) => Leaf.int Go.IntKind.i64 0 :: x)
          ((fun (x : List (Leaf true)) => Leaf.str (ByteArray.mk #[]) :: x)
           ((fun (x : List (Leaf true)) => Leaf.sl (Fl.new true) [] :: x)
            ((fun (x : List (Leaf true)) => Leaf.sl (Fl.new true) [] :: x) []))))).flatten).snd.snd)) := by
  refine (run_names (J := d_laws_toValueS_A D) (by kernel_rfl) (fun _ _ => rfl) [[1, 1, 0, 1, 0]]).trans ?_
  generalize d_laws_toValueS_A D = J
  revert J
  refine id ?_
  intro J
  kernel_rfl
-- FN 65 d_laws_toStringS
noncomputable def d_laws_toStringS_A (D : Oracle true) (x : List Nat × St true) : Option (SV true × List (List (SV true))) := atF Go.Proofs.Try.prog D Go.Vs.Hs F.laws_toStringS x.1 0 x.2
def d_laws_toStringS_0 (c0 : Fl true) (e0 : List (List (Leaf true))) (n3 : Nat) (i4 : Int) (vx7 : List (SV true)) : List Nat × St true := ([1, 1, 0, 1, 0], St.mk
 [SV.leaf (Leaf.sl c0 e0), SV.any, SV.any, SV.bsl 7 1 0 n3, SV.leaf (Leaf.int Go.IntKind.i64 i4), SV.any, SV.any,
  SV.any, SV.any, SV.any, SV.any, SV.any, SV.any, SV.any, SV.any, SV.any, SV.any, SV.any, SV.any, SV.any, SV.any,
  SV.any]
 [none, none, none, none, none, none, none, some vx7, none, none, none, none, none, none, none, none, none, none, none,
  none, none, none])
theorem d_laws_toStringS_0_eq (D : Oracle true) (c0 : Fl true) (e0 : List (List (Leaf true))) (n3 : Nat) (i4 : Int) (vx7 : List (SV true)) : d_laws_toStringS_A D (d_laws_toStringS_0 c0 e0 n3 i4 vx7) =
  branch (decide (i4 < (↑e0.length : Int)))
 (guarded (decide (0 ≤ i4) && decide (i4 < (↑e0.length : Int)) && sized 1 e0)
  (atK (e0.getD i4.toNat []) 0 fun (l : Leaf true) =>
   strK l fun (s : ByteArray) =>
    guarded (decide (0 ≤ i4) && decide (i4 < (↑n3 : Int)))
     (guarded (decide ((0 + i4.toNat) * 1 + 1 ≤ vx7.length))
      (d_laws_toStringS_A D
       (d_laws_toStringS_0 c0 e0 n3 (Go.IntKind.i64.wrap (i4 + 1))
        (putAt vx7 ((0 + i4.toNat) * 1) [SV.leaf (Leaf.str s)]))))))
 ((if n3 * 1 ≤ vx7.length ∧ 0 < 1 then
    match asLeaves (List.take (n3 * 1) vx7) with
    | some x => some ((fun (l : List (Leaf true)) => SV.leaf (Leaf.sl (Fl.new true) (chunks 1 n3 l))) x)
    | none => none
   else none).bind
  fun (v : SV true) => guarded v.flatT (some (v, []))) := by
  refine (nameF_eq (J := d_laws_toStringS_A D) (fun _ _ => rfl) [[1, 1, 0, 1, 0]] (d_laws_toStringS_0 c0 e0 n3 i4 vx7)).trans ?_
  generalize d_laws_toStringS_A D = J
  revert J
  refine id ?_
  intro J
  kernel_rfl
theorem run_d_laws_toStringS (D : Oracle true) (c0 : Fl true) (e0 : List (List (Leaf true))) : run2V Go.Proofs.Try.prog D Go.Vs.Hs limR F.laws_toStringS [SV.leaf (Leaf.sl c0 e0)] [] =
  guarded
 ((↑e0.length : Int) == (↑e0.length : Int) && decide ((↑e0.length : Int).toNat * 16 ≤ maxBytes) &&
  decide ((↑e0.length : Int).toNat ≤ maxBytes))
 (d_laws_toStringS_A D
  (d_laws_toStringS_0 c0 e0
   (decide (0 ≤ (↑e0.length : Int)) && (↑e0.length : Int) == (↑e0.length : Int) &&
         decide ((↑e0.length : Int).toNat * Go.Proofs.Try.prog.types[9].bytes ≤ maxBytes) &&
        decide ((↑e0.length : Int).toNat ≤ maxBytes),
       (Go.Proofs.Try.prog.types[9].size, (↑e0.length : Int).toNat),
       List.map SV.leaf
        (List.replicate (↑e0.length : Int).toNat
          ((fun (x : List (Leaf true)) => Leaf.str (ByteArray.mk #[]) :: x) [])).flatten).snd.fst.snd
   0
   (decide (0 ≤ (↑e0.length : Int)) && (↑e0.length : Int) == (↑e0.length : Int) &&
        decide ((↑e0.length : Int).toNat * Go.Proofs.Try.prog.types[9].bytes ≤ maxBytes) &&
       decide ((↑e0.length : Int).toNat ≤ maxBytes),
      (Go.Proofs.Try.prog.types[9].size, (↑e0.length : Int).toNat),
      List.map SV.leaf
       (List.replicate (↑e0.length : Int).toNat
         ((fun (x : List (Leaf true)) => Leaf.str (ByteArray.mk #[]) :: x) [])).flatten).snd.snd)) := by
  refine (run_names (J := d_laws_toStringS_A D) (by kernel_rfl) (fun _ _ => rfl) [[1, 1, 0, 1, 0]]).trans ?_
  generalize d_laws_toStringS_A D = J
  revert J
  refine id ?_
  intro J
  kernel_rfl
-- FN 66 d_laws_toDir
noncomputable def d_laws_toDir_A (D : Oracle true) (x : List Nat × St true) : Option (SV true × List (List (SV true))) := atF Go.Proofs.Try.prog D Go.Vs.Hs F.laws_toDir x.1 0 x.2
theorem run_d_laws_toDir (D : Oracle true) (s0_0 : ByteArray) (c0_1 : Fl true) (e0_1 : List (List (Leaf true))) : run2V Go.Proofs.Try.prog D Go.Vs.Hs limR F.laws_toDir [SV.agg [Leaf.str s0_0, Leaf.sl c0_1 e0_1]] [] =
  (D F.laws_toArgS [SV.leaf (Leaf.sl c0_1 e0_1)] []).bind fun (r : SV true × List (List (SV true))) =>
 svSlK r.fst fun (c : Fl true) (es : List (List (Leaf true))) => some (SV.agg [Leaf.str s0_0, Leaf.sl c es], []) := by
  refine (run_names (J := d_laws_toDir_A D) (by kernel_rfl) (fun _ _ => rfl) []).trans ?_
  generalize d_laws_toDir_A D = J
  revert J
  refine id ?_
  intro J
  kernel_rfl
-- FN 73 d_laws_toArgS
noncomputable def d_laws_toArgS_A (D : Oracle true) (x : List Nat × St true) : Option (SV true × List (List (SV true))) := atF Go.Proofs.Try.prog D Go.Vs.Hs F.laws_toArgS x.1 0 x.2
def d_laws_toArgS_0 (c0 : Fl true) (e0 : List (List (Leaf true))) (n3 : Nat) (i4 : Int) (vx7 : List (SV true)) : List Nat × St true := ([1, 1, 0, 1, 0], St.mk
 [SV.leaf (Leaf.sl c0 e0), SV.any, SV.any, SV.bsl 7 5 0 n3, SV.leaf (Leaf.int Go.IntKind.i64 i4), SV.any, SV.any,
  SV.any, SV.any, SV.any, SV.any, SV.any, SV.any, SV.any, SV.any, SV.any, SV.any, SV.any, SV.any, SV.any, SV.any,
  SV.any, SV.any]
 [none, none, none, none, none, none, none, some vx7, none, none, none, none, none, none, none, none, none, none, none,
  none, none, none, none])
theorem d_laws_toArgS_0_eq (D : Oracle true) (c0 : Fl true) (e0 : List (List (Leaf true))) (n3 : Nat) (i4 : Int) (vx7 : List (SV true)) : d_laws_toArgS_A D (d_laws_toArgS_0 c0 e0 n3 i4 vx7) =
  branch (decide (i4 < (↑e0.length : Int)))
 (guarded (decide (0 ≤ i4) && decide (i4 < (↑e0.length : Int)) && sized 5 e0)
  (bindE (e0.getD i4.toNat []) fun (e : List (Leaf true)) =>
   atK e 0 fun (l : Leaf true) =>
    strK l fun (s : ByteArray) =>
     atK e 1 fun (l : Leaf true) =>
      intK Go.IntKind.i64 l fun (n : Int) =>
       atK e 2 fun (l : Leaf true) =>
        strK l fun (s_1 : ByteArray) =>
         atK e 3 fun (l : Leaf true) =>
          slK l fun (c : Fl true) (es : List (List (Leaf true))) =>
           atK e 4 fun (l : Leaf true) =>
            slK l fun (c_1 : Fl true) (es_1 : List (List (Leaf true))) =>
             (D F.laws_toArg
                [SV.agg [Leaf.str s, Leaf.int Go.IntKind.i64 n, Leaf.str s_1, Leaf.sl c es, Leaf.sl c_1 es_1]] []).bind
              fun (r : SV true × List (List (SV true))) =>
              svAggK r.fst fun (cs : List (Leaf true)) =>
               guarded (cs.length == 5)
                (atK cs 0 fun (l : Leaf true) =>
                 strK l fun (s : ByteArray) =>
                  atK cs 1 fun (l : Leaf true) =>
                   intK Go.IntKind.i64 l fun (n : Int) =>
                    atK cs 2 fun (l : Leaf true) =>
                     strK l fun (s_2 : ByteArray) =>
                      atK cs 3 fun (l : Leaf true) =>
                       slK l fun (c : Fl true) (es : List (List (Leaf true))) =>
                        atK cs 4 fun (l : Leaf true) =>
                         slK l fun (c_2 : Fl true) (es_2 : List (List (Leaf true))) =>
                          guarded (decide (0 ≤ i4) && decide (i4 < (↑n3 : Int)))
                           (guarded (decide ((0 + i4.toNat) * 5 + 5 ≤ vx7.length))
                            (d_laws_toArgS_A D
                             (d_laws_toArgS_0 c0 e0 n3 (Go.IntKind.i64.wrap (i4 + 1))
                              (putAt vx7 ((0 + i4.toNat) * 5)
                               [SV.leaf (Leaf.str s), SV.leaf (Leaf.int Go.IntKind.i64 n), SV.leaf (Leaf.str s_2),
                                SV.leaf (Leaf.sl c es), SV.leaf (Leaf.sl c_2 es_2)])))))))
 ((if n3 * 5 ≤ vx7.length ∧ 0 < 5 then
    match asLeaves (List.take (n3 * 5) vx7) with
    | some x => some ((fun (l : List (Leaf true)) => SV.leaf (Leaf.sl (Fl.new true) (chunks 5 n3 l))) x)
    | none => none
   else none).bind
  fun (v : SV true) => guarded v.flatT (some (v, []))) := by
  refine (nameF_eq (J := d_laws_toArgS_A D) (fun _ _ => rfl) [[1, 1, 0, 1, 0]] (d_laws_toArgS_0 c0 e0 n3 i4 vx7)).trans ?_
  generalize d_laws_toArgS_A D = J
  revert J
  refine id ?_
  intro J
  kernel_rfl
theorem run_d_laws_toArgS (D : Oracle true) (c0 : Fl true) (e0 : List (List (Leaf true))) : run2V Go.Proofs.Try.prog D Go.Vs.Hs limR F.laws_toArgS [SV.leaf (Leaf.sl c0 e0)] [] =
  guarded
 ((↑e0.length : Int) == (↑e0.length : Int) && decide ((↑e0.length : Int).toNat * 88 ≤ maxBytes) &&
  decide ((↑e0.length : Int).toNat ≤ maxBytes))
 (d_laws_toArgS_A D
  (d_laws_toArgS_0 c0 e0
   (decide (0 ≤ (↑e0.length : Int)) && (↑e0.length : Int) == (↑e0.length : Int) &&
         decide ((↑e0.length : Int).toNat * Go.Proofs.Try.prog.types[113].bytes ≤ maxBytes) &&
        decide ((↑e0.length : Int).toNat ≤ maxBytes),
       (Go.Proofs.Try.prog.types[113].size, (↑e0.length : Int).toNat),
       List.map SV.leaf
        (List.replicate (↑e0.length : Int).toNat
          ((fun (x : List (Leaf true)) => Leaf.str (ByteArray.mk #[]) :: x)
           ((fun (x : List (Leaf true)) => Leaf.int Go.IntKind.i64 0 :: x)
            ((fun (x : List (Leaf true)) => Leaf.str (ByteArray.mk #[]) :: x)
             ((fun (x : List (Leaf true)) => Leaf.sl (Fl.new true) [] :: x)
              ((fun (x : List (Leaf true)) => Leaf.sl (Fl.new true) [] :: x) [])))))).flatten).snd.fst.snd
   0
   (decide (0 ≤ (↑e0.length : Int)) && (↑e0.length : Int) == (↑e0.length : Int) &&
        decide ((↑e0.length : Int).toNat * Go.Proofs.Try.prog.types[113].bytes ≤ maxBytes) &&
       decide ((↑e0.length : Int).toNat ≤ maxBytes),
      (Go.Proofs.Try.prog.types[113].size, (↑e0.length : Int).toNat),
      List.map SV.leaf
       (List.replicate (↑e0.length : Int).toNat
         ((fun (x : List (Leaf true)) => Leaf.str (ByteArray.mk #[]) :: x)
          ((fun (x : List (Leaf true)) => Leaf.int Go.IntKind.i64 0 :: x)
           ((fun (x : List (Leaf true)) => Leaf.str (ByteArray.mk #[]) :: x)
            ((fun (x : List (Leaf true)) => Leaf.sl (Fl.new true) [] :: x)
             ((fun (x : List (Leaf true)) => Leaf.sl (Fl.new true) [] :: x) [])))))).flatten).snd.snd)) := by
  refine (run_names (J := d_laws_toArgS_A D) (by kernel_rfl) (fun _ _ => rfl) [[1, 1, 0, 1, 0]]).trans ?_
  generalize d_laws_toArgS_A D = J
  revert J
  refine id ?_
  intro J
  kernel_rfl
-- FN 77 d_laws_toArg
noncomputable def d_laws_toArg_A (D : Oracle true) (x : List Nat × St true) : Option (SV true × List (List (SV true))) := atF Go.Proofs.Try.prog D Go.Vs.Hs F.laws_toArg x.1 0 x.2
theorem run_d_laws_toArg (D : Oracle true) (s0_0 : ByteArray) (i0_1 : Int) (s0_2 : ByteArray) (c0_3 : Fl true) (e0_3 : List (List (Leaf true))) (c0_4 : Fl true) (e0_4 : List (List (Leaf true))) : run2V Go.Proofs.Try.prog D Go.Vs.Hs limR F.laws_toArg [SV.agg [Leaf.str s0_0, Leaf.int Go.IntKind.i64 i0_1, Leaf.str s0_2, Leaf.sl c0_3 e0_3, Leaf.sl c0_4 e0_4]] [] =
  (D F.laws_toValue [SV.agg [Leaf.int Go.IntKind.i64 i0_1, Leaf.str s0_2, Leaf.sl c0_3 e0_3, Leaf.sl c0_4 e0_4]] []).bind
 fun (r : SV true × List (List (SV true))) =>
 svAggK r.fst fun (cs : List (Leaf true)) =>
  guarded (cs.length == 4)
   (atK cs 0 fun (l : Leaf true) =>
    intK Go.IntKind.i64 l fun (n : Int) =>
     atK cs 1 fun (l : Leaf true) =>
      strK l fun (s : ByteArray) =>
       atK cs 2 fun (l : Leaf true) =>
        slK l fun (c : Fl true) (es : List (List (Leaf true))) =>
         atK cs 3 fun (l : Leaf true) =>
          slK l fun (c_1 : Fl true) (es_1 : List (List (Leaf true))) =>
           some (SV.agg [Leaf.str s0_0, Leaf.int Go.IntKind.i64 n, Leaf.str s, Leaf.sl c es, Leaf.sl c_1 es_1], [])) := by
  refine (run_names (J := d_laws_toArg_A D) (by kernel_rfl) (fun _ _ => rfl) []).trans ?_
  generalize d_laws_toArg_A D = J
  revert J
  refine id ?_
  intro J
  kernel_rfl
end Go.Vs
end
