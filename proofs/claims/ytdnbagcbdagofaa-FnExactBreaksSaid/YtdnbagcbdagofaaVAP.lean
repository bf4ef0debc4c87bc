/- AP: what the program's functions compute, read off their text by the shadow runner; no condition. -/
import Derived.Test.YtdnbagcbdagofaaVAHs
open Go Go.Vs Go.Proofs
set_option maxRecDepth 100000
set_option linter.unusedVariables false
namespace Go.Vs
-- FN 16 laws_szChangeS
noncomputable def laws_szChangeS_A (D : Oracle false) (x : List Nat × St false) : Option (SV false × List (List (SV false))) := atF Go.Proofs.Try.prog D Go.Vs.Hs F.laws_szChangeS x.1 0 x.2
def laws_szChangeS_0 (e0 : List (List (Leaf false))) (i1 : Int) (i5 : Int) : List Nat × St false := ([1, 1, 1, 0, 1, 0], St.mk
 [SV.leaf (Leaf.sl fP e0), SV.leaf (Leaf.int Go.IntKind.i64 i1), SV.any, SV.any, SV.any,
  SV.leaf (Leaf.int Go.IntKind.i64 i5), SV.any, SV.any, SV.any, SV.any, SV.any, SV.any, SV.any, SV.any, SV.any, SV.any,
  SV.any, SV.any, SV.any, SV.any, SV.any, SV.any, SV.any, SV.any, SV.any, SV.any, SV.any]
 [none, none, none, none, none, none, none, none, none, none, none, none, none, none, none, none, none, none, none,
  none, none, none, none, none, none, none, none])
theorem laws_szChangeS_0_eq (D : Oracle false) (e0 : List (List (Leaf false))) (i1 : Int) (i5 : Int) : laws_szChangeS_A D (laws_szChangeS_0 e0 i1 i5) =
  branch (decide (i5 < (↑e0.length : Int)))
 (guarded (decide (0 ≤ i5) && decide (i5 < (↑e0.length : Int)) && sized 3 e0)
  (bindE (e0.getD i5.toNat []) fun (e : List (Leaf false)) =>
   atK e 0 fun (l : Leaf false) =>
    intK Go.IntKind.i64 l fun (n : Int) =>
     atK e 1 fun (l : Leaf false) =>
      strK l fun (s : ByteArray) =>
       atK e 2 fun (l : Leaf false) =>
        strK l fun (s_1 : ByteArray) =>
         (D F.laws_szChange
            [SV.agg [Leaf.int Go.IntKind.i64 n, Leaf.str s, Leaf.str s_1], SV.leaf (Leaf.int Go.IntKind.i64 i1)]
            []).bind
          fun (r : SV false × List (List (SV false))) =>
          svLeafK r.fst fun (l : Leaf false) =>
           intK Go.IntKind.i64 l fun (n : Int) =>
            branch (decide (n < 0)) (some (SV.leaf (Leaf.int Go.IntKind.i64 (-1)), []))
             (laws_szChangeS_A D (laws_szChangeS_0 e0 n (Go.IntKind.i64.wrap (i5 + 1))))))
 (some (SV.leaf (Leaf.int Go.IntKind.i64 i1), [])) := by
  refine (nameF_eq (J := laws_szChangeS_A D) (fun _ _ => rfl) [[1, 1, 1, 0, 1, 0]] (laws_szChangeS_0 e0 i1 i5)).trans ?_
  generalize laws_szChangeS_A D = J
  revert J
  refine id ?_
  intro J
  kernel_rfl
theorem run_laws_szChangeS (D : Oracle false) (e0 : List (List (Leaf false))) (i1 : Int) : run2V Go.Proofs.Try.prog D Go.Vs.Hs limR F.laws_szChangeS [SV.leaf (Leaf.sl fP e0), SV.leaf (Leaf.int Go.IntKind.i64 i1)] [] =
  branch (decide (Go.IntKind.i64.wrap (i1 - (↑e0.length : Int)) < 0)) (some (SV.leaf (Leaf.int Go.IntKind.i64 (-1)), []))
 (laws_szChangeS_A D (laws_szChangeS_0 e0 (Go.IntKind.i64.wrap (i1 - (↑e0.length : Int))) 0)) := by
  refine (run_names (J := laws_szChangeS_A D) (by kernel_rfl) (fun _ _ => rfl) [[1, 1, 1, 0, 1, 0]]).trans ?_
  generalize laws_szChangeS_A D = J
  revert J
  refine id ?_
  intro J
  kernel_rfl
-- FN 17 spec_Breaks
noncomputable def spec_Breaks_A (D : Oracle false) (x : List Nat × St false) : Option (SV false × List (List (SV false))) := atF Go.Proofs.Try.prog D Go.Vs.Hs F.spec_Breaks x.1 0 x.2
def spec_Breaks_0 (e0 : List (List (Leaf false))) (i3 : Int) : List Nat × St false := ([1, 0, 1, 0], St.mk
 [SV.leaf (Leaf.sl fP e0), SV.any, SV.any, SV.leaf (Leaf.int Go.IntKind.i64 i3), SV.any, SV.any, SV.any, SV.any, SV.any,
  SV.any, SV.any, SV.any, SV.any, SV.any, SV.any, SV.any, SV.any]
 [none, none, none, none, none, none, none, none, none, none, none, none, none, none, none, none, none])
theorem spec_Breaks_0_eq (D : Oracle false) (e0 : List (List (Leaf false))) (i3 : Int) : spec_Breaks_A D (spec_Breaks_0 e0 i3) =
  branch (decide (i3 < (↑e0.length : Int)))
 (guarded (decide (0 ≤ i3) && decide (i3 < (↑e0.length : Int)) && sized 3 e0)
  (atK (e0.getD i3.toNat []) 0 fun (l : Leaf false) =>
   intK Go.IntKind.i64 l fun (n : Int) =>
    (D F.spec_ClassOf [SV.leaf (Leaf.int Go.IntKind.i64 n)] []).bind fun (r : SV false × List (List (SV false))) =>
     svLeafK r.fst fun (l : Leaf false) =>
      intK Go.IntKind.i64 l fun (n : Int) =>
       branch (n == 1) (some (SV.leaf (Leaf.bool true), []))
        (spec_Breaks_A D (spec_Breaks_0 e0 (Go.IntKind.i64.wrap (i3 + 1))))))
 (some (SV.leaf (Leaf.bool false), [])) := by
  refine (nameF_eq (J := spec_Breaks_A D) (fun _ _ => rfl) [[1, 0, 1, 0]] (spec_Breaks_0 e0 i3)).trans ?_
  generalize spec_Breaks_A D = J
  revert J
  refine id ?_
  intro J
  kernel_rfl
theorem run_spec_Breaks (D : Oracle false) (e0 : List (List (Leaf false))) : run2V Go.Proofs.Try.prog D Go.Vs.Hs limR F.spec_Breaks [SV.leaf (Leaf.sl fP e0)] [] =
  spec_Breaks_A D (spec_Breaks_0 e0 0) := by
  refine (run_names (J := spec_Breaks_A D) (by kernel_rfl) (fun _ _ => rfl) [[1, 0, 1, 0]]).trans ?_
  generalize spec_Breaks_A D = J
  revert J
  refine id ?_
  intro J
  kernel_rfl
-- FN 19 impl_Breaks
noncomputable def impl_Breaks_A (D : Oracle false) (x : List Nat × St false) : Option (SV false × List (List (SV false))) := atF Go.Proofs.Try.prog D Go.Vs.Hs F.impl_Breaks x.1 0 x.2
theorem run_impl_Breaks (D : Oracle false) (e0 : List (List (Leaf false))) : run2V Go.Proofs.Try.prog D Go.Vs.Hs limR F.impl_Breaks [SV.leaf (Leaf.sl fP e0)] [] =
  (D F.slices_ContainsFunc_S_impl_Change_impl_Change [SV.leaf (Leaf.sl fP e0), SV.fn F.impl_Breaks_1 []] []).bind
 fun (r : SV false × List (List (SV false))) =>
 lastB r.snd (svLeafK r.fst fun (l : Leaf false) => boolK l fun (b : Bool) => some (SV.leaf (Leaf.bool b), [])) := by
  refine (run_names (J := impl_Breaks_A D) (by kernel_rfl) (fun _ _ => rfl) []).trans ?_
  generalize impl_Breaks_A D = J
  revert J
  refine id ?_
  intro J
  kernel_rfl
-- FN 20 laws_eqChangeS
noncomputable def laws_eqChangeS_A (D : Oracle false) (x : List Nat × St false) : Option (SV false × List (List (SV false))) := atF Go.Proofs.Try.prog D Go.Vs.Hs F.laws_eqChangeS x.1 0 x.2
def laws_eqChangeS_0 (e0 : List (List (Leaf false))) (e1 : List (List (Leaf false))) (i5 : Int) : List Nat × St false := ([1, 1, 0, 1, 0], St.mk
 [SV.leaf (Leaf.sl fP e0), SV.leaf (Leaf.sl fP e1), SV.any, SV.any, SV.any, SV.leaf (Leaf.int Go.IntKind.i64 i5),
  SV.any, SV.any, SV.any, SV.any, SV.any, SV.any, SV.any, SV.any, SV.any, SV.any, SV.any, SV.any, SV.any, SV.any,
  SV.any, SV.any, SV.any, SV.any, SV.any, SV.any, SV.any]
 [none, none, none, none, none, none, none, none, none, none, none, none, none, none, none, none, none, none, none,
  none, none, none, none, none, none, none, none])
theorem laws_eqChangeS_0_eq (D : Oracle false) (e0 : List (List (Leaf false))) (e1 : List (List (Leaf false))) (i5 : Int) : laws_eqChangeS_A D (laws_eqChangeS_0 e0 e1 i5) =
  branch (decide (i5 < (↑e0.length : Int)))
 (guarded (decide (0 ≤ i5) && decide (i5 < (↑e0.length : Int)) && sized 3 e0)
  (bindE (e0.getD i5.toNat []) fun (e : List (Leaf false)) =>
   atK e 0 fun (l : Leaf false) =>
    intK Go.IntKind.i64 l fun (n : Int) =>
     atK e 1 fun (l : Leaf false) =>
      strK l fun (s : ByteArray) =>
       atK e 2 fun (l : Leaf false) =>
        strK l fun (s_1 : ByteArray) =>
         guarded (decide (0 ≤ i5) && decide (i5 < (↑e1.length : Int)) && sized 3 e1)
          (bindE (e1.getD i5.toNat []) fun (e : List (Leaf false)) =>
           atK e 0 fun (l : Leaf false) =>
            intK Go.IntKind.i64 l fun (n_1 : Int) =>
             atK e 1 fun (l : Leaf false) =>
              strK l fun (s_2 : ByteArray) =>
               atK e 2 fun (l : Leaf false) =>
                strK l fun (s_3 : ByteArray) =>
                 (D F.laws_eqChange
                    [SV.agg [Leaf.int Go.IntKind.i64 n, Leaf.str s, Leaf.str s_1],
                     SV.agg [Leaf.int Go.IntKind.i64 n_1, Leaf.str s_2, Leaf.str s_3]]
                    []).bind
                  fun (r : SV false × List (List (SV false))) =>
                  svLeafK r.fst fun (l : Leaf false) =>
                   boolK l fun (b : Bool) =>
                    branch (!b) (some (SV.leaf (Leaf.bool false), []))
                     (laws_eqChangeS_A D (laws_eqChangeS_0 e0 e1 (Go.IntKind.i64.wrap (i5 + 1)))))))
 (some (SV.leaf (Leaf.bool true), [])) := by
  refine (nameF_eq (J := laws_eqChangeS_A D) (fun _ _ => rfl) [[1, 1, 0, 1, 0]] (laws_eqChangeS_0 e0 e1 i5)).trans ?_
  generalize laws_eqChangeS_A D = J
  revert J
  refine id ?_
  intro J
  kernel_rfl
theorem run_laws_eqChangeS (D : Oracle false) (e0 : List (List (Leaf false))) (e1 : List (List (Leaf false))) : run2V Go.Proofs.Try.prog D Go.Vs.Hs limR F.laws_eqChangeS [SV.leaf (Leaf.sl fP e0), SV.leaf (Leaf.sl fP e1)] [] =
  branch ((↑e0.length : Int) != (↑e1.length : Int)) (some (SV.leaf (Leaf.bool false), []))
 (laws_eqChangeS_A D (laws_eqChangeS_0 e0 e1 0)) := by
  refine (run_names (J := laws_eqChangeS_A D) (by kernel_rfl) (fun _ _ => rfl) [[1, 1, 0, 1, 0]]).trans ?_
  generalize laws_eqChangeS_A D = J
  revert J
  refine id ?_
  intro J
  kernel_rfl
-- FN 18 laws_toChangeS
noncomputable def laws_toChangeS_A (D : Oracle false) (x : List Nat × St false) : Option (SV false × List (List (SV false))) := atF Go.Proofs.Try.prog D Go.Vs.Hs F.laws_toChangeS x.1 0 x.2
def laws_toChangeS_0 (e0 : List (List (Leaf false))) (n3 : Nat) (i4 : Int) (vx7 : List (SV false)) : List Nat × St false := ([1, 1, 0, 1, 0], St.mk
 [SV.leaf (Leaf.sl fP e0), SV.any, SV.any, SV.bsl 7 3 0 n3, SV.leaf (Leaf.int Go.IntKind.i64 i4), SV.any, SV.any,
  SV.any, SV.any, SV.any, SV.any, SV.any, SV.any, SV.any, SV.any, SV.any, SV.any, SV.any, SV.any, SV.any, SV.any,
  SV.any, SV.any]
 [none, none, none, none, none, none, none, some vx7, none, none, none, none, none, none, none, none, none, none, none,
  none, none, none, none])
theorem laws_toChangeS_0_eq (D : Oracle false) (e0 : List (List (Leaf false))) (n3 : Nat) (i4 : Int) (vx7 : List (SV false)) : laws_toChangeS_A D (laws_toChangeS_0 e0 n3 i4 vx7) =
  branch (decide (i4 < (↑e0.length : Int)))
 (guarded (decide (0 ≤ i4) && decide (i4 < (↑e0.length : Int)) && sized 3 e0)
  (bindE (e0.getD i4.toNat []) fun (e : List (Leaf false)) =>
   atK e 0 fun (l : Leaf false) =>
    intK Go.IntKind.i64 l fun (n : Int) =>
     atK e 1 fun (l : Leaf false) =>
      strK l fun (s : ByteArray) =>
       atK e 2 fun (l : Leaf false) =>
        strK l fun (s_1 : ByteArray) =>
         (D F.laws_toChange [SV.agg [Leaf.int Go.IntKind.i64 n, Leaf.str s, Leaf.str s_1]] []).bind
          fun (r : SV false × List (List (SV false))) =>
          svAggK r.fst fun (cs : List (Leaf false)) =>
           guarded (cs.length == 3)
            (atK cs 0 fun (l : Leaf false) =>
             intK Go.IntKind.i64 l fun (n : Int) =>
              atK cs 1 fun (l : Leaf false) =>
               strK l fun (s : ByteArray) =>
                atK cs 2 fun (l : Leaf false) =>
                 strK l fun (s_2 : ByteArray) =>
                  guarded (decide (0 ≤ i4) && decide (i4 < (↑n3 : Int)))
                   (guarded (decide ((0 + i4.toNat) * 3 + 3 ≤ vx7.length))
                    (laws_toChangeS_A D
                     (laws_toChangeS_0 e0 n3 (Go.IntKind.i64.wrap (i4 + 1))
                      (putAt vx7 ((0 + i4.toNat) * 3)
                       [SV.leaf (Leaf.int Go.IntKind.i64 n), SV.leaf (Leaf.str s), SV.leaf (Leaf.str s_2)])))))))
 ((if n3 * 3 ≤ vx7.length ∧ 0 < 3 then
    match asLeaves (List.take (n3 * 3) vx7) with
    | some x => some ((fun (l : List (Leaf false)) => SV.leaf (Leaf.sl (Fl.new false) (chunks 3 n3 l))) x)
    | none => none
   else none).bind
  fun (v : SV false) => guarded v.flatT (some (v, []))) := by
  refine (nameF_eq (J := laws_toChangeS_A D) (fun _ _ => rfl) [[1, 1, 0, 1, 0]] (laws_toChangeS_0 e0 n3 i4 vx7)).trans ?_
  generalize laws_toChangeS_A D = J
  revert J
  refine id ?_
  intro J
  kernel_rfl
theorem run_laws_toChangeS (D : Oracle false) (e0 : List (List (Leaf false))) : run2V Go.Proofs.Try.prog D Go.Vs.Hs limR F.laws_toChangeS [SV.leaf (Leaf.sl fP e0)] [] =
  guarded
 ((↑e0.length : Int) == (↑e0.length : Int) && decide ((↑e0.length : Int).toNat * 40 ≤ maxBytes) &&
  decide ((↑e0.length : Int).toNat ≤ maxBytes))
 (laws_toChangeS_A D
  (laws_toChangeS_0 e0
   (decide (0 ≤ (↑e0.length : Int)) && (↑e0.length : Int) == (↑e0.length : Int) &&
         decide ((↑e0.length : Int).toNat * Go.Proofs.Try.prog.types[29].bytes ≤ maxBytes) &&
        decide ((↑e0.length : Int).toNat ≤ maxBytes),
       (Go.Proofs.Try.prog.types[29].size, (↑e0.length : Int).toNat),
       List.map SV.leaf
        (List.replicate (↑e0.length : Int).toNat
          ((fun (x : List (Leaf false)) => Leaf.int Go.IntKind.i64 0 :: x)
           ((fun (x : List (Leaf false)) => Leaf.str (ByteArray.mk #[]) :: x)
            ((fun (x : List (Leaf false)) => Leaf.str (ByteArray.mk #[]) :: x) [])))).flatten).snd.fst.snd
   0
   (decide (0 ≤ (↑e0.length : Int)) && (↑e0.length : Int) == (↑e0.length : Int) &&
        decide ((↑e0.length : Int).toNat * Go.Proofs.Try.prog.types[29].bytes ≤ maxBytes) &&
       decide ((↑e0.length : Int).toNat ≤ maxBytes),
      (Go.Proofs.Try.prog.types[29].size, (↑e0.length : Int).toNat),
      List.map SV.leaf
       (List.replicate (↑e0.length : Int).toNat
         ((fun (x : List (Leaf false)) => Leaf.int Go.IntKind.i64 0 :: x)
          ((fun (x : List (Leaf false)) => Leaf.str (ByteArray.mk #[]) :: x)
           ((fun (x : List (Leaf false)) => Leaf.str (ByteArray.mk #[]) :: x) [])))).flatten).snd.snd)) := by
  refine (run_names (J := laws_toChangeS_A D) (by kernel_rfl) (fun _ _ => rfl) [[1, 1, 0, 1, 0]]).trans ?_
  generalize laws_toChangeS_A D = J
  revert J
  refine id ?_
  intro J
  kernel_rfl
-- FN 6 laws_FnExactBreaks
noncomputable def laws_FnExactBreaks_A (D : Oracle false) (x : List Nat × St false) : Option (SV false × List (List (SV false))) := atF Go.Proofs.Try.prog D Go.Vs.Hs F.laws_FnExactBreaks x.1 0 x.2
theorem run_laws_FnExactBreaks (D : Oracle false) (e0 : List (List (Leaf false))) : run2V Go.Proofs.Try.prog D Go.Vs.Hs limR F.laws_FnExactBreaks [SV.leaf (Leaf.sl fP e0)] [] =
  (D F.laws_szChangeS [SV.leaf (Leaf.sl fP e0), SV.leaf (Leaf.int Go.IntKind.i64 1048576)] []).bind
 fun (r : SV false × List (List (SV false))) =>
 svLeafK r.fst fun (l : Leaf false) =>
  intK Go.IntKind.i64 l fun (n : Int) =>
   branch (decide (n < 0)) (some (SV.leaf (Leaf.bool true), []))
    ((D F.laws_toChangeS [SV.leaf (Leaf.sl fP e0)] []).bind fun (r : SV false × List (List (SV false))) =>
     svSlK r.fst fun (c : Fl false) (es : List (List (Leaf false))) =>
      (D F.spec_Breaks [SV.leaf (Leaf.sl fP es)] []).bind fun (r : SV false × List (List (SV false))) =>
       svLeafK r.fst fun (l : Leaf false) =>
        boolK l fun (b : Bool) =>
         (D F.laws_toChangeS [SV.leaf (Leaf.sl fP e0)] []).bind fun (r : SV false × List (List (SV false))) =>
          svSlK r.fst fun (c : Fl false) (es : List (List (Leaf false))) =>
           (D F.impl_Breaks [SV.leaf (Leaf.sl fP es)] []).bind fun (r : SV false × List (List (SV false))) =>
            svLeafK r.fst fun (l : Leaf false) =>
             boolK l fun (b_1 : Bool) =>
              branch (!b_1 == b) (some (SV.leaf (Leaf.bool false), []))
               ((D F.laws_toChangeS [SV.leaf (Leaf.sl fP e0)] []).bind fun (r : SV false × List (List (SV false))) =>
                svSlK r.fst fun (c : Fl false) (es_1 : List (List (Leaf false))) =>
                 (D F.laws_eqChangeS [SV.leaf (Leaf.sl fP es), SV.leaf (Leaf.sl fP es_1)] []).bind
                  fun (r : SV false × List (List (SV false))) =>
                  svLeafK r.fst fun (l : Leaf false) =>
                   boolK l fun (b : Bool) =>
                    branch (!b) (some (SV.leaf (Leaf.bool false), [])) (some (SV.leaf (Leaf.bool true), [])))) := by
  refine (run_names (J := laws_FnExactBreaks_A D) (by kernel_rfl) (fun _ _ => rfl) []).trans ?_
  generalize laws_FnExactBreaks_A D = J
  revert J
  refine id ?_
  intro J
  kernel_rfl
-- FN 12 laws_szChange
noncomputable def laws_szChange_A (D : Oracle false) (x : List Nat × St false) : Option (SV false × List (List (SV false))) := atF Go.Proofs.Try.prog D Go.Vs.Hs F.laws_szChange x.1 0 x.2
theorem run_laws_szChange (D : Oracle false) (i0_0 : Int) (s0_1 : ByteArray) (s0_2 : ByteArray) (i1 : Int) : run2V Go.Proofs.Try.prog D Go.Vs.Hs limR F.laws_szChange [SV.agg [Leaf.int Go.IntKind.i64 i0_0, Leaf.str s0_1, Leaf.str s0_2], SV.leaf (Leaf.int Go.IntKind.i64 i1)] [] =
  branch (decide (Go.IntKind.i64.wrap (i1 - (↑s0_1.size : Int)) < 0)) (some (SV.leaf (Leaf.int Go.IntKind.i64 (-1)), []))
 (branch (decide (Go.IntKind.i64.wrap (Go.IntKind.i64.wrap (i1 - (↑s0_1.size : Int)) - (↑s0_2.size : Int)) < 0))
  (some (SV.leaf (Leaf.int Go.IntKind.i64 (-1)), []))
  (some
   (SV.leaf
     (Leaf.int Go.IntKind.i64
      (Go.IntKind.i64.wrap (Go.IntKind.i64.wrap (i1 - (↑s0_1.size : Int)) - (↑s0_2.size : Int)))),
    []))) := by
  refine (run_names (J := laws_szChange_A D) (by kernel_rfl) (fun _ _ => rfl) []).trans ?_
  generalize laws_szChange_A D = J
  revert J
  refine id ?_
  intro J
  kernel_rfl
-- FN 10 spec_ClassOf
noncomputable def spec_ClassOf_A (D : Oracle false) (x : List Nat × St false) : Option (SV false × List (List (SV false))) := atF Go.Proofs.Try.prog D Go.Vs.Hs F.spec_ClassOf x.1 0 x.2
theorem run_spec_ClassOf (D : Oracle false) (i0 : Int) : run2V Go.Proofs.Try.prog D Go.Vs.Hs limR F.spec_ClassOf [SV.leaf (Leaf.int Go.IntKind.i64 i0)] [] =
  (D F.spec_l01In
   [SV.leaf (Leaf.int Go.IntKind.i64 i0), SV.leaf (Leaf.int Go.IntKind.i64 1), SV.leaf (Leaf.int Go.IntKind.i64 28)]
   []).bind
 fun (r : SV false × List (List (SV false))) =>
 svLeafK r.fst fun (l : Leaf false) =>
  boolK l fun (b : Bool) =>
   branch (!b) (some (SV.leaf (Leaf.int Go.IntKind.i64 0), []))
    (branch (decide (i0 ≤ 15)) (some (SV.leaf (Leaf.int Go.IntKind.i64 1), []))
     ((D F.spec_l01In
        [SV.leaf (Leaf.int Go.IntKind.i64 i0), SV.leaf (Leaf.int Go.IntKind.i64 20),
         SV.leaf (Leaf.int Go.IntKind.i64 24)]
        []).bind
      fun (r : SV false × List (List (SV false))) =>
      svLeafK r.fst fun (l : Leaf false) =>
       boolK l fun (b : Bool) =>
        branch b (some (SV.leaf (Leaf.int Go.IntKind.i64 2), [])) (some (SV.leaf (Leaf.int Go.IntKind.i64 3), [])))) := by
  refine (run_names (J := spec_ClassOf_A D) (by kernel_rfl) (fun _ _ => rfl) []).trans ?_
  generalize spec_ClassOf_A D = J
  revert J
  refine id ?_
  intro J
  kernel_rfl
-- FN 28 slices_ContainsFunc_S_impl_Change_impl_Change_c0
noncomputable def slices_ContainsFunc_S_impl_Change_impl_Change_c0_A (D : Oracle false) (x : List Nat × St false) : Option (SV false × List (List (SV false))) := atF Go.Proofs.Try.prog D Go.Vs.Hs F.slices_ContainsFunc_S_impl_Change_impl_Change x.1 0 x.2
theorem run_slices_ContainsFunc_S_impl_Change_impl_Change_c0 (D : Oracle false) (e0 : List (List (Leaf false))) (n1 : Nat) : run2V Go.Proofs.Try.prog D Go.Vs.Hs limR F.slices_ContainsFunc_S_impl_Change_impl_Change [SV.leaf (Leaf.sl fP e0), SV.fn n1 []] [] =
  (D F.slices_IndexFunc_S_impl_Change_impl_Change [SV.leaf (Leaf.sl fP e0), SV.fn n1 []] []).bind
 fun (r : SV false × List (List (SV false))) =>
 lastB r.snd
  (svLeafK r.fst fun (l : Leaf false) =>
   intK Go.IntKind.i64 l fun (n : Int) => some (SV.leaf (Leaf.bool (decide (n ≥ 0))), [])) := by
  refine (run_names (J := slices_ContainsFunc_S_impl_Change_impl_Change_c0_A D) (by kernel_rfl) (fun _ _ => rfl) []).trans ?_
  generalize slices_ContainsFunc_S_impl_Change_impl_Change_c0_A D = J
  revert J
  refine id ?_
  intro J
  kernel_rfl
-- FN 30 laws_eqChange
noncomputable def laws_eqChange_A (D : Oracle false) (x : List Nat × St false) : Option (SV false × List (List (SV false))) := atF Go.Proofs.Try.prog D Go.Vs.Hs F.laws_eqChange x.1 0 x.2
theorem run_laws_eqChange (D : Oracle false) (i0_0 : Int) (s0_1 : ByteArray) (s0_2 : ByteArray) (i1_0 : Int) (s1_1 : ByteArray) (s1_2 : ByteArray) : run2V Go.Proofs.Try.prog D Go.Vs.Hs limR F.laws_eqChange [SV.agg [Leaf.int Go.IntKind.i64 i0_0, Leaf.str s0_1, Leaf.str s0_2],
 SV.agg [Leaf.int Go.IntKind.i64 i1_0, Leaf.str s1_1, Leaf.str s1_2]] [] =
  branch (i0_0 != i1_0) (some (SV.leaf (Leaf.bool false), []))
 (branch (!s0_1.toList == s1_1.toList) (some (SV.leaf (Leaf.bool false), []))
  (branch (!s0_2.toList == s1_2.toList) (some (SV.leaf (Leaf.bool false), [])) (some (SV.leaf (Leaf.bool true), [])))) := by
  refine (run_names (J := laws_eqChange_A D) (by kernel_rfl) (fun _ _ => rfl) []).trans ?_
  generalize laws_eqChange_A D = J
  revert J
  refine id ?_
  intro J
  kernel_rfl
-- FN 14 laws_toChange
noncomputable def laws_toChange_A (D : Oracle false) (x : List Nat × St false) : Option (SV false × List (List (SV false))) := atF Go.Proofs.Try.prog D Go.Vs.Hs F.laws_toChange x.1 0 x.2
theorem run_laws_toChange (D : Oracle false) (i0_0 : Int) (s0_1 : ByteArray) (s0_2 : ByteArray) : run2V Go.Proofs.Try.prog D Go.Vs.Hs limR F.laws_toChange [SV.agg [Leaf.int Go.IntKind.i64 i0_0, Leaf.str s0_1, Leaf.str s0_2]] [] =
  some (SV.agg [Leaf.int Go.IntKind.i64 i0_0, Leaf.str s0_1, Leaf.str s0_2], []) := by
  refine (run_names (J := laws_toChange_A D) (by kernel_rfl) (fun _ _ => rfl) []).trans ?_
  generalize laws_toChange_A D = J
  revert J
  refine id ?_
  intro J
  kernel_rfl
-- FN 25 spec_l01In
noncomputable def spec_l01In_A (D : Oracle false) (x : List Nat × St false) : Option (SV false × List (List (SV false))) := atF Go.Proofs.Try.prog D Go.Vs.Hs F.spec_l01In x.1 0 x.2
theorem run_spec_l01In (D : Oracle false) (i0 : Int) (i1 : Int) (i2 : Int) : run2V Go.Proofs.Try.prog D Go.Vs.Hs limR F.spec_l01In [SV.leaf (Leaf.int Go.IntKind.i64 i0), SV.leaf (Leaf.int Go.IntKind.i64 i1), SV.leaf (Leaf.int Go.IntKind.i64 i2)] [] =
  branch (decide (i0 ≥ i1) == true) (some (SV.leaf (Leaf.bool (decide (i0 ≤ i2))), []))
 (some (SV.leaf (Leaf.bool false), [])) := by
  refine (run_names (J := spec_l01In_A D) (by kernel_rfl) (fun _ _ => rfl) []).trans ?_
  generalize spec_l01In_A D = J
  revert J
  refine id ?_
  intro J
  kernel_rfl
-- FN 35 slices_IndexFunc_S_impl_Change_impl_Change_c0
noncomputable def slices_IndexFunc_S_impl_Change_impl_Change_c0_A (D : Oracle false) (x : List Nat × St false) : Option (SV false × List (List (SV false))) := atF Go.Proofs.Try.prog D Go.Vs.Hs F.slices_IndexFunc_S_impl_Change_impl_Change x.1 0 x.2
def slices_IndexFunc_S_impl_Change_impl_Change_c0_0 (e0 : List (List (Leaf false))) (n1 : Nat) (i7 : Int) (i8 : Int) : List Nat × St false := ([1, 0, 1, 0], St.mk
 [SV.leaf (Leaf.sl fP e0), SV.fn n1 [], SV.any, SV.any, SV.any, SV.any, SV.any, SV.leaf (Leaf.int Go.IntKind.i64 i7),
  SV.leaf (Leaf.int Go.IntKind.i64 i8), SV.any, SV.any, SV.any, SV.any, SV.any, SV.any, SV.any, SV.any, SV.any, SV.any]
 [none, none, none, none, none, none, none, none, none, none, none, none, none, none, none, none, none, none, none])
theorem slices_IndexFunc_S_impl_Change_impl_Change_c0_0_eq (D : Oracle false) (e0 : List (List (Leaf false))) (n1 : Nat) (i7 : Int) (i8 : Int) : slices_IndexFunc_S_impl_Change_impl_Change_c0_A D (slices_IndexFunc_S_impl_Change_impl_Change_c0_0 e0 n1 i7 i8) =
  branch (decide (i8 < i7))
 (guarded (decide (0 ≤ i8) && decide (i8 < (↑e0.length : Int)) && sized 3 e0)
  (bindE (e0.getD i8.toNat []) fun (e : List (Leaf false)) =>
   atK e 0 fun (l : Leaf false) =>
    intK Go.IntKind.i64 l fun (n : Int) =>
     atK e 1 fun (l : Leaf false) =>
      strK l fun (s : ByteArray) =>
       atK e 2 fun (l : Leaf false) =>
        strK l fun (s_1 : ByteArray) =>
         (D n1 [SV.agg [Leaf.int Go.IntKind.i64 n, Leaf.str s, Leaf.str s_1]] []).bind
          fun (r : SV false × List (List (SV false))) =>
          lastB r.snd
           (svLeafK r.fst fun (l : Leaf false) =>
            boolK l fun (b : Bool) =>
             branch b (some (SV.leaf (Leaf.int Go.IntKind.i64 i8), []))
              (slices_IndexFunc_S_impl_Change_impl_Change_c0_A D
               (slices_IndexFunc_S_impl_Change_impl_Change_c0_0 e0 n1 i7 (Go.IntKind.i64.wrap (i8 + 1)))))))
 (some (SV.leaf (Leaf.int Go.IntKind.i64 (-1)), [])) := by
  refine (nameF_eq (J := slices_IndexFunc_S_impl_Change_impl_Change_c0_A D) (fun _ _ => rfl) [[1, 0, 1, 0]] (slices_IndexFunc_S_impl_Change_impl_Change_c0_0 e0 n1 i7 i8)).trans ?_
  generalize slices_IndexFunc_S_impl_Change_impl_Change_c0_A D = J
  revert J
  refine id ?_
  intro J
  kernel_rfl
theorem run_slices_IndexFunc_S_impl_Change_impl_Change_c0 (D : Oracle false) (e0 : List (List (Leaf false))) (n1 : Nat) : run2V Go.Proofs.Try.prog D Go.Vs.Hs limR F.slices_IndexFunc_S_impl_Change_impl_Change [SV.leaf (Leaf.sl fP e0), SV.fn n1 []] [] =
  slices_IndexFunc_S_impl_Change_impl_Change_c0_A D
 (slices_IndexFunc_S_impl_Change_impl_Change_c0_0 e0 n1 (↑e0.length : Int) 0) := by
  refine (run_names (J := slices_IndexFunc_S_impl_Change_impl_Change_c0_A D) (by kernel_rfl) (fun _ _ => rfl) [[1, 0, 1, 0]]).trans ?_
  generalize slices_IndexFunc_S_impl_Change_impl_Change_c0_A D = J
  revert J
  refine id ?_
  intro J
  kernel_rfl
-- FN 29 impl_Breaks_1
noncomputable def impl_Breaks_1_A (D : Oracle false) (x : List Nat × St false) : Option (SV false × List (List (SV false))) := atF Go.Proofs.Try.prog D Go.Vs.Hs F.impl_Breaks_1 x.1 0 x.2
theorem run_impl_Breaks_1 (D : Oracle false) (i0_0 : Int) (s0_1 : ByteArray) (s0_2 : ByteArray) : run2V Go.Proofs.Try.prog D Go.Vs.Hs limR F.impl_Breaks_1 [SV.agg [Leaf.int Go.IntKind.i64 i0_0, Leaf.str s0_1, Leaf.str s0_2]] [] =
  (D F.impl_ClassOf [SV.leaf (Leaf.int Go.IntKind.i64 i0_0)] []).bind fun (r : SV false × List (List (SV false))) =>
 svLeafK r.fst fun (l : Leaf false) => intK Go.IntKind.i64 l fun (n : Int) => some (SV.leaf (Leaf.bool (n == 1)), []) := by
  refine (run_names (J := impl_Breaks_1_A D) (by kernel_rfl) (fun _ _ => rfl) []).trans ?_
  generalize impl_Breaks_1_A D = J
  revert J
  refine id ?_
  intro J
  kernel_rfl
-- FN 11 impl_ClassOf
noncomputable def impl_ClassOf_A (D : Oracle false) (x : List Nat × St false) : Option (SV false × List (List (SV false))) := atF Go.Proofs.Try.prog D Go.Vs.Hs F.impl_ClassOf x.1 0 x.2
theorem run_impl_ClassOf (D : Oracle false) (i0 : Int) : run2V Go.Proofs.Try.prog D Go.Vs.Hs limR F.impl_ClassOf [SV.leaf (Leaf.int Go.IntKind.i64 i0)] [] =
  (D F.impl_in
   [SV.leaf (Leaf.int Go.IntKind.i64 i0), SV.leaf (Leaf.int Go.IntKind.i64 1), SV.leaf (Leaf.int Go.IntKind.i64 15)]
   []).bind
 fun (r : SV false × List (List (SV false))) =>
 svLeafK r.fst fun (l : Leaf false) =>
  boolK l fun (b : Bool) =>
   branch b (some (SV.leaf (Leaf.int Go.IntKind.i64 1), []))
    ((D F.impl_in
       [SV.leaf (Leaf.int Go.IntKind.i64 i0), SV.leaf (Leaf.int Go.IntKind.i64 20),
        SV.leaf (Leaf.int Go.IntKind.i64 24)]
       []).bind
     fun (r : SV false × List (List (SV false))) =>
     svLeafK r.fst fun (l : Leaf false) =>
      boolK l fun (b : Bool) =>
       branch b (some (SV.leaf (Leaf.int Go.IntKind.i64 2), []))
        ((D F.impl_in
           [SV.leaf (Leaf.int Go.IntKind.i64 i0), SV.leaf (Leaf.int Go.IntKind.i64 16),
            SV.leaf (Leaf.int Go.IntKind.i64 28)]
           []).bind
         fun (r : SV false × List (List (SV false))) =>
         svLeafK r.fst fun (l : Leaf false) =>
          boolK l fun (b : Bool) =>
           branch b (some (SV.leaf (Leaf.int Go.IntKind.i64 3), [])) (some (SV.leaf (Leaf.int Go.IntKind.i64 0), [])))) := by
  refine (run_names (J := impl_ClassOf_A D) (by kernel_rfl) (fun _ _ => rfl) []).trans ?_
  generalize impl_ClassOf_A D = J
  revert J
  refine id ?_
  intro J
  kernel_rfl
-- FN 26 impl_in
noncomputable def impl_in_A (D : Oracle false) (x : List Nat × St false) : Option (SV false × List (List (SV false))) := atF Go.Proofs.Try.prog D Go.Vs.Hs F.impl_in x.1 0 x.2
theorem run_impl_in (D : Oracle false) (i0 : Int) (i1 : Int) (i2 : Int) : run2V Go.Proofs.Try.prog D Go.Vs.Hs limR F.impl_in [SV.leaf (Leaf.int Go.IntKind.i64 i0), SV.leaf (Leaf.int Go.IntKind.i64 i1), SV.leaf (Leaf.int Go.IntKind.i64 i2)] [] =
  branch (decide (i0 ≥ i1) == true) (some (SV.leaf (Leaf.bool (decide (i0 ≤ i2))), []))
 (some (SV.leaf (Leaf.bool false), [])) := by
  refine (run_names (J := impl_in_A D) (by kernel_rfl) (fun _ _ => rfl) []).trans ?_
  generalize impl_in_A D = J
  revert J
  refine id ?_
  intro J
  kernel_rfl
end Go.Vs
