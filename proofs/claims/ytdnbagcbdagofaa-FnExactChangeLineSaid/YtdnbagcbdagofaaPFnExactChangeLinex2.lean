/- The walk of some functions of laws.FnExactChangeLine; no condition. Begun as a print of print.sh, then changed by hand. -/
import Derived.Test.YtdnbagcbdagofaaPFnExactChangeLinex0
import Derived.Test.YtdnbagcbdagofaaPFnExactChangeLinex1
namespace Go.Proofs.Ytdnbagcbdagofaa.PFnExactChangeLine
open Go.RowKit Go.Proofs.YtdnbagcbdagofaaW.PrintWords Go.Proofs.YtdnbagcbdagofaaW.PrintLast Go.Proofs.YtdnbagcbdagofaaW.PrintMore
attribute [local go_sem] max2_int min2_int max_two min_two max_three min_three max_four min_four   -- for this text's walks alone
set_option linter.unusedVariables false
set_option linter.unusedSimpArgs false

/-! ### spec_ChangeLine: function 13 -/
def spec_ChangeLine.f (a0_0 : Int) (a0_1 : ByteArray) (a0_2 : ByteArray) : Option (ByteArray) := (some (([(⟨#[63, 32]⟩ : ByteArray), (⟨#[98, 114, 101, 97, 107, 115, 32]⟩ : ByteArray), (⟨#[114, 105, 115, 107, 121, 32]⟩ : ByteArray), (⟨#[115, 97, 102, 101, 32]⟩ : ByteArray)] : List ByteArray) : List ByteArray)).bind fun y110 => ((spec_ClassOf.f a0_0).bind fun t113 => (if 0 ≤ t113 then (if t113 < (y110.length : Int) then ((spec_CodeWord.f a0_0).bind fun t115 => (if (rdOf ByteArray.empty y110 t113).size + t115.size ≤ 9223372036854775807 then (if ((rdOf ByteArray.empty y110 t113) ++ t115).size + 1 ≤ 9223372036854775807 then (if (((rdOf ByteArray.empty y110 t113) ++ t115) ++ (⟨#[32]⟩ : ByteArray)).size + a0_1.size ≤ 9223372036854775807 then (if a0_2.toList = ([] : List UInt8) then (if ((((rdOf ByteArray.empty y110 t113) ++ t115) ++ (⟨#[32]⟩ : ByteArray)) ++ a0_1).size + 1 ≤ 9223372036854775807 then (some (((((rdOf ByteArray.empty y110 t113) ++ t115) ++ (⟨#[32]⟩ : ByteArray)) ++ a0_1) ++ (⟨#[10]⟩ : ByteArray))) else (none)) else (if ((((rdOf ByteArray.empty y110 t113) ++ t115) ++ (⟨#[32]⟩ : ByteArray)) ++ a0_1).size + 1 ≤ 9223372036854775807 then (if (((((rdOf ByteArray.empty y110 t113) ++ t115) ++ (⟨#[32]⟩ : ByteArray)) ++ a0_1) ++ (⟨#[32]⟩ : ByteArray)).size + a0_2.size ≤ 9223372036854775807 then (if ((((((rdOf ByteArray.empty y110 t113) ++ t115) ++ (⟨#[32]⟩ : ByteArray)) ++ a0_1) ++ (⟨#[32]⟩ : ByteArray)) ++ a0_2).size + 1 ≤ 9223372036854775807 then (some (((((((rdOf ByteArray.empty y110 t113) ++ t115) ++ (⟨#[32]⟩ : ByteArray)) ++ a0_1) ++ (⟨#[32]⟩ : ByteArray)) ++ a0_2) ++ (⟨#[10]⟩ : ByteArray))) else (none)) else (none)) else (none))) else (none)) else (none)) else (none))) else (none)) else (none)))
def spec_ChangeLine.T1 : Bool × List (List Nat × List Nat) := (true, [([], []), ([], []), ([1], [1]), ([2], [2]), ([0, 3], [0, 3]), ([4], [4]), ([], []), ([6], [6]), ([7, 3], [7]), ([5, 8], [5, 8]), ([9], [9]), ([], []), ([11], [11]), ([10, 12], [10, 12]), ([13, 8, 0, 1, 2, 3, 4, 5, 6, 7, 8, 9, 10, 11, 12, 13], [13])])
def spec_ChangeLine.B1 : List Nat := [0, 0, 2, 6, 15, 31, 0, 64, 206, 511, 1023, 0, 2048, 8191, 16383]
theorem spec_ChangeLine.tab1 : rtab .any (opsOf Try.f13 1) = spec_ChangeLine.T1 := by kernel_rfl
theorem spec_ChangeLine.bits1 : waitsOk spec_ChangeLine.T1.2 spec_ChangeLine.B1 = true := by kernel_rfl
set_option maxHeartbeats 8000000 in
set_option maxRecDepth 100000 in
theorem spec_ChangeLine.calls (a0_0 : Int) (a0_1 : ByteArray) (a0_2 : ByteArray) (r : ByteArray) (w : World) (h : spec_ChangeLine.f a0_0 a0_1 a0_2 = some r) :
    Calls Try.prog 13 #[.agg #[.int .i64 a0_0, .string a0_1, .string a0_2]] w fun e w' => e = .returned (.string r) ∧ Below w.heap.size w w' := by
  have hu29 := Try.underlying29
  have HB := Aside0.mk (Below.refl w.heap.size w)
  have H : ((some (([(⟨#[63, 32]⟩ : ByteArray), (⟨#[98, 114, 101, 97, 107, 115, 32]⟩ : ByteArray), (⟨#[114, 105, 115, 107, 121, 32]⟩ : ByteArray), (⟨#[115, 97, 102, 101, 32]⟩ : ByteArray)] : List ByteArray) : List ByteArray)).bind fun y110 => ((spec_ClassOf.f a0_0).bind fun t113 => (if 0 ≤ t113 then (if t113 < (y110.length : Int) then ((spec_CodeWord.f a0_0).bind fun t115 => (if (rdOf ByteArray.empty y110 t113).size + t115.size ≤ 9223372036854775807 then (if ((rdOf ByteArray.empty y110 t113) ++ t115).size + 1 ≤ 9223372036854775807 then (if (((rdOf ByteArray.empty y110 t113) ++ t115) ++ (⟨#[32]⟩ : ByteArray)).size + a0_1.size ≤ 9223372036854775807 then (if a0_2.toList = ([] : List UInt8) then (if ((((rdOf ByteArray.empty y110 t113) ++ t115) ++ (⟨#[32]⟩ : ByteArray)) ++ a0_1).size + 1 ≤ 9223372036854775807 then (some (((((rdOf ByteArray.empty y110 t113) ++ t115) ++ (⟨#[32]⟩ : ByteArray)) ++ a0_1) ++ (⟨#[10]⟩ : ByteArray))) else (none)) else (if ((((rdOf ByteArray.empty y110 t113) ++ t115) ++ (⟨#[32]⟩ : ByteArray)) ++ a0_1).size + 1 ≤ 9223372036854775807 then (if (((((rdOf ByteArray.empty y110 t113) ++ t115) ++ (⟨#[32]⟩ : ByteArray)) ++ a0_1) ++ (⟨#[32]⟩ : ByteArray)).size + a0_2.size ≤ 9223372036854775807 then (if ((((((rdOf ByteArray.empty y110 t113) ++ t115) ++ (⟨#[32]⟩ : ByteArray)) ++ a0_1) ++ (⟨#[32]⟩ : ByteArray)) ++ a0_2).size + 1 ≤ 9223372036854775807 then (some (((((((rdOf ByteArray.empty y110 t113) ++ t115) ++ (⟨#[32]⟩ : ByteArray)) ++ a0_1) ++ (⟨#[32]⟩ : ByteArray)) ++ a0_2) ++ (⟨#[10]⟩ : ByteArray))) else (none)) else (none)) else (none))) else (none)) else (none)) else (none))) else (none)) else (none)))) = some r := h
  clear h
  obtain ⟨y110, hy110⟩ : ∃ y_ : List ByteArray, y_ = (([(⟨#[63, 32]⟩ : ByteArray), (⟨#[98, 114, 101, 97, 107, 115, 32]⟩ : ByteArray), (⟨#[114, 105, 115, 107, 121, 32]⟩ : ByteArray), (⟨#[115, 97, 102, 101, 32]⟩ : ByteArray)] : List ByteArray)) := ⟨_, rfl⟩
  replace H : ((spec_ClassOf.f a0_0).bind fun t113 => (if 0 ≤ t113 then (if t113 < (y110.length : Int) then ((spec_CodeWord.f a0_0).bind fun t115 => (if (rdOf ByteArray.empty y110 t113).size + t115.size ≤ 9223372036854775807 then (if ((rdOf ByteArray.empty y110 t113) ++ t115).size + 1 ≤ 9223372036854775807 then (if (((rdOf ByteArray.empty y110 t113) ++ t115) ++ (⟨#[32]⟩ : ByteArray)).size + a0_1.size ≤ 9223372036854775807 then (if a0_2.toList = ([] : List UInt8) then (if ((((rdOf ByteArray.empty y110 t113) ++ t115) ++ (⟨#[32]⟩ : ByteArray)) ++ a0_1).size + 1 ≤ 9223372036854775807 then (some (((((rdOf ByteArray.empty y110 t113) ++ t115) ++ (⟨#[32]⟩ : ByteArray)) ++ a0_1) ++ (⟨#[10]⟩ : ByteArray))) else (none)) else (if ((((rdOf ByteArray.empty y110 t113) ++ t115) ++ (⟨#[32]⟩ : ByteArray)) ++ a0_1).size + 1 ≤ 9223372036854775807 then (if (((((rdOf ByteArray.empty y110 t113) ++ t115) ++ (⟨#[32]⟩ : ByteArray)) ++ a0_1) ++ (⟨#[32]⟩ : ByteArray)).size + a0_2.size ≤ 9223372036854775807 then (if ((((((rdOf ByteArray.empty y110 t113) ++ t115) ++ (⟨#[32]⟩ : ByteArray)) ++ a0_1) ++ (⟨#[32]⟩ : ByteArray)) ++ a0_2).size + 1 ≤ 9223372036854775807 then (some (((((((rdOf ByteArray.empty y110 t113) ++ t115) ++ (⟨#[32]⟩ : ByteArray)) ++ a0_1) ++ (⟨#[32]⟩ : ByteArray)) ++ a0_2) ++ (⟨#[10]⟩ : ByteArray))) else (none)) else (none)) else (none))) else (none)) else (none)) else (none))) else (none)) else (none))) = some r := by first | (rw [hy110]; with_reducible exact H) | (have H2_ := (Option.bind_some _ _).symm.trans H; rw [hy110]; with_reducible exact H2_) | (have H2_ := (Option.bind_some _ _).symm.trans H; with_reducible exact H2_) | with_reducible exact H | (rw [hy110]; exact H) | exact H
  have Ny110 := Aside0.mk hy110
  clear hy110
  replace H := Option.bind_eq_some_iff.mp H
  obtain ⟨t113, A20, H⟩ := H
  replace H : (if 0 ≤ t113 then (if t113 < (y110.length : Int) then ((spec_CodeWord.f a0_0).bind fun t115 => (if (rdOf ByteArray.empty y110 t113).size + t115.size ≤ 9223372036854775807 then (if ((rdOf ByteArray.empty y110 t113) ++ t115).size + 1 ≤ 9223372036854775807 then (if (((rdOf ByteArray.empty y110 t113) ++ t115) ++ (⟨#[32]⟩ : ByteArray)).size + a0_1.size ≤ 9223372036854775807 then (if a0_2.toList = ([] : List UInt8) then (if ((((rdOf ByteArray.empty y110 t113) ++ t115) ++ (⟨#[32]⟩ : ByteArray)) ++ a0_1).size + 1 ≤ 9223372036854775807 then (some (((((rdOf ByteArray.empty y110 t113) ++ t115) ++ (⟨#[32]⟩ : ByteArray)) ++ a0_1) ++ (⟨#[10]⟩ : ByteArray))) else (none)) else (if ((((rdOf ByteArray.empty y110 t113) ++ t115) ++ (⟨#[32]⟩ : ByteArray)) ++ a0_1).size + 1 ≤ 9223372036854775807 then (if (((((rdOf ByteArray.empty y110 t113) ++ t115) ++ (⟨#[32]⟩ : ByteArray)) ++ a0_1) ++ (⟨#[32]⟩ : ByteArray)).size + a0_2.size ≤ 9223372036854775807 then (if ((((((rdOf ByteArray.empty y110 t113) ++ t115) ++ (⟨#[32]⟩ : ByteArray)) ++ a0_1) ++ (⟨#[32]⟩ : ByteArray)) ++ a0_2).size + 1 ≤ 9223372036854775807 then (some (((((((rdOf ByteArray.empty y110 t113) ++ t115) ++ (⟨#[32]⟩ : ByteArray)) ++ a0_1) ++ (⟨#[32]⟩ : ByteArray)) ++ a0_2) ++ (⟨#[10]⟩ : ByteArray))) else (none)) else (none)) else (none))) else (none)) else (none)) else (none))) else (none)) else (none)) = some r := H
  have A2 := Aside0.mk A20
  clear A20
  by_cases c3 : 0 ≤ t113
  · rw [if_pos c3] at H
    have c3b0 : decide (0 ≤ t113) = true := decide_eq_true c3
    clear c3
    by_cases c4 : t113 < (y110.length : Int)
    · rw [if_pos c4] at H
      have c4b0 : decide (t113 < (y110.length : Int)) = true := decide_eq_true c4
      clear c4
      replace H := Option.bind_eq_some_iff.mp H
      obtain ⟨t115, A50, H⟩ := H
      replace H : (if (rdOf ByteArray.empty y110 t113).size + t115.size ≤ 9223372036854775807 then (if ((rdOf ByteArray.empty y110 t113) ++ t115).size + 1 ≤ 9223372036854775807 then (if (((rdOf ByteArray.empty y110 t113) ++ t115) ++ (⟨#[32]⟩ : ByteArray)).size + a0_1.size ≤ 9223372036854775807 then (if a0_2.toList = ([] : List UInt8) then (if ((((rdOf ByteArray.empty y110 t113) ++ t115) ++ (⟨#[32]⟩ : ByteArray)) ++ a0_1).size + 1 ≤ 9223372036854775807 then (some (((((rdOf ByteArray.empty y110 t113) ++ t115) ++ (⟨#[32]⟩ : ByteArray)) ++ a0_1) ++ (⟨#[10]⟩ : ByteArray))) else (none)) else (if ((((rdOf ByteArray.empty y110 t113) ++ t115) ++ (⟨#[32]⟩ : ByteArray)) ++ a0_1).size + 1 ≤ 9223372036854775807 then (if (((((rdOf ByteArray.empty y110 t113) ++ t115) ++ (⟨#[32]⟩ : ByteArray)) ++ a0_1) ++ (⟨#[32]⟩ : ByteArray)).size + a0_2.size ≤ 9223372036854775807 then (if ((((((rdOf ByteArray.empty y110 t113) ++ t115) ++ (⟨#[32]⟩ : ByteArray)) ++ a0_1) ++ (⟨#[32]⟩ : ByteArray)) ++ a0_2).size + 1 ≤ 9223372036854775807 then (some (((((((rdOf ByteArray.empty y110 t113) ++ t115) ++ (⟨#[32]⟩ : ByteArray)) ++ a0_1) ++ (⟨#[32]⟩ : ByteArray)) ++ a0_2) ++ (⟨#[10]⟩ : ByteArray))) else (none)) else (none)) else (none))) else (none)) else (none)) else (none)) = some r := H
      have A5 := Aside0.mk A50
      clear A50
      by_cases c6 : (rdOf ByteArray.empty y110 t113).size + t115.size ≤ 9223372036854775807
      · rw [if_pos c6] at H
        have c6b0 := eq_true c6
        have c6b1 : decide ((rdOf ByteArray.empty y110 t113).size + t115.size ≤ 9223372036854775807) = true := decide_eq_true c6
        try have c6b2 : (9223372036854775807 < (rdOf ByteArray.empty y110 t113).size + t115.size) = False := eq_false (Nat.not_lt.2 c6)
        by_cases c7 : ((rdOf ByteArray.empty y110 t113) ++ t115).size + 1 ≤ 9223372036854775807
        · rw [if_pos c7] at H
          have c7b0 := eq_true c7
          have c7b1 : decide (((rdOf ByteArray.empty y110 t113) ++ t115).size + 1 ≤ 9223372036854775807) = true := decide_eq_true c7
          try have c7b2 : (9223372036854775807 < ((rdOf ByteArray.empty y110 t113) ++ t115).size + 1) = False := eq_false (Nat.not_lt.2 c7)
          try simp only [ByteArray.size_append] at c7b2
          by_cases c8 : (((rdOf ByteArray.empty y110 t113) ++ t115) ++ (⟨#[32]⟩ : ByteArray)).size + a0_1.size ≤ 9223372036854775807
          · rw [if_pos c8] at H
            have c8b0 := eq_true c8
            have c8b1 : decide ((((rdOf ByteArray.empty y110 t113) ++ t115) ++ (⟨#[32]⟩ : ByteArray)).size + a0_1.size ≤ 9223372036854775807) = true := decide_eq_true c8
            try have c8b2 : (9223372036854775807 < (((rdOf ByteArray.empty y110 t113) ++ t115) ++ (⟨#[32]⟩ : ByteArray)).size + a0_1.size) = False := eq_false (Nat.not_lt.2 c8)
            try simp only [ByteArray.size_append] at c8b2
            by_cases c9 : a0_2.toList = ([] : List UInt8)
            · rw [if_pos c9] at H
              have c9b0 : (a0_2.toList == ([] : List UInt8)) = true := beq_iff_eq.mpr c9
              have c9b1 : (a0_2.toList != ([] : List UInt8)) = false := bne_eq_false_iff_eq.mpr c9
              clear c9
              by_cases c10 : ((((rdOf ByteArray.empty y110 t113) ++ t115) ++ (⟨#[32]⟩ : ByteArray)) ++ a0_1).size + 1 ≤ 9223372036854775807
              · rw [if_pos c10] at H
                have c10b0 := eq_true c10
                have c10b1 : decide (((((rdOf ByteArray.empty y110 t113) ++ t115) ++ (⟨#[32]⟩ : ByteArray)) ++ a0_1).size + 1 ≤ 9223372036854775807) = true := decide_eq_true c10
                try have c10b2 : (9223372036854775807 < ((((rdOf ByteArray.empty y110 t113) ++ t115) ++ (⟨#[32]⟩ : ByteArray)) ++ a0_1).size + 1) = False := eq_false (Nat.not_lt.2 c10)
                try simp only [ByteArray.size_append] at c10b2
                obtain rfl := Option.some.inj H
                go_enter Try.func13, Try.ntmps13
                try go_wp2_with (first | ((with_reducible refine gate_dst (N := 1) rfl ?_); refine box_event ?hg (N := 1) ?hd (cs := #[.int .i64 a0_0, .string a0_1, .string a0_2]) (t := 29) ?hr ?_; (case hd => rfl); (case hg => rfl); (case hr => first | (go_simp; done) | (go_simp; rfl)); intro gb109 hg w11 hbox hb; have n0_ := Aside0.mk (below_step (by repeat (first | (with_reducible first | exact HB.out | apply below_alloc | apply pw_below_drewN | apply below_drew1) | exact HB.out)) hb); have n1_ := Aside0.mk (hbox); have n2_ := Aside0.mk ((by rw [hg]; exact (below_size (by repeat (first | (with_reducible first | exact HB.out | apply below_alloc | apply pw_below_drewN | apply below_drew1) | exact HB.out))) : w.heap.size ≤ gb109)); have n3_ := Aside0.mk ((by rw [hg]; exact (below_size (by repeat (first | (with_reducible first | exact HB.out | apply below_alloc | apply pw_below_drewN | apply below_drew1) | exact HB.out))) : w.heap.size ≤ gb109)); clear HB; have HB := n0_; have BK109 := n1_; have GW109 := n2_; have GE109 := n3_; clear n0_ n1_ n2_ n3_; clear hb hbox hg))
                have pi114 : (0 ≤ (t113 : Int)) = True := eq_true (of_decide_eq_true (by first | (with_reducible assumption) | assumption))
                have qi114 : (t113 < (y110.length : Int)) = True := eq_true (of_decide_eq_true (by first | (with_reducible assumption) | assumption))
                have n0_ := Aside0.mk (blk_drew BK109.out)
                have n1_ := Aside0.mk (below_drew1 HB.out)
                clear BK109
                clear HB
                have BK109 := n0_
                have HB := n1_
                clear n0_ n1_
                refine start_ (n := 15) (S := fun w' => w'.cell? ⟨gb109, 0, none⟩ = some (.int .i64 a0_0) ∧ w'.cell? ⟨gb109, 1, none⟩ = some (.string a0_1) ∧ w'.cell? ⟨gb109, 2, none⟩ = some (.string a0_2)) (ds := []) #[false, false, false, false, false, false, false, false, false, false, false, false, false, false, false] (by kernel_rfl) rfl rfl ⟨(blk_cell BK109.out 0).trans rfl, (blk_cell BK109.out 1).trans rfl, (blk_cell BK109.out 2).trans rfl⟩ (fun hHeld => ?_); refine with_tabW spec_ChangeLine.tab1 spec_ChangeLine.bits1 (fun HT_ HW_ => ?_)
                generalize w11.drew = w12 at BK109 HB hHeld ⊢
                refine pure_ (i := 1) (N := some 5) (v := ?_) (a' := ?_) #[false, true, false, false, false, false, false, false, false, false, false, false, false, false, false] rfl rfl (any_of HT_.out (by kernel_rfl)) (fun _ _ _ h => h) (Or.inl ⟨by rfl, ?_⟩) ?_ ?_
                rotate_left
                · intro w'
                  first | (go_simp; with_reducible rfl; done) | (go_simp; rw [if_neg (by simp only [ByteArray.size_append] at *; omega)]; done) | (go_simp; rw [if_neg (by simp only [ByteArray.size_append, show (⟨#[32]⟩ : ByteArray).size = 1 from rfl] at *; omega)])
                rotate_left
                · simp only [Act.put, List.setIfInBounds_toArray, List.set_cons_zero, List.set_cons_succ, i64_w, i32_w]
                  rfl
                refine pure_ (i := 6) (N := some 10) (v := ?_) (a' := ?_) #[false, true, false, false, false, false, true, false, false, false, false, false, false, false, false] rfl rfl (any_of HT_.out (by kernel_rfl)) (fun _ _ _ h => h) (Or.inl ⟨by rfl, ?_⟩) ?_ ?_
                rotate_left
                · intro w'
                  first | (go_simp; with_reducible rfl; done) | (go_simp; rw [if_neg (by simp only [ByteArray.size_append] at *; omega)]; done) | (go_simp; rw [if_neg (by simp only [ByteArray.size_append, show (⟨#[32]⟩ : ByteArray).size = 1 from rfl] at *; omega)])
                rotate_left
                · simp only [Act.put, List.setIfInBounds_toArray, List.set_cons_zero, List.set_cons_succ, i64_w, i32_w]
                  rfl
                refine pure_ (i := 11) (N := some 15) (v := ?_) (a' := ?_) #[false, true, false, false, false, false, true, false, false, false, false, true, false, false, false] rfl rfl (any_of HT_.out (by kernel_rfl)) (fun _ _ _ h => h) (Or.inl ⟨by rfl, ?_⟩) ?_ ?_
                rotate_left
                · intro w'
                  first | (go_simp; with_reducible rfl; done) | (go_simp; rw [if_neg (by simp only [ByteArray.size_append] at *; omega)]; done) | (go_simp; rw [if_neg (by simp only [ByteArray.size_append, show (⟨#[32]⟩ : ByteArray).size = 1 from rfl] at *; omega)])
                rotate_left
                · simp only [Act.put, List.setIfInBounds_toArray, List.set_cons_zero, List.set_cons_succ, i64_w, i32_w]
                  rfl
                refine take_ (i := 2) (N := some 6) (v := ?_) (a' := ?_) #[false, true, true, false, false, false, true, false, false, false, false, true, false, false, false] rfl rfl (take_ofW HT_.out HW_.out (by kernel_rfl)) (fun _ _ _ h => h) (Or.inl ⟨by rfl, ?_⟩) hHeld ?_ ?_
                rotate_left
                · rintro w' ⟨s0, s1, s2⟩
                  first | (go_simp; with_reducible rfl; done) | (go_simp; rw [if_neg (by simp only [ByteArray.size_append] at *; omega)]; done) | (go_simp; rw [if_neg (by simp only [ByteArray.size_append, show (⟨#[32]⟩ : ByteArray).size = 1 from rfl] at *; omega)])
                rotate_left
                · simp only [Act.put, List.setIfInBounds_toArray, List.set_cons_zero, List.set_cons_succ, i64_w, i32_w]
                  rfl
                refine take_ (i := 7) (N := some 11) (v := ?_) (a' := ?_) #[false, true, true, false, false, false, true, true, false, false, false, true, false, false, false] rfl rfl (take_ofW HT_.out HW_.out (by kernel_rfl)) (fun _ _ _ h => h) (Or.inl ⟨by rfl, ?_⟩) hHeld ?_ ?_
                rotate_left
                · rintro w' ⟨s0, s1, s2⟩
                  first | (go_simp; with_reducible rfl; done) | (go_simp; rw [if_neg (by simp only [ByteArray.size_append] at *; omega)]; done) | (go_simp; rw [if_neg (by simp only [ByteArray.size_append, show (⟨#[32]⟩ : ByteArray).size = 1 from rfl] at *; omega)])
                rotate_left
                · simp only [Act.put, List.setIfInBounds_toArray, List.set_cons_zero, List.set_cons_succ, i64_w, i32_w]
                  rfl
                refine take_ (i := 12) (N := some 16) (v := ?_) (a' := ?_) #[false, true, true, false, false, false, true, true, false, false, false, true, true, false, false] rfl rfl (take_ofW HT_.out HW_.out (by kernel_rfl)) (fun _ _ _ h => h) (Or.inl ⟨by rfl, ?_⟩) hHeld ?_ ?_
                rotate_left
                · rintro w' ⟨s0, s1, s2⟩
                  first | (go_simp; with_reducible rfl; done) | (go_simp; rw [if_neg (by simp only [ByteArray.size_append] at *; omega)]; done) | (go_simp; rw [if_neg (by simp only [ByteArray.size_append, show (⟨#[32]⟩ : ByteArray).size = 1 from rfl] at *; omega)])
                rotate_left
                · simp only [Act.put, List.setIfInBounds_toArray, List.set_cons_zero, List.set_cons_succ, i64_w, i32_w]
                  rfl
                refine join_ (σ := Value × Addr) 4 #[true, true, true, true, true, true, true, true, true, false, false, true, true, false, false] (fun s_ => [(4, s_.1), (7, .int .i64 t113), (9, .string (rdOf ByteArray.empty y110 t113)), (12, .string t115), (8, .pointer (some (s_.2.add (t113).toNat)))]) (fun s_ w' => (w'.cell? ⟨gb109, 0, none⟩ = some (.int .i64 a0_0) ∧ w'.cell? ⟨gb109, 1, none⟩ = some (.string a0_1) ∧ w'.cell? ⟨gb109, 2, none⟩ = some (.string a0_2)) ∧ (Kd.R Kd.string 9 w' w.heap.size (fun _ => True) s_.1 y110) ∧ (∃ c_, (s_.1 : Value) = .slice (some s_.2) y110.length c_) ∧ (w'.heap[gb109]? = some (.cells #[.int .i64 a0_0, .string a0_1, .string a0_2] 29 (0, 0))) ∧ (Below w.heap.size w w')) ?_ ?_
                rotate_left
                · intro hJ0_3_5_8
                  refine join_ (σ := Value × Addr) 5 #[true, true, true, true, true, true, true, true, false, false, false, true, true, false, false] (fun s_ => [(4, s_.1), (7, .int .i64 t113), (9, .string (rdOf ByteArray.empty y110 t113)), (8, .pointer (some (s_.2.add (t113).toNat)))]) (fun s_ w' => (w'.cell? ⟨gb109, 0, none⟩ = some (.int .i64 a0_0) ∧ w'.cell? ⟨gb109, 1, none⟩ = some (.string a0_1) ∧ w'.cell? ⟨gb109, 2, none⟩ = some (.string a0_2)) ∧ (Kd.R Kd.string 9 w' w.heap.size (fun _ => True) s_.1 y110) ∧ (∃ c_, (s_.1 : Value) = .slice (some s_.2) y110.length c_) ∧ (w'.heap[gb109]? = some (.cells #[.int .i64 a0_0, .string a0_1, .string a0_2] 29 (0, 0))) ∧ (Below w.heap.size w w')) ?_ ?_
                  rotate_left
                  · intro hJ0_3_5
                    refine join_ (σ := Value × Addr) 5 #[true, true, true, true, true, false, true, true, true, false, false, true, true, false, false] (fun s_ => [(4, s_.1), (7, .int .i64 t113), (12, .string t115), (8, .pointer (some (s_.2.add (t113).toNat)))]) (fun s_ w' => (w'.cell? ⟨gb109, 0, none⟩ = some (.int .i64 a0_0) ∧ w'.cell? ⟨gb109, 1, none⟩ = some (.string a0_1) ∧ w'.cell? ⟨gb109, 2, none⟩ = some (.string a0_2)) ∧ (Kd.R Kd.string 9 w' w.heap.size (fun _ => True) s_.1 y110) ∧ (∃ c_, (s_.1 : Value) = .slice (some s_.2) y110.length c_) ∧ (w'.heap[gb109]? = some (.cells #[.int .i64 a0_0, .string a0_1, .string a0_2] 29 (0, 0))) ∧ (Below w.heap.size w w')) ?_ ?_
                    rotate_left
                    · intro hJ0_3_8
                      refine join_ (σ := Value × Addr) 6 #[true, true, true, true, true, false, true, true, false, false, false, true, true, false, false] (fun s_ => [(4, s_.1), (7, .int .i64 t113), (8, .pointer (some (s_.2.add (t113).toNat)))]) (fun s_ w' => (w'.cell? ⟨gb109, 0, none⟩ = some (.int .i64 a0_0) ∧ w'.cell? ⟨gb109, 1, none⟩ = some (.string a0_1) ∧ w'.cell? ⟨gb109, 2, none⟩ = some (.string a0_2)) ∧ (Kd.R Kd.string 9 w' w.heap.size (fun _ => True) s_.1 y110) ∧ (∃ c_, (s_.1 : Value) = .slice (some s_.2) y110.length c_) ∧ (w'.heap[gb109]? = some (.cells #[.int .i64 a0_0, .string a0_1, .string a0_2] 29 (0, 0))) ∧ (Below w.heap.size w w')) ?_ ?_
                      rotate_left
                      · intro hJ0_3
                        refine join_ (σ := Unit) 7 #[false, true, true, true, false, false, true, true, true, false, false, true, true, false, false] (fun s_ => [(7, .int .i64 t113), (12, .string t115)]) (fun s_ w' => (w'.cell? ⟨gb109, 0, none⟩ = some (.int .i64 a0_0) ∧ w'.cell? ⟨gb109, 1, none⟩ = some (.string a0_1) ∧ w'.cell? ⟨gb109, 2, none⟩ = some (.string a0_2)) ∧ (w'.heap[gb109]? = some (.cells #[.int .i64 a0_0, .string a0_1, .string a0_2] 29 (0, 0))) ∧ (Below w.heap.size w w')) ?_ ?_
                        rotate_left
                        · intro hJ3_8
                          refine join_ (σ := Value × Addr) 8 #[true, true, true, false, false, false, true, true, false, false, false, true, true, false, false] (fun s_ => [(4, s_.1)]) (fun s_ w' => (w'.cell? ⟨gb109, 0, none⟩ = some (.int .i64 a0_0) ∧ w'.cell? ⟨gb109, 1, none⟩ = some (.string a0_1) ∧ w'.cell? ⟨gb109, 2, none⟩ = some (.string a0_2)) ∧ (Kd.R Kd.string 9 w' w.heap.size (fun _ => True) s_.1 y110) ∧ (∃ c_, (s_.1 : Value) = .slice (some s_.2) y110.length c_) ∧ (w'.heap[gb109]? = some (.cells #[.int .i64 a0_0, .string a0_1, .string a0_2] 29 (0, 0))) ∧ (Below w.heap.size w w')) ?_ ?_
                          rotate_left
                          · intro hJ0
                            refine join_ (σ := Unit) 8 #[false, true, true, true, false, false, true, true, false, false, false, true, true, false, false] (fun s_ => [(7, .int .i64 t113)]) (fun s_ w' => (w'.cell? ⟨gb109, 0, none⟩ = some (.int .i64 a0_0) ∧ w'.cell? ⟨gb109, 1, none⟩ = some (.string a0_1) ∧ w'.cell? ⟨gb109, 2, none⟩ = some (.string a0_2)) ∧ (w'.heap[gb109]? = some (.cells #[.int .i64 a0_0, .string a0_1, .string a0_2] 29 (0, 0))) ∧ (Below w.heap.size w w')) ?_ ?_
                            rotate_left
                            · intro hJ3
                              refine two_ (i := 0) (j := 3) (Ni := some 4) (Nj := some 7) #[true, true, true, false, false, false, true, true, false, false, false, true, true, false, false] #[false, true, true, true, false, false, true, true, false, false, false, true, true, false, false] rfl rfl rfl rfl (two_of HT_.out (by kernel_rfl)) (by decide) (by decide) (fun K hK => ?_) (fun K hK => ?_)
                              · skip
                                refine Kd.R_lit_step Kd.string _ 9 ?hg (N := 4) ?hd (xs := ([(⟨#[63, 32]⟩ : ByteArray), (⟨#[98, 114, 101, 97, 107, 115, 32]⟩ : ByteArray), (⟨#[114, 105, 115, 107, 121, 32]⟩ : ByteArray), (⟨#[115, 97, 102, 101, 32]⟩ : ByteArray)] : List ByteArray)) (inner := [.string (⟨#[63, 32]⟩ : ByteArray), .string (⟨#[98, 114, 101, 97, 107, 115, 32]⟩ : ByteArray), .string (⟨#[114, 105, 115, 107, 121, 32]⟩ : ByteArray), .string (⟨#[115, 97, 102, 101, 32]⟩ : ByteArray)]) (ok := fun _ => True) (okp := fun _ => True) ?hr ?hp (fun _ hk => hk) trivial (Below.refl _ _) (Nat.le_refl _) (by simp) ?_; (case hd => rfl); (case hg => rfl); (case hr => first | (go_simp; done) | (go_simp; rfl)); (case hp => exact (Reps.one (show Kd.M Kd.string _ _ _ (⟨#[63, 32]⟩ : ByteArray) [.string (⟨#[63, 32]⟩ : ByteArray)] from rfl) (Reps.one (show Kd.M Kd.string _ _ _ (⟨#[98, 114, 101, 97, 107, 115, 32]⟩ : ByteArray) [.string (⟨#[98, 114, 101, 97, 107, 115, 32]⟩ : ByteArray)] from rfl) (Reps.one (show Kd.M Kd.string _ _ _ (⟨#[114, 105, 115, 107, 121, 32]⟩ : ByteArray) [.string (⟨#[114, 105, 115, 107, 121, 32]⟩ : ByteArray)] from rfl) (Reps.one (show Kd.M Kd.string _ _ _ (⟨#[115, 97, 102, 101, 32]⟩ : ByteArray) [.string (⟨#[115, 97, 102, 101, 32]⟩ : ByteArray)] from rfl) (Reps.none _ _))))))
                                intro v111 w13 ho14 hb hg_ hnew_
                                clear hg_ hnew_
                                (first | rw [← Ny110.out] at ho14 | (simp only [Int.reduceToNat] at ho14; rw [← Ny110.out] at ho14))
                                have n0_ := Aside0.mk (Kd.R_lower ho14 (below_size (by repeat (first | (with_reducible first | exact HB.out | apply below_alloc | apply pw_below_drewN | apply below_drew1 | refine below_set ?_ GE109.out) | exact HB.out))))
                                have n1_ := Aside0.mk (blk_below (g := gb109) (o := .cells #[.int .i64 a0_0, .string a0_1, .string a0_2] 29 (0, 0)) (by (with_reducible repeat (first | refine blk_drewN ?_ _ | refine blk_drew ?_ | refine blk_alloc ?_ _)); exact BK109.out) hb)
                                have n2_ := Aside0.mk (below_step (by repeat (first | (with_reducible first | exact HB.out | apply below_alloc | apply pw_below_drewN | apply below_drew1 | refine below_set ?_ GE109.out) | exact HB.out)) hb)
                                clear BK109
                                clear HB
                                have HO112 := n0_
                                have BK109 := n1_
                                have HB := n2_
                                clear n0_ n1_ n2_
                                clear hb ho14
                                obtain ⟨Ao15, co15, eo15⟩ := Kd.R_slice HO112.out
                                subst eo15
                                obtain ⟨ado15, fo15, _⟩ := Kd.at_string (Kd.R_reads' HO112.out).2.2 0 (by decide) (by rw [Ny110.out]; simp)
                                cases fo15
                                refine hK.out _ _ ⟨(blk_cell BK109.out 0).trans rfl, (blk_cell BK109.out 1).trans rfl, (blk_cell BK109.out 2).trans rfl⟩ (fun hHeld => ?_)
                                clear hK K
                                refine norm_ (a' := ?_) ?_ ?_
                                rotate_left
                                · show Act.put _ (some 4) _ = _
                                  simp only [Act.put, List.setIfInBounds_toArray, List.set_cons_zero, List.set_cons_succ, i64_w, i32_w]
                                  rfl
                                exact norm_ (by first | (simp only [putAll, Act.put, List.setIfInBounds_toArray, List.set_cons_zero, List.set_cons_succ]; done) | (simp only [putAll, Act.put, List.setIfInBounds_toArray, List.set_cons_zero, List.set_cons_succ]; rfl)) (hJ0 (.slice (some ado15) y110.length co15, ado15) _ ⟨hHeld, (by (with_reducible repeat (first | apply Kd.R_alloc | apply Kd.R_drewN | apply Kd.R_drew)); exact HO112.out), ⟨_, rfl⟩, (by (with_reducible repeat (first | refine blk_drewN ?_ _ | refine blk_drew ?_ | refine blk_alloc ?_ _)); exact BK109.out), (by repeat (first | (with_reducible first | exact HB.out | apply below_alloc | apply pw_below_drewN | apply below_drew1 | refine below_set ?_ GE109.out) | exact HB.out))⟩)
                              · skip
                                refine goes_ Try.func10 (by kernel_rfl) rfl #[.int .i64 a0_0] (by rfl) rfl rfl (by (try simp only [List.map_toArray, List.map_cons, List.map_nil]); first | done | rfl | (simp only [List.length_drop, List.length_take]; rfl)) ?_
                                with_reducible refine (spec_ClassOf.calls a0_0 t113 _ A2.out).mono ?_
                                rintro e w' ⟨rfl, ⟨nd, rfl⟩⟩
                                refine ⟨_, rfl, ?_⟩
                                refine hK.out _ _ ⟨(blk_cell BK109.out 0).trans rfl, (blk_cell BK109.out 1).trans rfl, (blk_cell BK109.out 2).trans rfl⟩ (fun hHeld => ?_)
                                clear hK K
                                refine norm_ (a' := ?_) ?_ ?_
                                rotate_left
                                · show Act.put _ (some 7) _ = _
                                  simp only [Act.put, List.setIfInBounds_toArray, List.set_cons_zero, List.set_cons_succ, i64_w, i32_w]
                                  rfl
                                exact norm_ (by first | (simp only [putAll, Act.put, List.setIfInBounds_toArray, List.set_cons_zero, List.set_cons_succ]; done) | (simp only [putAll, Act.put, List.setIfInBounds_toArray, List.set_cons_zero, List.set_cons_succ]; rfl)) (hJ3 () _ ⟨hHeld, (by (with_reducible repeat (first | refine blk_drewN ?_ _ | refine blk_drew ?_ | refine blk_alloc ?_ _)); exact BK109.out), (by repeat (first | (with_reducible first | exact HB.out | apply below_alloc | apply pw_below_drewN | apply below_drew1 | refine below_set ?_ GE109.out) | exact HB.out))⟩)
                            · skip
                              rintro _ w13 ⟨hS_, h0_, h1_⟩
                              have n0_ : Aside0 (w13.heap[gb109]? = some (.cells #[.int .i64 a0_0, .string a0_1, .string a0_2] 29 (0, 0))) := ⟨h0_⟩
                              have n1_ : Aside0 (Below w.heap.size w w13) := ⟨h1_⟩
                              clear BK109
                              clear HB
                              clear h0_ h1_
                              have BK109 := n0_
                              have HB := n1_
                              clear n0_ n1_
                              have hHeld : w13.cell? ⟨gb109, 0, none⟩ = some (.int .i64 a0_0) ∧ w13.cell? ⟨gb109, 1, none⟩ = some (.string a0_1) ∧ w13.cell? ⟨gb109, 2, none⟩ = some (.string a0_2) := hS_
                              refine norm_ (a' := ?_) ?_ ?_
                              rotate_left
                              · simp only [putAll, Act.put, List.setIfInBounds_toArray, List.set_cons_zero, List.set_cons_succ]
                                rfl
                              refine two_ (i := 0) (j := 8) (Ni := some 4) (Nj := some 12) #[true, true, true, true, false, false, true, true, false, false, false, true, true, false, false] #[false, true, true, true, false, false, true, true, true, false, false, true, true, false, false] rfl rfl rfl rfl (two_of HT_.out (by kernel_rfl)) (by decide) (by decide) (fun K hK => ?_) (fun K hK => ?_)
                              · skip
                                refine Kd.R_lit_step Kd.string _ 9 ?hg (N := 4) ?hd (xs := ([(⟨#[63, 32]⟩ : ByteArray), (⟨#[98, 114, 101, 97, 107, 115, 32]⟩ : ByteArray), (⟨#[114, 105, 115, 107, 121, 32]⟩ : ByteArray), (⟨#[115, 97, 102, 101, 32]⟩ : ByteArray)] : List ByteArray)) (inner := [.string (⟨#[63, 32]⟩ : ByteArray), .string (⟨#[98, 114, 101, 97, 107, 115, 32]⟩ : ByteArray), .string (⟨#[114, 105, 115, 107, 121, 32]⟩ : ByteArray), .string (⟨#[115, 97, 102, 101, 32]⟩ : ByteArray)]) (ok := fun _ => True) (okp := fun _ => True) ?hr ?hp (fun _ hk => hk) trivial (Below.refl _ _) (Nat.le_refl _) (by simp) ?_; (case hd => rfl); (case hg => rfl); (case hr => first | (go_simp; done) | (go_simp; rfl)); (case hp => exact (Reps.one (show Kd.M Kd.string _ _ _ (⟨#[63, 32]⟩ : ByteArray) [.string (⟨#[63, 32]⟩ : ByteArray)] from rfl) (Reps.one (show Kd.M Kd.string _ _ _ (⟨#[98, 114, 101, 97, 107, 115, 32]⟩ : ByteArray) [.string (⟨#[98, 114, 101, 97, 107, 115, 32]⟩ : ByteArray)] from rfl) (Reps.one (show Kd.M Kd.string _ _ _ (⟨#[114, 105, 115, 107, 121, 32]⟩ : ByteArray) [.string (⟨#[114, 105, 115, 107, 121, 32]⟩ : ByteArray)] from rfl) (Reps.one (show Kd.M Kd.string _ _ _ (⟨#[115, 97, 102, 101, 32]⟩ : ByteArray) [.string (⟨#[115, 97, 102, 101, 32]⟩ : ByteArray)] from rfl) (Reps.none _ _))))))
                                intro v111 w14 ho15 hb hg_ hnew_
                                clear hg_ hnew_
                                (first | rw [← Ny110.out] at ho15 | (simp only [Int.reduceToNat] at ho15; rw [← Ny110.out] at ho15))
                                have n0_ := Aside0.mk (Kd.R_lower ho15 (below_size (by repeat (first | (with_reducible first | exact HB.out | apply below_alloc | apply pw_below_drewN | apply below_drew1 | refine below_set ?_ GE109.out) | exact HB.out))))
                                have n1_ := Aside0.mk (blk_below (g := gb109) (o := .cells #[.int .i64 a0_0, .string a0_1, .string a0_2] 29 (0, 0)) (by (with_reducible repeat (first | refine blk_drewN ?_ _ | refine blk_drew ?_ | refine blk_alloc ?_ _)); exact BK109.out) hb)
                                have n2_ := Aside0.mk (below_step (by repeat (first | (with_reducible first | exact HB.out | apply below_alloc | apply pw_below_drewN | apply below_drew1 | refine below_set ?_ GE109.out) | exact HB.out)) hb)
                                clear BK109
                                clear HB
                                have HO112 := n0_
                                have BK109 := n1_
                                have HB := n2_
                                clear n0_ n1_ n2_
                                clear hb ho15
                                obtain ⟨Ao16, co16, eo16⟩ := Kd.R_slice HO112.out
                                subst eo16
                                obtain ⟨ado16, fo16, _⟩ := Kd.at_string (Kd.R_reads' HO112.out).2.2 0 (by decide) (by rw [Ny110.out]; simp)
                                cases fo16
                                refine hK.out _ _ ⟨(blk_cell BK109.out 0).trans rfl, (blk_cell BK109.out 1).trans rfl, (blk_cell BK109.out 2).trans rfl⟩ (fun hHeld => ?_)
                                clear hK K
                                refine norm_ (a' := ?_) ?_ ?_
                                rotate_left
                                · show Act.put _ (some 4) _ = _
                                  simp only [Act.put, List.setIfInBounds_toArray, List.set_cons_zero, List.set_cons_succ, i64_w, i32_w]
                                  rfl
                                refine pure_ (i := 4) (N := some 8) (v := ?_) (a' := ?_) #[true, true, true, true, true, false, true, true, false, false, false, true, true, false, false] rfl rfl (any_of HT_.out (by kernel_rfl)) (fun _ _ _ h => h) (Or.inl ⟨by rfl, ?_⟩) ?_ ?_
                                rotate_left
                                · intro w'
                                  first | (go_simp; with_reducible rfl; done) | (go_simp; rw [if_neg (by simp only [ByteArray.size_append] at *; omega)]; done) | (go_simp; rw [if_neg (by simp only [ByteArray.size_append, show (⟨#[32]⟩ : ByteArray).size = 1 from rfl] at *; omega)])
                                rotate_left
                                · simp only [Act.put, List.setIfInBounds_toArray, List.set_cons_zero, List.set_cons_succ, i64_w, i32_w]
                                  rfl
                                exact norm_ (by first | (simp only [putAll, Act.put, List.setIfInBounds_toArray, List.set_cons_zero, List.set_cons_succ]; done) | (simp only [putAll, Act.put, List.setIfInBounds_toArray, List.set_cons_zero, List.set_cons_succ]; rfl)) (hJ0_3 (.slice (some ado16) y110.length co16, ado16) _ ⟨hHeld, (by (with_reducible repeat (first | apply Kd.R_alloc | apply Kd.R_drewN | apply Kd.R_drew)); exact HO112.out), ⟨_, rfl⟩, (by (with_reducible repeat (first | refine blk_drewN ?_ _ | refine blk_drew ?_ | refine blk_alloc ?_ _)); exact BK109.out), (by repeat (first | (with_reducible first | exact HB.out | apply below_alloc | apply pw_below_drewN | apply below_drew1 | refine below_set ?_ GE109.out) | exact HB.out))⟩)
                              · skip
                                refine goes_ Try.func8 (by kernel_rfl) rfl #[.int .i64 a0_0] (by rfl) rfl rfl (by (try simp only [List.map_toArray, List.map_cons, List.map_nil]); first | done | rfl | (simp only [List.length_drop, List.length_take]; rfl)) ?_
                                with_reducible refine (spec_CodeWord.calls a0_0 t115 _ A5.out).mono ?_
                                rintro e w14 ⟨rfl, hb⟩
                                refine ⟨_, rfl, ?_⟩
                                have n0_ := Aside0.mk (blk_below (g := gb109) (o := .cells #[.int .i64 a0_0, .string a0_1, .string a0_2] 29 (0, 0)) (by (with_reducible repeat (first | refine blk_drewN ?_ _ | refine blk_drew ?_ | refine blk_alloc ?_ _)); exact BK109.out) hb)
                                have n1_ := Aside0.mk (below_step (by repeat (first | (with_reducible first | exact HB.out | apply below_alloc | apply pw_below_drewN | apply below_drew1 | refine below_set ?_ GE109.out) | exact HB.out)) hb)
                                clear BK109
                                clear HB
                                have BK109 := n0_
                                have HB := n1_
                                clear n0_ n1_
                                (try clear hb)
                                (try clear hb2)
                                (try clear hk)
                                (try clear hi)
                                refine hK.out _ _ ⟨(blk_cell BK109.out 0).trans rfl, (blk_cell BK109.out 1).trans rfl, (blk_cell BK109.out 2).trans rfl⟩ (fun hHeld => ?_)
                                clear hK K
                                refine norm_ (a' := ?_) ?_ ?_
                                rotate_left
                                · show Act.put _ (some 12) _ = _
                                  simp only [Act.put, List.setIfInBounds_toArray, List.set_cons_zero, List.set_cons_succ, i64_w, i32_w]
                                  rfl
                                exact norm_ (by first | (simp only [putAll, Act.put, List.setIfInBounds_toArray, List.set_cons_zero, List.set_cons_succ]; done) | (simp only [putAll, Act.put, List.setIfInBounds_toArray, List.set_cons_zero, List.set_cons_succ]; rfl)) (hJ3_8 () _ ⟨hHeld, (by (with_reducible repeat (first | refine blk_drewN ?_ _ | refine blk_drew ?_ | refine blk_alloc ?_ _)); exact BK109.out), (by repeat (first | (with_reducible first | exact HB.out | apply below_alloc | apply pw_below_drewN | apply below_drew1 | refine below_set ?_ GE109.out) | exact HB.out))⟩)
                          · skip
                            rintro ⟨v111, adz_v111⟩ w16 ⟨hS_, h0_, h1_, h2_, h3_⟩
                            have n0_ : Aside0 (Kd.R Kd.string 9 w16 w.heap.size (fun _ => True) v111 y110) := ⟨h0_⟩
                            have n1_ : Aside0 (∃ c_, (v111 : Value) = .slice (some adz_v111) y110.length c_) := ⟨h1_⟩
                            have n2_ : Aside0 (w16.heap[gb109]? = some (.cells #[.int .i64 a0_0, .string a0_1, .string a0_2] 29 (0, 0))) := ⟨h2_⟩
                            have n3_ : Aside0 (Below w.heap.size w w16) := ⟨h3_⟩
                            clear BK109
                            clear HB
                            clear h0_ h1_ h2_ h3_
                            have HO112 := n0_
                            have HA_HO112 := n1_
                            have BK109 := n2_
                            have HB := n3_
                            clear n0_ n1_ n2_ n3_
                            have hHeld : w16.cell? ⟨gb109, 0, none⟩ = some (.int .i64 a0_0) ∧ w16.cell? ⟨gb109, 1, none⟩ = some (.string a0_1) ∧ w16.cell? ⟨gb109, 2, none⟩ = some (.string a0_2) := hS_
                            obtain ⟨co17, eo17⟩ := HA_HO112.out
                            clear HA_HO112
                            subst eo17
                            refine norm_ (a' := ?_) ?_ ?_
                            rotate_left
                            · simp only [putAll, Act.put, List.setIfInBounds_toArray, List.set_cons_zero, List.set_cons_succ]
                              rfl
                            refine one_ (i := 3) (N := some 7) #[true, true, true, true, false, false, true, true, false, false, false, true, true, false, false] rfl rfl (one_of HT_.out (by kernel_rfl)) (by decide) (fun K hK => ?_)
                            refine goes_ Try.func10 (by kernel_rfl) rfl #[.int .i64 a0_0] (by rfl) rfl rfl (by (try simp only [List.map_toArray, List.map_cons, List.map_nil]); first | done | rfl | (simp only [List.length_drop, List.length_take]; rfl)) ?_
                            with_reducible refine (spec_ClassOf.calls a0_0 t113 _ A2.out).mono ?_
                            rintro e w' ⟨rfl, ⟨nd, rfl⟩⟩
                            refine ⟨_, rfl, ?_⟩
                            refine hK.out _ _ ⟨(blk_cell BK109.out 0).trans rfl, (blk_cell BK109.out 1).trans rfl, (blk_cell BK109.out 2).trans rfl⟩ (fun hHeld => ?_)
                            clear hK K
                            refine norm_ (a' := ?_) ?_ ?_
                            rotate_left
                            · show Act.put _ (some 7) _ = _
                              simp only [Act.put, List.setIfInBounds_toArray, List.set_cons_zero, List.set_cons_succ, i64_w, i32_w]
                              rfl
                            refine pure_ (i := 4) (N := some 8) (v := ?_) (a' := ?_) #[true, true, true, true, true, false, true, true, false, false, false, true, true, false, false] rfl rfl (any_of HT_.out (by kernel_rfl)) (fun _ _ _ h => h) (Or.inl ⟨by rfl, ?_⟩) ?_ ?_
                            rotate_left
                            · intro w'
                              first | (go_simp; with_reducible rfl; done) | (go_simp; rw [if_neg (by simp only [ByteArray.size_append] at *; omega)]; done) | (go_simp; rw [if_neg (by simp only [ByteArray.size_append, show (⟨#[32]⟩ : ByteArray).size = 1 from rfl] at *; omega)])
                            rotate_left
                            · simp only [Act.put, List.setIfInBounds_toArray, List.set_cons_zero, List.set_cons_succ, i64_w, i32_w]
                              rfl
                            exact norm_ (by first | (simp only [putAll, Act.put, List.setIfInBounds_toArray, List.set_cons_zero, List.set_cons_succ]; done) | (simp only [putAll, Act.put, List.setIfInBounds_toArray, List.set_cons_zero, List.set_cons_succ]; rfl)) (hJ0_3 (.slice (some adz_v111) y110.length co17, adz_v111) _ ⟨hHeld, (by (with_reducible repeat (first | apply Kd.R_alloc | apply Kd.R_drewN | apply Kd.R_drew)); exact HO112.out), ⟨_, rfl⟩, (by (with_reducible repeat (first | refine blk_drewN ?_ _ | refine blk_drew ?_ | refine blk_alloc ?_ _)); exact BK109.out), (by repeat (first | (with_reducible first | exact HB.out | apply below_alloc | apply pw_below_drewN | apply below_drew1 | refine below_set ?_ GE109.out) | exact HB.out))⟩)
                        · skip
                          rintro _ w14 ⟨hS_, h0_, h1_⟩
                          have n0_ : Aside0 (w14.heap[gb109]? = some (.cells #[.int .i64 a0_0, .string a0_1, .string a0_2] 29 (0, 0))) := ⟨h0_⟩
                          have n1_ : Aside0 (Below w.heap.size w w14) := ⟨h1_⟩
                          clear BK109
                          clear HB
                          clear h0_ h1_
                          have BK109 := n0_
                          have HB := n1_
                          clear n0_ n1_
                          have hHeld : w14.cell? ⟨gb109, 0, none⟩ = some (.int .i64 a0_0) ∧ w14.cell? ⟨gb109, 1, none⟩ = some (.string a0_1) ∧ w14.cell? ⟨gb109, 2, none⟩ = some (.string a0_2) := hS_
                          refine norm_ (a' := ?_) ?_ ?_
                          rotate_left
                          · simp only [putAll, Act.put, List.setIfInBounds_toArray, List.set_cons_zero, List.set_cons_succ]
                            rfl
                          refine one_ (i := 0) (N := some 4) #[true, true, true, true, false, false, true, true, true, false, false, true, true, false, false] rfl rfl (one_of HT_.out (by kernel_rfl)) (by decide) (fun K hK => ?_)
                          refine Kd.R_lit_step Kd.string _ 9 ?hg (N := 4) ?hd (xs := ([(⟨#[63, 32]⟩ : ByteArray), (⟨#[98, 114, 101, 97, 107, 115, 32]⟩ : ByteArray), (⟨#[114, 105, 115, 107, 121, 32]⟩ : ByteArray), (⟨#[115, 97, 102, 101, 32]⟩ : ByteArray)] : List ByteArray)) (inner := [.string (⟨#[63, 32]⟩ : ByteArray), .string (⟨#[98, 114, 101, 97, 107, 115, 32]⟩ : ByteArray), .string (⟨#[114, 105, 115, 107, 121, 32]⟩ : ByteArray), .string (⟨#[115, 97, 102, 101, 32]⟩ : ByteArray)]) (ok := fun _ => True) (okp := fun _ => True) ?hr ?hp (fun _ hk => hk) trivial (Below.refl _ _) (Nat.le_refl _) (by simp) ?_; (case hd => rfl); (case hg => rfl); (case hr => first | (go_simp; done) | (go_simp; rfl)); (case hp => exact (Reps.one (show Kd.M Kd.string _ _ _ (⟨#[63, 32]⟩ : ByteArray) [.string (⟨#[63, 32]⟩ : ByteArray)] from rfl) (Reps.one (show Kd.M Kd.string _ _ _ (⟨#[98, 114, 101, 97, 107, 115, 32]⟩ : ByteArray) [.string (⟨#[98, 114, 101, 97, 107, 115, 32]⟩ : ByteArray)] from rfl) (Reps.one (show Kd.M Kd.string _ _ _ (⟨#[114, 105, 115, 107, 121, 32]⟩ : ByteArray) [.string (⟨#[114, 105, 115, 107, 121, 32]⟩ : ByteArray)] from rfl) (Reps.one (show Kd.M Kd.string _ _ _ (⟨#[115, 97, 102, 101, 32]⟩ : ByteArray) [.string (⟨#[115, 97, 102, 101, 32]⟩ : ByteArray)] from rfl) (Reps.none _ _))))))
                          intro v111 w15 ho16 hb hg_ hnew_
                          clear hg_ hnew_
                          (first | rw [← Ny110.out] at ho16 | (simp only [Int.reduceToNat] at ho16; rw [← Ny110.out] at ho16))
                          have n0_ := Aside0.mk (Kd.R_lower ho16 (below_size (by repeat (first | (with_reducible first | exact HB.out | apply below_alloc | apply pw_below_drewN | apply below_drew1 | refine below_set ?_ GE109.out) | exact HB.out))))
                          have n1_ := Aside0.mk (blk_below (g := gb109) (o := .cells #[.int .i64 a0_0, .string a0_1, .string a0_2] 29 (0, 0)) (by (with_reducible repeat (first | refine blk_drewN ?_ _ | refine blk_drew ?_ | refine blk_alloc ?_ _)); exact BK109.out) hb)
                          have n2_ := Aside0.mk (below_step (by repeat (first | (with_reducible first | exact HB.out | apply below_alloc | apply pw_below_drewN | apply below_drew1 | refine below_set ?_ GE109.out) | exact HB.out)) hb)
                          clear BK109
                          clear HB
                          have HO112 := n0_
                          have BK109 := n1_
                          have HB := n2_
                          clear n0_ n1_ n2_
                          clear hb ho16
                          obtain ⟨Ao17, co17, eo17⟩ := Kd.R_slice HO112.out
                          subst eo17
                          obtain ⟨ado17, fo17, _⟩ := Kd.at_string (Kd.R_reads' HO112.out).2.2 0 (by decide) (by rw [Ny110.out]; simp)
                          cases fo17
                          refine hK.out _ _ ⟨(blk_cell BK109.out 0).trans rfl, (blk_cell BK109.out 1).trans rfl, (blk_cell BK109.out 2).trans rfl⟩ (fun hHeld => ?_)
                          clear hK K
                          refine norm_ (a' := ?_) ?_ ?_
                          rotate_left
                          · show Act.put _ (some 4) _ = _
                            simp only [Act.put, List.setIfInBounds_toArray, List.set_cons_zero, List.set_cons_succ, i64_w, i32_w]
                            rfl
                          refine pure_ (i := 4) (N := some 8) (v := ?_) (a' := ?_) #[true, true, true, true, true, false, true, true, true, false, false, true, true, false, false] rfl rfl (any_of HT_.out (by kernel_rfl)) (fun _ _ _ h => h) (Or.inl ⟨by rfl, ?_⟩) ?_ ?_
                          rotate_left
                          · intro w'
                            first | (go_simp; with_reducible rfl; done) | (go_simp; rw [if_neg (by simp only [ByteArray.size_append] at *; omega)]; done) | (go_simp; rw [if_neg (by simp only [ByteArray.size_append, show (⟨#[32]⟩ : ByteArray).size = 1 from rfl] at *; omega)])
                          rotate_left
                          · simp only [Act.put, List.setIfInBounds_toArray, List.set_cons_zero, List.set_cons_succ, i64_w, i32_w]
                            rfl
                          exact norm_ (by first | (simp only [putAll, Act.put, List.setIfInBounds_toArray, List.set_cons_zero, List.set_cons_succ]; done) | (simp only [putAll, Act.put, List.setIfInBounds_toArray, List.set_cons_zero, List.set_cons_succ]; rfl)) (hJ0_3_8 (.slice (some ado17) y110.length co17, ado17) _ ⟨hHeld, (by (with_reducible repeat (first | apply Kd.R_alloc | apply Kd.R_drewN | apply Kd.R_drew)); exact HO112.out), ⟨_, rfl⟩, (by (with_reducible repeat (first | refine blk_drewN ?_ _ | refine blk_drew ?_ | refine blk_alloc ?_ _)); exact BK109.out), (by repeat (first | (with_reducible first | exact HB.out | apply below_alloc | apply pw_below_drewN | apply below_drew1 | refine below_set ?_ GE109.out) | exact HB.out))⟩)
                      · skip
                        rintro ⟨v111, adz_v111⟩ w16 ⟨hS_, h0_, h1_, h2_, h3_⟩
                        have n0_ : Aside0 (Kd.R Kd.string 9 w16 w.heap.size (fun _ => True) v111 y110) := ⟨h0_⟩
                        have n1_ : Aside0 (∃ c_, (v111 : Value) = .slice (some adz_v111) y110.length c_) := ⟨h1_⟩
                        have n2_ : Aside0 (w16.heap[gb109]? = some (.cells #[.int .i64 a0_0, .string a0_1, .string a0_2] 29 (0, 0))) := ⟨h2_⟩
                        have n3_ : Aside0 (Below w.heap.size w w16) := ⟨h3_⟩
                        clear BK109
                        clear HB
                        clear h0_ h1_ h2_ h3_
                        have HO112 := n0_
                        have HA_HO112 := n1_
                        have BK109 := n2_
                        have HB := n3_
                        clear n0_ n1_ n2_ n3_
                        have hHeld : w16.cell? ⟨gb109, 0, none⟩ = some (.int .i64 a0_0) ∧ w16.cell? ⟨gb109, 1, none⟩ = some (.string a0_1) ∧ w16.cell? ⟨gb109, 2, none⟩ = some (.string a0_2) := hS_
                        obtain ⟨co17, eo17⟩ := HA_HO112.out
                        clear HA_HO112
                        subst eo17
                        refine norm_ (a' := ?_) ?_ ?_
                        rotate_left
                        · simp only [putAll, Act.put, List.setIfInBounds_toArray, List.set_cons_zero, List.set_cons_succ]
                          rfl
                        refine two_ (i := 5) (j := 8) (Ni := some 9) (Nj := some 12) #[true, true, true, true, true, true, true, true, false, false, false, true, true, false, false] #[true, true, true, true, true, false, true, true, true, false, false, true, true, false, false] rfl rfl rfl rfl (two_of HT_.out (by kernel_rfl)) (by decide) (by decide) (fun K hK => ?_) (fun K hK => ?_)
                        · skip
                          (have p114 : 0 ≤ (t113 : Int) := of_decide_eq_true (by first | (with_reducible assumption) | assumption); have q114 : t113 < (y110.length : Int) := of_decide_eq_true (by first | (with_reducible assumption) | assumption); obtain ⟨ad114, e114, hx114_0⟩ := Kd.at_string (Kd.R_reads' HO112.out).2.2 t113 p114 q114; obtain rfl : adz_v111 = ad114 := (by injection e114))
                          refine value_ (w1 := ?_) (v := ?_) (by rfl) rfl ?_ ?_
                          rotate_left 2
                          · go_simp
                            constructor
                            · rfl
                            · rfl
                          clear hx114_0
                          refine hK.out _ _ ⟨(blk_cell BK109.out 0).trans rfl, (blk_cell BK109.out 1).trans rfl, (blk_cell BK109.out 2).trans rfl⟩ (fun hHeld => ?_)
                          clear hK K
                          refine norm_ (a' := ?_) ?_ ?_
                          rotate_left
                          · show Act.put _ (some 9) _ = _
                            simp only [Act.put, List.setIfInBounds_toArray, List.set_cons_zero, List.set_cons_succ, i64_w, i32_w]
                            rfl
                          exact norm_ (by first | (simp only [putAll, Act.put, List.setIfInBounds_toArray, List.set_cons_zero, List.set_cons_succ]; done) | (simp only [putAll, Act.put, List.setIfInBounds_toArray, List.set_cons_zero, List.set_cons_succ]; rfl)) (hJ0_3_5 (.slice (some adz_v111) y110.length co17, adz_v111) _ ⟨hHeld, (by (with_reducible repeat (first | apply Kd.R_alloc | apply Kd.R_drewN | apply Kd.R_drew)); exact HO112.out), ⟨_, rfl⟩, (by (with_reducible repeat (first | refine blk_drewN ?_ _ | refine blk_drew ?_ | refine blk_alloc ?_ _)); exact BK109.out), (by repeat (first | (with_reducible first | exact HB.out | apply below_alloc | apply pw_below_drewN | apply below_drew1 | refine below_set ?_ GE109.out) | exact HB.out))⟩)
                        · skip
                          refine goes_ Try.func8 (by kernel_rfl) rfl #[.int .i64 a0_0] (by rfl) rfl rfl (by (try simp only [List.map_toArray, List.map_cons, List.map_nil]); first | done | rfl | (simp only [List.length_drop, List.length_take]; rfl)) ?_
                          with_reducible refine (spec_CodeWord.calls a0_0 t115 _ A5.out).mono ?_
                          rintro e w18 ⟨rfl, hb⟩
                          refine ⟨_, rfl, ?_⟩
                          have n0_ := Aside0.mk (Kd.R_below (by (with_reducible repeat (first | apply Kd.R_alloc | apply Kd.R_drewN | apply Kd.R_drew)); exact HO112.out) hb)
                          have n1_ := Aside0.mk (blk_below (g := gb109) (o := .cells #[.int .i64 a0_0, .string a0_1, .string a0_2] 29 (0, 0)) (by (with_reducible repeat (first | refine blk_drewN ?_ _ | refine blk_drew ?_ | refine blk_alloc ?_ _)); exact BK109.out) hb)
                          have n2_ := Aside0.mk (below_step (by repeat (first | (with_reducible first | exact HB.out | apply below_alloc | apply pw_below_drewN | apply below_drew1 | refine below_set ?_ GE109.out) | exact HB.out)) hb)
                          clear HO112
                          clear BK109
                          clear HB
                          have HO112 := n0_
                          have BK109 := n1_
                          have HB := n2_
                          clear n0_ n1_ n2_
                          (try clear hb)
                          (try clear hb2)
                          (try clear hk)
                          (try clear hi)
                          refine hK.out _ _ ⟨(blk_cell BK109.out 0).trans rfl, (blk_cell BK109.out 1).trans rfl, (blk_cell BK109.out 2).trans rfl⟩ (fun hHeld => ?_)
                          clear hK K
                          refine norm_ (a' := ?_) ?_ ?_
                          rotate_left
                          · show Act.put _ (some 12) _ = _
                            simp only [Act.put, List.setIfInBounds_toArray, List.set_cons_zero, List.set_cons_succ, i64_w, i32_w]
                            rfl
                          exact norm_ (by first | (simp only [putAll, Act.put, List.setIfInBounds_toArray, List.set_cons_zero, List.set_cons_succ]; done) | (simp only [putAll, Act.put, List.setIfInBounds_toArray, List.set_cons_zero, List.set_cons_succ]; rfl)) (hJ0_3_8 (.slice (some adz_v111) y110.length co17, adz_v111) _ ⟨hHeld, (by (with_reducible repeat (first | apply Kd.R_alloc | apply Kd.R_drewN | apply Kd.R_drew)); exact HO112.out), ⟨_, rfl⟩, (by (with_reducible repeat (first | refine blk_drewN ?_ _ | refine blk_drew ?_ | refine blk_alloc ?_ _)); exact BK109.out), (by repeat (first | (with_reducible first | exact HB.out | apply below_alloc | apply pw_below_drewN | apply below_drew1 | refine below_set ?_ GE109.out) | exact HB.out))⟩)
                    · skip
                      rintro ⟨v111, adz_v111⟩ w17 ⟨hS_, h0_, h1_, h2_, h3_⟩
                      have n0_ : Aside0 (Kd.R Kd.string 9 w17 w.heap.size (fun _ => True) v111 y110) := ⟨h0_⟩
                      have n1_ : Aside0 (∃ c_, (v111 : Value) = .slice (some adz_v111) y110.length c_) := ⟨h1_⟩
                      have n2_ : Aside0 (w17.heap[gb109]? = some (.cells #[.int .i64 a0_0, .string a0_1, .string a0_2] 29 (0, 0))) := ⟨h2_⟩
                      have n3_ : Aside0 (Below w.heap.size w w17) := ⟨h3_⟩
                      clear BK109
                      clear HB
                      clear h0_ h1_ h2_ h3_
                      have HO112 := n0_
                      have HA_HO112 := n1_
                      have BK109 := n2_
                      have HB := n3_
                      clear n0_ n1_ n2_ n3_
                      have hHeld : w17.cell? ⟨gb109, 0, none⟩ = some (.int .i64 a0_0) ∧ w17.cell? ⟨gb109, 1, none⟩ = some (.string a0_1) ∧ w17.cell? ⟨gb109, 2, none⟩ = some (.string a0_2) := hS_
                      obtain ⟨co18, eo18⟩ := HA_HO112.out
                      clear HA_HO112
                      subst eo18
                      refine norm_ (a' := ?_) ?_ ?_
                      rotate_left
                      · simp only [putAll, Act.put, List.setIfInBounds_toArray, List.set_cons_zero, List.set_cons_succ]
                        rfl
                      refine one_ (i := 5) (N := some 9) #[true, true, true, true, true, true, true, true, true, false, false, true, true, false, false] rfl rfl (one_of HT_.out (by kernel_rfl)) (by decide) (fun K hK => ?_)
                      (have p114 : 0 ≤ (t113 : Int) := of_decide_eq_true (by first | (with_reducible assumption) | assumption); have q114 : t113 < (y110.length : Int) := of_decide_eq_true (by first | (with_reducible assumption) | assumption); obtain ⟨ad114, e114, hx114_0⟩ := Kd.at_string (Kd.R_reads' HO112.out).2.2 t113 p114 q114; obtain rfl : adz_v111 = ad114 := (by injection e114))
                      refine value_ (w1 := ?_) (v := ?_) (by rfl) rfl ?_ ?_
                      rotate_left 2
                      · go_simp
                        constructor
                        · rfl
                        · rfl
                      clear hx114_0
                      refine hK.out _ _ ⟨(blk_cell BK109.out 0).trans rfl, (blk_cell BK109.out 1).trans rfl, (blk_cell BK109.out 2).trans rfl⟩ (fun hHeld => ?_)
                      clear hK K
                      refine norm_ (a' := ?_) ?_ ?_
                      rotate_left
                      · show Act.put _ (some 9) _ = _
                        simp only [Act.put, List.setIfInBounds_toArray, List.set_cons_zero, List.set_cons_succ, i64_w, i32_w]
                        rfl
                      exact norm_ (by first | (simp only [putAll, Act.put, List.setIfInBounds_toArray, List.set_cons_zero, List.set_cons_succ]; done) | (simp only [putAll, Act.put, List.setIfInBounds_toArray, List.set_cons_zero, List.set_cons_succ]; rfl)) (hJ0_3_5_8 (.slice (some adz_v111) y110.length co18, adz_v111) _ ⟨hHeld, (by (with_reducible repeat (first | apply Kd.R_alloc | apply Kd.R_drewN | apply Kd.R_drew)); exact HO112.out), ⟨_, rfl⟩, (by (with_reducible repeat (first | refine blk_drewN ?_ _ | refine blk_drew ?_ | refine blk_alloc ?_ _)); exact BK109.out), (by repeat (first | (with_reducible first | exact HB.out | apply below_alloc | apply pw_below_drewN | apply below_drew1 | refine below_set ?_ GE109.out) | exact HB.out))⟩)
                  · skip
                    rintro ⟨v111, adz_v111⟩ w16 ⟨hS_, h0_, h1_, h2_, h3_⟩
                    have n0_ : Aside0 (Kd.R Kd.string 9 w16 w.heap.size (fun _ => True) v111 y110) := ⟨h0_⟩
                    have n1_ : Aside0 (∃ c_, (v111 : Value) = .slice (some adz_v111) y110.length c_) := ⟨h1_⟩
                    have n2_ : Aside0 (w16.heap[gb109]? = some (.cells #[.int .i64 a0_0, .string a0_1, .string a0_2] 29 (0, 0))) := ⟨h2_⟩
                    have n3_ : Aside0 (Below w.heap.size w w16) := ⟨h3_⟩
                    clear BK109
                    clear HB
                    clear h0_ h1_ h2_ h3_
                    have HO112 := n0_
                    have HA_HO112 := n1_
                    have BK109 := n2_
                    have HB := n3_
                    clear n0_ n1_ n2_ n3_
                    have hHeld : w16.cell? ⟨gb109, 0, none⟩ = some (.int .i64 a0_0) ∧ w16.cell? ⟨gb109, 1, none⟩ = some (.string a0_1) ∧ w16.cell? ⟨gb109, 2, none⟩ = some (.string a0_2) := hS_
                    obtain ⟨co17, eo17⟩ := HA_HO112.out
                    clear HA_HO112
                    subst eo17
                    refine norm_ (a' := ?_) ?_ ?_
                    rotate_left
                    · simp only [putAll, Act.put, List.setIfInBounds_toArray, List.set_cons_zero, List.set_cons_succ]
                      rfl
                    refine one_ (i := 8) (N := some 12) #[true, true, true, true, true, true, true, true, true, false, false, true, true, false, false] rfl rfl (one_of HT_.out (by kernel_rfl)) (by decide) (fun K hK => ?_)
                    refine goes_ Try.func8 (by kernel_rfl) rfl #[.int .i64 a0_0] (by rfl) rfl rfl (by (try simp only [List.map_toArray, List.map_cons, List.map_nil]); first | done | rfl | (simp only [List.length_drop, List.length_take]; rfl)) ?_
                    with_reducible refine (spec_CodeWord.calls a0_0 t115 _ A5.out).mono ?_
                    rintro e w18 ⟨rfl, hb⟩
                    refine ⟨_, rfl, ?_⟩
                    have n0_ := Aside0.mk (Kd.R_below (by (with_reducible repeat (first | apply Kd.R_alloc | apply Kd.R_drewN | apply Kd.R_drew)); exact HO112.out) hb)
                    have n1_ := Aside0.mk (blk_below (g := gb109) (o := .cells #[.int .i64 a0_0, .string a0_1, .string a0_2] 29 (0, 0)) (by (with_reducible repeat (first | refine blk_drewN ?_ _ | refine blk_drew ?_ | refine blk_alloc ?_ _)); exact BK109.out) hb)
                    have n2_ := Aside0.mk (below_step (by repeat (first | (with_reducible first | exact HB.out | apply below_alloc | apply pw_below_drewN | apply below_drew1 | refine below_set ?_ GE109.out) | exact HB.out)) hb)
                    clear HO112
                    clear BK109
                    clear HB
                    have HO112 := n0_
                    have BK109 := n1_
                    have HB := n2_
                    clear n0_ n1_ n2_
                    (try clear hb)
                    (try clear hb2)
                    (try clear hk)
                    (try clear hi)
                    refine hK.out _ _ ⟨(blk_cell BK109.out 0).trans rfl, (blk_cell BK109.out 1).trans rfl, (blk_cell BK109.out 2).trans rfl⟩ (fun hHeld => ?_)
                    clear hK K
                    refine norm_ (a' := ?_) ?_ ?_
                    rotate_left
                    · show Act.put _ (some 12) _ = _
                      simp only [Act.put, List.setIfInBounds_toArray, List.set_cons_zero, List.set_cons_succ, i64_w, i32_w]
                      rfl
                    exact norm_ (by first | (simp only [putAll, Act.put, List.setIfInBounds_toArray, List.set_cons_zero, List.set_cons_succ]; done) | (simp only [putAll, Act.put, List.setIfInBounds_toArray, List.set_cons_zero, List.set_cons_succ]; rfl)) (hJ0_3_5_8 (.slice (some adz_v111) y110.length co17, adz_v111) _ ⟨hHeld, (by (with_reducible repeat (first | apply Kd.R_alloc | apply Kd.R_drewN | apply Kd.R_drew)); exact HO112.out), ⟨_, rfl⟩, (by (with_reducible repeat (first | refine blk_drewN ?_ _ | refine blk_drew ?_ | refine blk_alloc ?_ _)); exact BK109.out), (by repeat (first | (with_reducible first | exact HB.out | apply below_alloc | apply pw_below_drewN | apply below_drew1 | refine below_set ?_ GE109.out) | exact HB.out))⟩)
                rintro ⟨v111, adz_v111⟩ w17 ⟨hS_, h0_, h1_, h2_, h3_⟩
                have n0_ : Aside0 (Kd.R Kd.string 9 w17 w.heap.size (fun _ => True) v111 y110) := ⟨h0_⟩
                have n1_ : Aside0 (∃ c_, (v111 : Value) = .slice (some adz_v111) y110.length c_) := ⟨h1_⟩
                have n2_ : Aside0 (w17.heap[gb109]? = some (.cells #[.int .i64 a0_0, .string a0_1, .string a0_2] 29 (0, 0))) := ⟨h2_⟩
                have n3_ : Aside0 (Below w.heap.size w w17) := ⟨h3_⟩
                clear BK109
                clear HB
                clear h0_ h1_ h2_ h3_
                have HO112 := n0_
                have HA_HO112 := n1_
                have BK109 := n2_
                have HB := n3_
                clear n0_ n1_ n2_ n3_
                have hHeld : w17.cell? ⟨gb109, 0, none⟩ = some (.int .i64 a0_0) ∧ w17.cell? ⟨gb109, 1, none⟩ = some (.string a0_1) ∧ w17.cell? ⟨gb109, 2, none⟩ = some (.string a0_2) := hS_
                obtain ⟨co18, eo18⟩ := HA_HO112.out
                clear HA_HO112
                subst eo18
                refine norm_ (a' := ?_) ?_ ?_
                rotate_left
                · simp only [putAll, Act.put, List.setIfInBounds_toArray, List.set_cons_zero, List.set_cons_succ]
                  rfl
                refine pure_ (i := 9) (N := some 13) (v := ?_) (a' := ?_) #[true, true, true, true, true, true, true, true, true, true, false, true, true, false, false] rfl rfl (any_of HT_.out (by kernel_rfl)) (fun _ _ _ h => h) (Or.inl ⟨by rfl, ?_⟩) ?_ ?_
                rotate_left
                · intro w'
                  first | (go_simp; with_reducible rfl; done) | (go_simp; rw [if_neg (by simp only [ByteArray.size_append] at *; omega)]; done) | (go_simp; rw [if_neg (by simp only [ByteArray.size_append, show (⟨#[32]⟩ : ByteArray).size = 1 from rfl] at *; omega)])
                rotate_left
                · simp only [Act.put, List.setIfInBounds_toArray, List.set_cons_zero, List.set_cons_succ, i64_w, i32_w]
                  rfl
                refine pure_ (i := 10) (N := some 14) (v := ?_) (a' := ?_) #[true, true, true, true, true, true, true, true, true, true, true, true, true, false, false] rfl rfl (any_of HT_.out (by kernel_rfl)) (fun _ _ _ h => h) (Or.inl ⟨by rfl, ?_⟩) ?_ ?_
                rotate_left
                · intro w'
                  first | (go_simp; with_reducible rfl; done) | (go_simp; rw [if_neg (by simp only [ByteArray.size_append] at *; omega)]; done) | (go_simp; rw [if_neg (by simp only [ByteArray.size_append, show (⟨#[32]⟩ : ByteArray).size = 1 from rfl] at *; omega)])
                rotate_left
                · simp only [Act.put, List.setIfInBounds_toArray, List.set_cons_zero, List.set_cons_succ, i64_w, i32_w]
                  rfl
                refine pure_ (i := 13) (N := some 17) (v := ?_) (a' := ?_) #[true, true, true, true, true, true, true, true, true, true, true, true, true, true, false] rfl rfl (any_of HT_.out (by kernel_rfl)) (fun _ _ _ h => h) (Or.inl ⟨by rfl, ?_⟩) ?_ ?_
                rotate_left
                · intro w'
                  first | (go_simp; with_reducible rfl; done) | (go_simp; rw [if_neg (by simp only [ByteArray.size_append] at *; omega)]; done) | (go_simp; rw [if_neg (by simp only [ByteArray.size_append, show (⟨#[32]⟩ : ByteArray).size = 1 from rfl] at *; omega)])
                rotate_left
                · simp only [Act.put, List.setIfInBounds_toArray, List.set_cons_zero, List.set_cons_succ, i64_w, i32_w]
                  rfl
                refine pure_ (i := 14) (N := some 3) (v := ?_) (a' := ?_) #[true, true, true, true, true, true, true, true, true, true, true, true, true, true, true] rfl rfl (any_of HT_.out (by kernel_rfl)) (fun _ _ _ h => h) (Or.inl ⟨by rfl, ?_⟩) ?_ ?_
                rotate_left
                · intro w'
                  first | (go_simp; with_reducible rfl; done) | (go_simp; rw [if_neg (by simp only [ByteArray.size_append] at *; omega)]; done) | (go_simp; rw [if_neg (by simp only [ByteArray.size_append, show (⟨#[32]⟩ : ByteArray).size = 1 from rfl] at *; omega)])
                rotate_left
                · simp only [Act.put, List.setIfInBounds_toArray, List.set_cons_zero, List.set_cons_succ, i64_w, i32_w]
                  rfl
                refine done_ (done_of HT_.out (by kernel_rfl)) ?_
                have hcz19_0 : w17.cell? ⟨gb109, 0, none⟩ = some (.int .i64 a0_0) := (blk_cell BK109.out 0).trans rfl
                have hcz19_1 : w17.cell? ⟨gb109, 1, none⟩ = some (.string a0_1) := (blk_cell BK109.out 1).trans rfl
                have hcz19_2 : w17.cell? ⟨gb109, 2, none⟩ = some (.string a0_2) := (blk_cell BK109.out 2).trans rfl
                have hfz19_0 := blk_frozen BK109.out 0
                have hfz19_1 := blk_frozen BK109.out 1
                have hfz19_2 := blk_frozen BK109.out 2
                try go_wp2
                all_goals try (exfalso; have hkc10_ := c10; simp only [ByteArray.size_append, show (⟨#[10]⟩ : ByteArray).size = 1 from rfl, show (⟨#[32]⟩ : ByteArray).size = 1 from rfl] at hkc10_; omega)
                go_ret
                exact ⟨by first | rfl | (simp [errW_none, errW_some] <;> rfl) | (simp [*, errW_none, errW_some] <;> rfl), by repeat (first | (with_reducible first | exact HB.out | apply below_alloc | apply pw_below_drewN | apply below_drew1 | refine below_set ?_ GE109.out) | exact HB.out)⟩
              · rw [if_neg c10] at H
                exact absurd H (by simp)
            · rw [if_neg c9] at H
              have c9b0 : (a0_2.toList == ([] : List UInt8)) = false := beq_eq_false_iff_ne.mpr c9
              have c9b1 : (a0_2.toList != ([] : List UInt8)) = true := bne_iff_ne.mpr c9
              by_cases c20 : ((((rdOf ByteArray.empty y110 t113) ++ t115) ++ (⟨#[32]⟩ : ByteArray)) ++ a0_1).size + 1 ≤ 9223372036854775807
              · rw [if_pos c20] at H
                have c20b0 := eq_true c20
                have c20b1 : decide (((((rdOf ByteArray.empty y110 t113) ++ t115) ++ (⟨#[32]⟩ : ByteArray)) ++ a0_1).size + 1 ≤ 9223372036854775807) = true := decide_eq_true c20
                try have c20b2 : (9223372036854775807 < ((((rdOf ByteArray.empty y110 t113) ++ t115) ++ (⟨#[32]⟩ : ByteArray)) ++ a0_1).size + 1) = False := eq_false (Nat.not_lt.2 c20)
                try simp only [ByteArray.size_append] at c20b2
                by_cases c21 : (((((rdOf ByteArray.empty y110 t113) ++ t115) ++ (⟨#[32]⟩ : ByteArray)) ++ a0_1) ++ (⟨#[32]⟩ : ByteArray)).size + a0_2.size ≤ 9223372036854775807
                · rw [if_pos c21] at H
                  have c21b0 := eq_true c21
                  have c21b1 : decide ((((((rdOf ByteArray.empty y110 t113) ++ t115) ++ (⟨#[32]⟩ : ByteArray)) ++ a0_1) ++ (⟨#[32]⟩ : ByteArray)).size + a0_2.size ≤ 9223372036854775807) = true := decide_eq_true c21
                  try have c21b2 : (9223372036854775807 < (((((rdOf ByteArray.empty y110 t113) ++ t115) ++ (⟨#[32]⟩ : ByteArray)) ++ a0_1) ++ (⟨#[32]⟩ : ByteArray)).size + a0_2.size) = False := eq_false (Nat.not_lt.2 c21)
                  try simp only [ByteArray.size_append] at c21b2
                  by_cases c22 : ((((((rdOf ByteArray.empty y110 t113) ++ t115) ++ (⟨#[32]⟩ : ByteArray)) ++ a0_1) ++ (⟨#[32]⟩ : ByteArray)) ++ a0_2).size + 1 ≤ 9223372036854775807
                  · rw [if_pos c22] at H
                    have c22b0 := eq_true c22
                    have c22b1 : decide (((((((rdOf ByteArray.empty y110 t113) ++ t115) ++ (⟨#[32]⟩ : ByteArray)) ++ a0_1) ++ (⟨#[32]⟩ : ByteArray)) ++ a0_2).size + 1 ≤ 9223372036854775807) = true := decide_eq_true c22
                    try have c22b2 : (9223372036854775807 < ((((((rdOf ByteArray.empty y110 t113) ++ t115) ++ (⟨#[32]⟩ : ByteArray)) ++ a0_1) ++ (⟨#[32]⟩ : ByteArray)) ++ a0_2).size + 1) = False := eq_false (Nat.not_lt.2 c22)
                    try simp only [ByteArray.size_append] at c22b2
                    obtain rfl := Option.some.inj H
                    go_enter Try.func13, Try.ntmps13
                    try go_wp2_with (first | ((with_reducible refine gate_dst (N := 1) rfl ?_); refine box_event ?hg (N := 1) ?hd (cs := #[.int .i64 a0_0, .string a0_1, .string a0_2]) (t := 29) ?hr ?_; (case hd => rfl); (case hg => rfl); (case hr => first | (go_simp; done) | (go_simp; rfl)); intro gb109 hg w23 hbox hb; have n0_ := Aside0.mk (below_step (by repeat (first | (with_reducible first | exact HB.out | apply below_alloc | apply pw_below_drewN | apply below_drew1) | exact HB.out)) hb); have n1_ := Aside0.mk (hbox); have n2_ := Aside0.mk ((by rw [hg]; exact (below_size (by repeat (first | (with_reducible first | exact HB.out | apply below_alloc | apply pw_below_drewN | apply below_drew1) | exact HB.out))) : w.heap.size ≤ gb109)); have n3_ := Aside0.mk ((by rw [hg]; exact (below_size (by repeat (first | (with_reducible first | exact HB.out | apply below_alloc | apply pw_below_drewN | apply below_drew1) | exact HB.out))) : w.heap.size ≤ gb109)); clear HB; have HB := n0_; have BK109 := n1_; have GW109 := n2_; have GE109 := n3_; clear n0_ n1_ n2_ n3_; clear hb hbox hg))
                    have pi114 : (0 ≤ (t113 : Int)) = True := eq_true (of_decide_eq_true (by first | (with_reducible assumption) | assumption))
                    have qi114 : (t113 < (y110.length : Int)) = True := eq_true (of_decide_eq_true (by first | (with_reducible assumption) | assumption))
                    have n0_ := Aside0.mk (blk_drew BK109.out)
                    have n1_ := Aside0.mk (below_drew1 HB.out)
                    clear BK109
                    clear HB
                    have BK109 := n0_
                    have HB := n1_
                    clear n0_ n1_
                    refine start_ (n := 15) (S := fun w' => w'.cell? ⟨gb109, 0, none⟩ = some (.int .i64 a0_0) ∧ w'.cell? ⟨gb109, 1, none⟩ = some (.string a0_1) ∧ w'.cell? ⟨gb109, 2, none⟩ = some (.string a0_2)) (ds := []) #[false, false, false, false, false, false, false, false, false, false, false, false, false, false, false] (by kernel_rfl) rfl rfl ⟨(blk_cell BK109.out 0).trans rfl, (blk_cell BK109.out 1).trans rfl, (blk_cell BK109.out 2).trans rfl⟩ (fun hHeld => ?_); refine with_tabW spec_ChangeLine.tab1 spec_ChangeLine.bits1 (fun HT_ HW_ => ?_)
                    generalize w23.drew = w24 at BK109 HB hHeld ⊢
                    refine pure_ (i := 1) (N := some 5) (v := ?_) (a' := ?_) #[false, true, false, false, false, false, false, false, false, false, false, false, false, false, false] rfl rfl (any_of HT_.out (by kernel_rfl)) (fun _ _ _ h => h) (Or.inl ⟨by rfl, ?_⟩) ?_ ?_
                    rotate_left
                    · intro w'
                      first | (go_simp; with_reducible rfl; done) | (go_simp; rw [if_neg (by simp only [ByteArray.size_append] at *; omega)]; done) | (go_simp; rw [if_neg (by simp only [ByteArray.size_append, show (⟨#[32]⟩ : ByteArray).size = 1 from rfl] at *; omega)])
                    rotate_left
                    · simp only [Act.put, List.setIfInBounds_toArray, List.set_cons_zero, List.set_cons_succ, i64_w, i32_w]
                      rfl
                    refine pure_ (i := 6) (N := some 10) (v := ?_) (a' := ?_) #[false, true, false, false, false, false, true, false, false, false, false, false, false, false, false] rfl rfl (any_of HT_.out (by kernel_rfl)) (fun _ _ _ h => h) (Or.inl ⟨by rfl, ?_⟩) ?_ ?_
                    rotate_left
                    · intro w'
                      first | (go_simp; with_reducible rfl; done) | (go_simp; rw [if_neg (by simp only [ByteArray.size_append] at *; omega)]; done) | (go_simp; rw [if_neg (by simp only [ByteArray.size_append, show (⟨#[32]⟩ : ByteArray).size = 1 from rfl] at *; omega)])
                    rotate_left
                    · simp only [Act.put, List.setIfInBounds_toArray, List.set_cons_zero, List.set_cons_succ, i64_w, i32_w]
                      rfl
                    refine pure_ (i := 11) (N := some 15) (v := ?_) (a' := ?_) #[false, true, false, false, false, false, true, false, false, false, false, true, false, false, false] rfl rfl (any_of HT_.out (by kernel_rfl)) (fun _ _ _ h => h) (Or.inl ⟨by rfl, ?_⟩) ?_ ?_
                    rotate_left
                    · intro w'
                      first | (go_simp; with_reducible rfl; done) | (go_simp; rw [if_neg (by simp only [ByteArray.size_append] at *; omega)]; done) | (go_simp; rw [if_neg (by simp only [ByteArray.size_append, show (⟨#[32]⟩ : ByteArray).size = 1 from rfl] at *; omega)])
                    rotate_left
                    · simp only [Act.put, List.setIfInBounds_toArray, List.set_cons_zero, List.set_cons_succ, i64_w, i32_w]
                      rfl
                    refine take_ (i := 2) (N := some 6) (v := ?_) (a' := ?_) #[false, true, true, false, false, false, true, false, false, false, false, true, false, false, false] rfl rfl (take_ofW HT_.out HW_.out (by kernel_rfl)) (fun _ _ _ h => h) (Or.inl ⟨by rfl, ?_⟩) hHeld ?_ ?_
                    rotate_left
                    · rintro w' ⟨s0, s1, s2⟩
                      first | (go_simp; with_reducible rfl; done) | (go_simp; rw [if_neg (by simp only [ByteArray.size_append] at *; omega)]; done) | (go_simp; rw [if_neg (by simp only [ByteArray.size_append, show (⟨#[32]⟩ : ByteArray).size = 1 from rfl] at *; omega)])
                    rotate_left
                    · simp only [Act.put, List.setIfInBounds_toArray, List.set_cons_zero, List.set_cons_succ, i64_w, i32_w]
                      rfl
                    refine take_ (i := 7) (N := some 11) (v := ?_) (a' := ?_) #[false, true, true, false, false, false, true, true, false, false, false, true, false, false, false] rfl rfl (take_ofW HT_.out HW_.out (by kernel_rfl)) (fun _ _ _ h => h) (Or.inl ⟨by rfl, ?_⟩) hHeld ?_ ?_
                    rotate_left
                    · rintro w' ⟨s0, s1, s2⟩
                      first | (go_simp; with_reducible rfl; done) | (go_simp; rw [if_neg (by simp only [ByteArray.size_append] at *; omega)]; done) | (go_simp; rw [if_neg (by simp only [ByteArray.size_append, show (⟨#[32]⟩ : ByteArray).size = 1 from rfl] at *; omega)])
                    rotate_left
                    · simp only [Act.put, List.setIfInBounds_toArray, List.set_cons_zero, List.set_cons_succ, i64_w, i32_w]
                      rfl
                    refine take_ (i := 12) (N := some 16) (v := ?_) (a' := ?_) #[false, true, true, false, false, false, true, true, false, false, false, true, true, false, false] rfl rfl (take_ofW HT_.out HW_.out (by kernel_rfl)) (fun _ _ _ h => h) (Or.inl ⟨by rfl, ?_⟩) hHeld ?_ ?_
                    rotate_left
                    · rintro w' ⟨s0, s1, s2⟩
                      first | (go_simp; with_reducible rfl; done) | (go_simp; rw [if_neg (by simp only [ByteArray.size_append] at *; omega)]; done) | (go_simp; rw [if_neg (by simp only [ByteArray.size_append, show (⟨#[32]⟩ : ByteArray).size = 1 from rfl] at *; omega)])
                    rotate_left
                    · simp only [Act.put, List.setIfInBounds_toArray, List.set_cons_zero, List.set_cons_succ, i64_w, i32_w]
                      rfl
                    refine join_ (σ := Value × Addr) 4 #[true, true, true, true, true, true, true, true, true, false, false, true, true, false, false] (fun s_ => [(4, s_.1), (7, .int .i64 t113), (9, .string (rdOf ByteArray.empty y110 t113)), (12, .string t115), (8, .pointer (some (s_.2.add (t113).toNat)))]) (fun s_ w' => (w'.cell? ⟨gb109, 0, none⟩ = some (.int .i64 a0_0) ∧ w'.cell? ⟨gb109, 1, none⟩ = some (.string a0_1) ∧ w'.cell? ⟨gb109, 2, none⟩ = some (.string a0_2)) ∧ (Kd.R Kd.string 9 w' w.heap.size (fun _ => True) s_.1 y110) ∧ (∃ c_, (s_.1 : Value) = .slice (some s_.2) y110.length c_) ∧ (w'.heap[gb109]? = some (.cells #[.int .i64 a0_0, .string a0_1, .string a0_2] 29 (0, 0))) ∧ (Below w.heap.size w w')) ?_ ?_
                    rotate_left
                    · intro hJ0_3_5_8
                      refine join_ (σ := Value × Addr) 5 #[true, true, true, true, true, true, true, true, false, false, false, true, true, false, false] (fun s_ => [(4, s_.1), (7, .int .i64 t113), (9, .string (rdOf ByteArray.empty y110 t113)), (8, .pointer (some (s_.2.add (t113).toNat)))]) (fun s_ w' => (w'.cell? ⟨gb109, 0, none⟩ = some (.int .i64 a0_0) ∧ w'.cell? ⟨gb109, 1, none⟩ = some (.string a0_1) ∧ w'.cell? ⟨gb109, 2, none⟩ = some (.string a0_2)) ∧ (Kd.R Kd.string 9 w' w.heap.size (fun _ => True) s_.1 y110) ∧ (∃ c_, (s_.1 : Value) = .slice (some s_.2) y110.length c_) ∧ (w'.heap[gb109]? = some (.cells #[.int .i64 a0_0, .string a0_1, .string a0_2] 29 (0, 0))) ∧ (Below w.heap.size w w')) ?_ ?_
                      rotate_left
                      · intro hJ0_3_5
                        refine join_ (σ := Value × Addr) 5 #[true, true, true, true, true, false, true, true, true, false, false, true, true, false, false] (fun s_ => [(4, s_.1), (7, .int .i64 t113), (12, .string t115), (8, .pointer (some (s_.2.add (t113).toNat)))]) (fun s_ w' => (w'.cell? ⟨gb109, 0, none⟩ = some (.int .i64 a0_0) ∧ w'.cell? ⟨gb109, 1, none⟩ = some (.string a0_1) ∧ w'.cell? ⟨gb109, 2, none⟩ = some (.string a0_2)) ∧ (Kd.R Kd.string 9 w' w.heap.size (fun _ => True) s_.1 y110) ∧ (∃ c_, (s_.1 : Value) = .slice (some s_.2) y110.length c_) ∧ (w'.heap[gb109]? = some (.cells #[.int .i64 a0_0, .string a0_1, .string a0_2] 29 (0, 0))) ∧ (Below w.heap.size w w')) ?_ ?_
                        rotate_left
                        · intro hJ0_3_8
                          refine join_ (σ := Value × Addr) 6 #[true, true, true, true, true, false, true, true, false, false, false, true, true, false, false] (fun s_ => [(4, s_.1), (7, .int .i64 t113), (8, .pointer (some (s_.2.add (t113).toNat)))]) (fun s_ w' => (w'.cell? ⟨gb109, 0, none⟩ = some (.int .i64 a0_0) ∧ w'.cell? ⟨gb109, 1, none⟩ = some (.string a0_1) ∧ w'.cell? ⟨gb109, 2, none⟩ = some (.string a0_2)) ∧ (Kd.R Kd.string 9 w' w.heap.size (fun _ => True) s_.1 y110) ∧ (∃ c_, (s_.1 : Value) = .slice (some s_.2) y110.length c_) ∧ (w'.heap[gb109]? = some (.cells #[.int .i64 a0_0, .string a0_1, .string a0_2] 29 (0, 0))) ∧ (Below w.heap.size w w')) ?_ ?_
                          rotate_left
                          · intro hJ0_3
                            refine join_ (σ := Unit) 7 #[false, true, true, true, false, false, true, true, true, false, false, true, true, false, false] (fun s_ => [(7, .int .i64 t113), (12, .string t115)]) (fun s_ w' => (w'.cell? ⟨gb109, 0, none⟩ = some (.int .i64 a0_0) ∧ w'.cell? ⟨gb109, 1, none⟩ = some (.string a0_1) ∧ w'.cell? ⟨gb109, 2, none⟩ = some (.string a0_2)) ∧ (w'.heap[gb109]? = some (.cells #[.int .i64 a0_0, .string a0_1, .string a0_2] 29 (0, 0))) ∧ (Below w.heap.size w w')) ?_ ?_
                            rotate_left
                            · intro hJ3_8
                              refine join_ (σ := Value × Addr) 8 #[true, true, true, false, false, false, true, true, false, false, false, true, true, false, false] (fun s_ => [(4, s_.1)]) (fun s_ w' => (w'.cell? ⟨gb109, 0, none⟩ = some (.int .i64 a0_0) ∧ w'.cell? ⟨gb109, 1, none⟩ = some (.string a0_1) ∧ w'.cell? ⟨gb109, 2, none⟩ = some (.string a0_2)) ∧ (Kd.R Kd.string 9 w' w.heap.size (fun _ => True) s_.1 y110) ∧ (∃ c_, (s_.1 : Value) = .slice (some s_.2) y110.length c_) ∧ (w'.heap[gb109]? = some (.cells #[.int .i64 a0_0, .string a0_1, .string a0_2] 29 (0, 0))) ∧ (Below w.heap.size w w')) ?_ ?_
                              rotate_left
                              · intro hJ0
                                refine join_ (σ := Unit) 8 #[false, true, true, true, false, false, true, true, false, false, false, true, true, false, false] (fun s_ => [(7, .int .i64 t113)]) (fun s_ w' => (w'.cell? ⟨gb109, 0, none⟩ = some (.int .i64 a0_0) ∧ w'.cell? ⟨gb109, 1, none⟩ = some (.string a0_1) ∧ w'.cell? ⟨gb109, 2, none⟩ = some (.string a0_2)) ∧ (w'.heap[gb109]? = some (.cells #[.int .i64 a0_0, .string a0_1, .string a0_2] 29 (0, 0))) ∧ (Below w.heap.size w w')) ?_ ?_
                                rotate_left
                                · intro hJ3
                                  refine two_ (i := 0) (j := 3) (Ni := some 4) (Nj := some 7) #[true, true, true, false, false, false, true, true, false, false, false, true, true, false, false] #[false, true, true, true, false, false, true, true, false, false, false, true, true, false, false] rfl rfl rfl rfl (two_of HT_.out (by kernel_rfl)) (by decide) (by decide) (fun K hK => ?_) (fun K hK => ?_)
                                  · skip
                                    refine Kd.R_lit_step Kd.string _ 9 ?hg (N := 4) ?hd (xs := ([(⟨#[63, 32]⟩ : ByteArray), (⟨#[98, 114, 101, 97, 107, 115, 32]⟩ : ByteArray), (⟨#[114, 105, 115, 107, 121, 32]⟩ : ByteArray), (⟨#[115, 97, 102, 101, 32]⟩ : ByteArray)] : List ByteArray)) (inner := [.string (⟨#[63, 32]⟩ : ByteArray), .string (⟨#[98, 114, 101, 97, 107, 115, 32]⟩ : ByteArray), .string (⟨#[114, 105, 115, 107, 121, 32]⟩ : ByteArray), .string (⟨#[115, 97, 102, 101, 32]⟩ : ByteArray)]) (ok := fun _ => True) (okp := fun _ => True) ?hr ?hp (fun _ hk => hk) trivial (Below.refl _ _) (Nat.le_refl _) (by simp) ?_; (case hd => rfl); (case hg => rfl); (case hr => first | (go_simp; done) | (go_simp; rfl)); (case hp => exact (Reps.one (show Kd.M Kd.string _ _ _ (⟨#[63, 32]⟩ : ByteArray) [.string (⟨#[63, 32]⟩ : ByteArray)] from rfl) (Reps.one (show Kd.M Kd.string _ _ _ (⟨#[98, 114, 101, 97, 107, 115, 32]⟩ : ByteArray) [.string (⟨#[98, 114, 101, 97, 107, 115, 32]⟩ : ByteArray)] from rfl) (Reps.one (show Kd.M Kd.string _ _ _ (⟨#[114, 105, 115, 107, 121, 32]⟩ : ByteArray) [.string (⟨#[114, 105, 115, 107, 121, 32]⟩ : ByteArray)] from rfl) (Reps.one (show Kd.M Kd.string _ _ _ (⟨#[115, 97, 102, 101, 32]⟩ : ByteArray) [.string (⟨#[115, 97, 102, 101, 32]⟩ : ByteArray)] from rfl) (Reps.none _ _))))))
                                    intro v111 w25 ho26 hb hg_ hnew_
                                    clear hg_ hnew_
                                    (first | rw [← Ny110.out] at ho26 | (simp only [Int.reduceToNat] at ho26; rw [← Ny110.out] at ho26))
                                    have n0_ := Aside0.mk (Kd.R_lower ho26 (below_size (by repeat (first | (with_reducible first | exact HB.out | apply below_alloc | apply pw_below_drewN | apply below_drew1 | refine below_set ?_ GE109.out) | exact HB.out))))
                                    have n1_ := Aside0.mk (blk_below (g := gb109) (o := .cells #[.int .i64 a0_0, .string a0_1, .string a0_2] 29 (0, 0)) (by (with_reducible repeat (first | refine blk_drewN ?_ _ | refine blk_drew ?_ | refine blk_alloc ?_ _)); exact BK109.out) hb)
                                    have n2_ := Aside0.mk (below_step (by repeat (first | (with_reducible first | exact HB.out | apply below_alloc | apply pw_below_drewN | apply below_drew1 | refine below_set ?_ GE109.out) | exact HB.out)) hb)
                                    clear BK109
                                    clear HB
                                    have HO112 := n0_
                                    have BK109 := n1_
                                    have HB := n2_
                                    clear n0_ n1_ n2_
                                    clear hb ho26
                                    obtain ⟨Ao27, co27, eo27⟩ := Kd.R_slice HO112.out
                                    subst eo27
                                    obtain ⟨ado27, fo27, _⟩ := Kd.at_string (Kd.R_reads' HO112.out).2.2 0 (by decide) (by rw [Ny110.out]; simp)
                                    cases fo27
                                    refine hK.out _ _ ⟨(blk_cell BK109.out 0).trans rfl, (blk_cell BK109.out 1).trans rfl, (blk_cell BK109.out 2).trans rfl⟩ (fun hHeld => ?_)
                                    clear hK K
                                    refine norm_ (a' := ?_) ?_ ?_
                                    rotate_left
                                    · show Act.put _ (some 4) _ = _
                                      simp only [Act.put, List.setIfInBounds_toArray, List.set_cons_zero, List.set_cons_succ, i64_w, i32_w]
                                      rfl
                                    exact norm_ (by first | (simp only [putAll, Act.put, List.setIfInBounds_toArray, List.set_cons_zero, List.set_cons_succ]; done) | (simp only [putAll, Act.put, List.setIfInBounds_toArray, List.set_cons_zero, List.set_cons_succ]; rfl)) (hJ0 (.slice (some ado27) y110.length co27, ado27) _ ⟨hHeld, (by (with_reducible repeat (first | apply Kd.R_alloc | apply Kd.R_drewN | apply Kd.R_drew)); exact HO112.out), ⟨_, rfl⟩, (by (with_reducible repeat (first | refine blk_drewN ?_ _ | refine blk_drew ?_ | refine blk_alloc ?_ _)); exact BK109.out), (by repeat (first | (with_reducible first | exact HB.out | apply below_alloc | apply pw_below_drewN | apply below_drew1 | refine below_set ?_ GE109.out) | exact HB.out))⟩)
                                  · skip
                                    refine goes_ Try.func10 (by kernel_rfl) rfl #[.int .i64 a0_0] (by rfl) rfl rfl (by (try simp only [List.map_toArray, List.map_cons, List.map_nil]); first | done | rfl | (simp only [List.length_drop, List.length_take]; rfl)) ?_
                                    with_reducible refine (spec_ClassOf.calls a0_0 t113 _ A2.out).mono ?_
                                    rintro e w' ⟨rfl, ⟨nd, rfl⟩⟩
                                    refine ⟨_, rfl, ?_⟩
                                    refine hK.out _ _ ⟨(blk_cell BK109.out 0).trans rfl, (blk_cell BK109.out 1).trans rfl, (blk_cell BK109.out 2).trans rfl⟩ (fun hHeld => ?_)
                                    clear hK K
                                    refine norm_ (a' := ?_) ?_ ?_
                                    rotate_left
                                    · show Act.put _ (some 7) _ = _
                                      simp only [Act.put, List.setIfInBounds_toArray, List.set_cons_zero, List.set_cons_succ, i64_w, i32_w]
                                      rfl
                                    exact norm_ (by first | (simp only [putAll, Act.put, List.setIfInBounds_toArray, List.set_cons_zero, List.set_cons_succ]; done) | (simp only [putAll, Act.put, List.setIfInBounds_toArray, List.set_cons_zero, List.set_cons_succ]; rfl)) (hJ3 () _ ⟨hHeld, (by (with_reducible repeat (first | refine blk_drewN ?_ _ | refine blk_drew ?_ | refine blk_alloc ?_ _)); exact BK109.out), (by repeat (first | (with_reducible first | exact HB.out | apply below_alloc | apply pw_below_drewN | apply below_drew1 | refine below_set ?_ GE109.out) | exact HB.out))⟩)
                                · skip
                                  rintro _ w25 ⟨hS_, h0_, h1_⟩
                                  have n0_ : Aside0 (w25.heap[gb109]? = some (.cells #[.int .i64 a0_0, .string a0_1, .string a0_2] 29 (0, 0))) := ⟨h0_⟩
                                  have n1_ : Aside0 (Below w.heap.size w w25) := ⟨h1_⟩
                                  clear BK109
                                  clear HB
                                  clear h0_ h1_
                                  have BK109 := n0_
                                  have HB := n1_
                                  clear n0_ n1_
                                  have hHeld : w25.cell? ⟨gb109, 0, none⟩ = some (.int .i64 a0_0) ∧ w25.cell? ⟨gb109, 1, none⟩ = some (.string a0_1) ∧ w25.cell? ⟨gb109, 2, none⟩ = some (.string a0_2) := hS_
                                  refine norm_ (a' := ?_) ?_ ?_
                                  rotate_left
                                  · simp only [putAll, Act.put, List.setIfInBounds_toArray, List.set_cons_zero, List.set_cons_succ]
                                    rfl
                                  refine two_ (i := 0) (j := 8) (Ni := some 4) (Nj := some 12) #[true, true, true, true, false, false, true, true, false, false, false, true, true, false, false] #[false, true, true, true, false, false, true, true, true, false, false, true, true, false, false] rfl rfl rfl rfl (two_of HT_.out (by kernel_rfl)) (by decide) (by decide) (fun K hK => ?_) (fun K hK => ?_)
                                  · skip
                                    refine Kd.R_lit_step Kd.string _ 9 ?hg (N := 4) ?hd (xs := ([(⟨#[63, 32]⟩ : ByteArray), (⟨#[98, 114, 101, 97, 107, 115, 32]⟩ : ByteArray), (⟨#[114, 105, 115, 107, 121, 32]⟩ : ByteArray), (⟨#[115, 97, 102, 101, 32]⟩ : ByteArray)] : List ByteArray)) (inner := [.string (⟨#[63, 32]⟩ : ByteArray), .string (⟨#[98, 114, 101, 97, 107, 115, 32]⟩ : ByteArray), .string (⟨#[114, 105, 115, 107, 121, 32]⟩ : ByteArray), .string (⟨#[115, 97, 102, 101, 32]⟩ : ByteArray)]) (ok := fun _ => True) (okp := fun _ => True) ?hr ?hp (fun _ hk => hk) trivial (Below.refl _ _) (Nat.le_refl _) (by simp) ?_; (case hd => rfl); (case hg => rfl); (case hr => first | (go_simp; done) | (go_simp; rfl)); (case hp => exact (Reps.one (show Kd.M Kd.string _ _ _ (⟨#[63, 32]⟩ : ByteArray) [.string (⟨#[63, 32]⟩ : ByteArray)] from rfl) (Reps.one (show Kd.M Kd.string _ _ _ (⟨#[98, 114, 101, 97, 107, 115, 32]⟩ : ByteArray) [.string (⟨#[98, 114, 101, 97, 107, 115, 32]⟩ : ByteArray)] from rfl) (Reps.one (show Kd.M Kd.string _ _ _ (⟨#[114, 105, 115, 107, 121, 32]⟩ : ByteArray) [.string (⟨#[114, 105, 115, 107, 121, 32]⟩ : ByteArray)] from rfl) (Reps.one (show Kd.M Kd.string _ _ _ (⟨#[115, 97, 102, 101, 32]⟩ : ByteArray) [.string (⟨#[115, 97, 102, 101, 32]⟩ : ByteArray)] from rfl) (Reps.none _ _))))))
                                    intro v111 w26 ho27 hb hg_ hnew_
                                    clear hg_ hnew_
                                    (first | rw [← Ny110.out] at ho27 | (simp only [Int.reduceToNat] at ho27; rw [← Ny110.out] at ho27))
                                    have n0_ := Aside0.mk (Kd.R_lower ho27 (below_size (by repeat (first | (with_reducible first | exact HB.out | apply below_alloc | apply pw_below_drewN | apply below_drew1 | refine below_set ?_ GE109.out) | exact HB.out))))
                                    have n1_ := Aside0.mk (blk_below (g := gb109) (o := .cells #[.int .i64 a0_0, .string a0_1, .string a0_2] 29 (0, 0)) (by (with_reducible repeat (first | refine blk_drewN ?_ _ | refine blk_drew ?_ | refine blk_alloc ?_ _)); exact BK109.out) hb)
                                    have n2_ := Aside0.mk (below_step (by repeat (first | (with_reducible first | exact HB.out | apply below_alloc | apply pw_below_drewN | apply below_drew1 | refine below_set ?_ GE109.out) | exact HB.out)) hb)
                                    clear BK109
                                    clear HB
                                    have HO112 := n0_
                                    have BK109 := n1_
                                    have HB := n2_
                                    clear n0_ n1_ n2_
                                    clear hb ho27
                                    obtain ⟨Ao28, co28, eo28⟩ := Kd.R_slice HO112.out
                                    subst eo28
                                    obtain ⟨ado28, fo28, _⟩ := Kd.at_string (Kd.R_reads' HO112.out).2.2 0 (by decide) (by rw [Ny110.out]; simp)
                                    cases fo28
                                    refine hK.out _ _ ⟨(blk_cell BK109.out 0).trans rfl, (blk_cell BK109.out 1).trans rfl, (blk_cell BK109.out 2).trans rfl⟩ (fun hHeld => ?_)
                                    clear hK K
                                    refine norm_ (a' := ?_) ?_ ?_
                                    rotate_left
                                    · show Act.put _ (some 4) _ = _
                                      simp only [Act.put, List.setIfInBounds_toArray, List.set_cons_zero, List.set_cons_succ, i64_w, i32_w]
                                      rfl
                                    refine pure_ (i := 4) (N := some 8) (v := ?_) (a' := ?_) #[true, true, true, true, true, false, true, true, false, false, false, true, true, false, false] rfl rfl (any_of HT_.out (by kernel_rfl)) (fun _ _ _ h => h) (Or.inl ⟨by rfl, ?_⟩) ?_ ?_
                                    rotate_left
                                    · intro w'
                                      first | (go_simp; with_reducible rfl; done) | (go_simp; rw [if_neg (by simp only [ByteArray.size_append] at *; omega)]; done) | (go_simp; rw [if_neg (by simp only [ByteArray.size_append, show (⟨#[32]⟩ : ByteArray).size = 1 from rfl] at *; omega)])
                                    rotate_left
                                    · simp only [Act.put, List.setIfInBounds_toArray, List.set_cons_zero, List.set_cons_succ, i64_w, i32_w]
                                      rfl
                                    exact norm_ (by first | (simp only [putAll, Act.put, List.setIfInBounds_toArray, List.set_cons_zero, List.set_cons_succ]; done) | (simp only [putAll, Act.put, List.setIfInBounds_toArray, List.set_cons_zero, List.set_cons_succ]; rfl)) (hJ0_3 (.slice (some ado28) y110.length co28, ado28) _ ⟨hHeld, (by (with_reducible repeat (first | apply Kd.R_alloc | apply Kd.R_drewN | apply Kd.R_drew)); exact HO112.out), ⟨_, rfl⟩, (by (with_reducible repeat (first | refine blk_drewN ?_ _ | refine blk_drew ?_ | refine blk_alloc ?_ _)); exact BK109.out), (by repeat (first | (with_reducible first | exact HB.out | apply below_alloc | apply pw_below_drewN | apply below_drew1 | refine below_set ?_ GE109.out) | exact HB.out))⟩)
                                  · skip
                                    refine goes_ Try.func8 (by kernel_rfl) rfl #[.int .i64 a0_0] (by rfl) rfl rfl (by (try simp only [List.map_toArray, List.map_cons, List.map_nil]); first | done | rfl | (simp only [List.length_drop, List.length_take]; rfl)) ?_
                                    with_reducible refine (spec_CodeWord.calls a0_0 t115 _ A5.out).mono ?_
                                    rintro e w26 ⟨rfl, hb⟩
                                    refine ⟨_, rfl, ?_⟩
                                    have n0_ := Aside0.mk (blk_below (g := gb109) (o := .cells #[.int .i64 a0_0, .string a0_1, .string a0_2] 29 (0, 0)) (by (with_reducible repeat (first | refine blk_drewN ?_ _ | refine blk_drew ?_ | refine blk_alloc ?_ _)); exact BK109.out) hb)
                                    have n1_ := Aside0.mk (below_step (by repeat (first | (with_reducible first | exact HB.out | apply below_alloc | apply pw_below_drewN | apply below_drew1 | refine below_set ?_ GE109.out) | exact HB.out)) hb)
                                    clear BK109
                                    clear HB
                                    have BK109 := n0_
                                    have HB := n1_
                                    clear n0_ n1_
                                    (try clear hb)
                                    (try clear hb2)
                                    (try clear hk)
                                    (try clear hi)
                                    refine hK.out _ _ ⟨(blk_cell BK109.out 0).trans rfl, (blk_cell BK109.out 1).trans rfl, (blk_cell BK109.out 2).trans rfl⟩ (fun hHeld => ?_)
                                    clear hK K
                                    refine norm_ (a' := ?_) ?_ ?_
                                    rotate_left
                                    · show Act.put _ (some 12) _ = _
                                      simp only [Act.put, List.setIfInBounds_toArray, List.set_cons_zero, List.set_cons_succ, i64_w, i32_w]
                                      rfl
                                    exact norm_ (by first | (simp only [putAll, Act.put, List.setIfInBounds_toArray, List.set_cons_zero, List.set_cons_succ]; done) | (simp only [putAll, Act.put, List.setIfInBounds_toArray, List.set_cons_zero, List.set_cons_succ]; rfl)) (hJ3_8 () _ ⟨hHeld, (by (with_reducible repeat (first | refine blk_drewN ?_ _ | refine blk_drew ?_ | refine blk_alloc ?_ _)); exact BK109.out), (by repeat (first | (with_reducible first | exact HB.out | apply below_alloc | apply pw_below_drewN | apply below_drew1 | refine below_set ?_ GE109.out) | exact HB.out))⟩)
                              · skip
                                rintro ⟨v111, adz_v111⟩ w28 ⟨hS_, h0_, h1_, h2_, h3_⟩
                                have n0_ : Aside0 (Kd.R Kd.string 9 w28 w.heap.size (fun _ => True) v111 y110) := ⟨h0_⟩
                                have n1_ : Aside0 (∃ c_, (v111 : Value) = .slice (some adz_v111) y110.length c_) := ⟨h1_⟩
                                have n2_ : Aside0 (w28.heap[gb109]? = some (.cells #[.int .i64 a0_0, .string a0_1, .string a0_2] 29 (0, 0))) := ⟨h2_⟩
                                have n3_ : Aside0 (Below w.heap.size w w28) := ⟨h3_⟩
                                clear BK109
                                clear HB
                                clear h0_ h1_ h2_ h3_
                                have HO112 := n0_
                                have HA_HO112 := n1_
                                have BK109 := n2_
                                have HB := n3_
                                clear n0_ n1_ n2_ n3_
                                have hHeld : w28.cell? ⟨gb109, 0, none⟩ = some (.int .i64 a0_0) ∧ w28.cell? ⟨gb109, 1, none⟩ = some (.string a0_1) ∧ w28.cell? ⟨gb109, 2, none⟩ = some (.string a0_2) := hS_
                                obtain ⟨co29, eo29⟩ := HA_HO112.out
                                clear HA_HO112
                                subst eo29
                                refine norm_ (a' := ?_) ?_ ?_
                                rotate_left
                                · simp only [putAll, Act.put, List.setIfInBounds_toArray, List.set_cons_zero, List.set_cons_succ]
                                  rfl
                                refine one_ (i := 3) (N := some 7) #[true, true, true, true, false, false, true, true, false, false, false, true, true, false, false] rfl rfl (one_of HT_.out (by kernel_rfl)) (by decide) (fun K hK => ?_)
                                refine goes_ Try.func10 (by kernel_rfl) rfl #[.int .i64 a0_0] (by rfl) rfl rfl (by (try simp only [List.map_toArray, List.map_cons, List.map_nil]); first | done | rfl | (simp only [List.length_drop, List.length_take]; rfl)) ?_
                                with_reducible refine (spec_ClassOf.calls a0_0 t113 _ A2.out).mono ?_
                                rintro e w' ⟨rfl, ⟨nd, rfl⟩⟩
                                refine ⟨_, rfl, ?_⟩
                                refine hK.out _ _ ⟨(blk_cell BK109.out 0).trans rfl, (blk_cell BK109.out 1).trans rfl, (blk_cell BK109.out 2).trans rfl⟩ (fun hHeld => ?_)
                                clear hK K
                                refine norm_ (a' := ?_) ?_ ?_
                                rotate_left
                                · show Act.put _ (some 7) _ = _
                                  simp only [Act.put, List.setIfInBounds_toArray, List.set_cons_zero, List.set_cons_succ, i64_w, i32_w]
                                  rfl
                                refine pure_ (i := 4) (N := some 8) (v := ?_) (a' := ?_) #[true, true, true, true, true, false, true, true, false, false, false, true, true, false, false] rfl rfl (any_of HT_.out (by kernel_rfl)) (fun _ _ _ h => h) (Or.inl ⟨by rfl, ?_⟩) ?_ ?_
                                rotate_left
                                · intro w'
                                  first | (go_simp; with_reducible rfl; done) | (go_simp; rw [if_neg (by simp only [ByteArray.size_append] at *; omega)]; done) | (go_simp; rw [if_neg (by simp only [ByteArray.size_append, show (⟨#[32]⟩ : ByteArray).size = 1 from rfl] at *; omega)])
                                rotate_left
                                · simp only [Act.put, List.setIfInBounds_toArray, List.set_cons_zero, List.set_cons_succ, i64_w, i32_w]
                                  rfl
                                exact norm_ (by first | (simp only [putAll, Act.put, List.setIfInBounds_toArray, List.set_cons_zero, List.set_cons_succ]; done) | (simp only [putAll, Act.put, List.setIfInBounds_toArray, List.set_cons_zero, List.set_cons_succ]; rfl)) (hJ0_3 (.slice (some adz_v111) y110.length co29, adz_v111) _ ⟨hHeld, (by (with_reducible repeat (first | apply Kd.R_alloc | apply Kd.R_drewN | apply Kd.R_drew)); exact HO112.out), ⟨_, rfl⟩, (by (with_reducible repeat (first | refine blk_drewN ?_ _ | refine blk_drew ?_ | refine blk_alloc ?_ _)); exact BK109.out), (by repeat (first | (with_reducible first | exact HB.out | apply below_alloc | apply pw_below_drewN | apply below_drew1 | refine below_set ?_ GE109.out) | exact HB.out))⟩)
                            · skip
                              rintro _ w26 ⟨hS_, h0_, h1_⟩
                              have n0_ : Aside0 (w26.heap[gb109]? = some (.cells #[.int .i64 a0_0, .string a0_1, .string a0_2] 29 (0, 0))) := ⟨h0_⟩
                              have n1_ : Aside0 (Below w.heap.size w w26) := ⟨h1_⟩
                              clear BK109
                              clear HB
                              clear h0_ h1_
                              have BK109 := n0_
                              have HB := n1_
                              clear n0_ n1_
                              have hHeld : w26.cell? ⟨gb109, 0, none⟩ = some (.int .i64 a0_0) ∧ w26.cell? ⟨gb109, 1, none⟩ = some (.string a0_1) ∧ w26.cell? ⟨gb109, 2, none⟩ = some (.string a0_2) := hS_
                              refine norm_ (a' := ?_) ?_ ?_
                              rotate_left
                              · simp only [putAll, Act.put, List.setIfInBounds_toArray, List.set_cons_zero, List.set_cons_succ]
                                rfl
                              refine one_ (i := 0) (N := some 4) #[true, true, true, true, false, false, true, true, true, false, false, true, true, false, false] rfl rfl (one_of HT_.out (by kernel_rfl)) (by decide) (fun K hK => ?_)
                              refine Kd.R_lit_step Kd.string _ 9 ?hg (N := 4) ?hd (xs := ([(⟨#[63, 32]⟩ : ByteArray), (⟨#[98, 114, 101, 97, 107, 115, 32]⟩ : ByteArray), (⟨#[114, 105, 115, 107, 121, 32]⟩ : ByteArray), (⟨#[115, 97, 102, 101, 32]⟩ : ByteArray)] : List ByteArray)) (inner := [.string (⟨#[63, 32]⟩ : ByteArray), .string (⟨#[98, 114, 101, 97, 107, 115, 32]⟩ : ByteArray), .string (⟨#[114, 105, 115, 107, 121, 32]⟩ : ByteArray), .string (⟨#[115, 97, 102, 101, 32]⟩ : ByteArray)]) (ok := fun _ => True) (okp := fun _ => True) ?hr ?hp (fun _ hk => hk) trivial (Below.refl _ _) (Nat.le_refl _) (by simp) ?_; (case hd => rfl); (case hg => rfl); (case hr => first | (go_simp; done) | (go_simp; rfl)); (case hp => exact (Reps.one (show Kd.M Kd.string _ _ _ (⟨#[63, 32]⟩ : ByteArray) [.string (⟨#[63, 32]⟩ : ByteArray)] from rfl) (Reps.one (show Kd.M Kd.string _ _ _ (⟨#[98, 114, 101, 97, 107, 115, 32]⟩ : ByteArray) [.string (⟨#[98, 114, 101, 97, 107, 115, 32]⟩ : ByteArray)] from rfl) (Reps.one (show Kd.M Kd.string _ _ _ (⟨#[114, 105, 115, 107, 121, 32]⟩ : ByteArray) [.string (⟨#[114, 105, 115, 107, 121, 32]⟩ : ByteArray)] from rfl) (Reps.one (show Kd.M Kd.string _ _ _ (⟨#[115, 97, 102, 101, 32]⟩ : ByteArray) [.string (⟨#[115, 97, 102, 101, 32]⟩ : ByteArray)] from rfl) (Reps.none _ _))))))
                              intro v111 w27 ho28 hb hg_ hnew_
                              clear hg_ hnew_
                              (first | rw [← Ny110.out] at ho28 | (simp only [Int.reduceToNat] at ho28; rw [← Ny110.out] at ho28))
                              have n0_ := Aside0.mk (Kd.R_lower ho28 (below_size (by repeat (first | (with_reducible first | exact HB.out | apply below_alloc | apply pw_below_drewN | apply below_drew1 | refine below_set ?_ GE109.out) | exact HB.out))))
                              have n1_ := Aside0.mk (blk_below (g := gb109) (o := .cells #[.int .i64 a0_0, .string a0_1, .string a0_2] 29 (0, 0)) (by (with_reducible repeat (first | refine blk_drewN ?_ _ | refine blk_drew ?_ | refine blk_alloc ?_ _)); exact BK109.out) hb)
                              have n2_ := Aside0.mk (below_step (by repeat (first | (with_reducible first | exact HB.out | apply below_alloc | apply pw_below_drewN | apply below_drew1 | refine below_set ?_ GE109.out) | exact HB.out)) hb)
                              clear BK109
                              clear HB
                              have HO112 := n0_
                              have BK109 := n1_
                              have HB := n2_
                              clear n0_ n1_ n2_
                              clear hb ho28
                              obtain ⟨Ao29, co29, eo29⟩ := Kd.R_slice HO112.out
                              subst eo29
                              obtain ⟨ado29, fo29, _⟩ := Kd.at_string (Kd.R_reads' HO112.out).2.2 0 (by decide) (by rw [Ny110.out]; simp)
                              cases fo29
                              refine hK.out _ _ ⟨(blk_cell BK109.out 0).trans rfl, (blk_cell BK109.out 1).trans rfl, (blk_cell BK109.out 2).trans rfl⟩ (fun hHeld => ?_)
                              clear hK K
                              refine norm_ (a' := ?_) ?_ ?_
                              rotate_left
                              · show Act.put _ (some 4) _ = _
                                simp only [Act.put, List.setIfInBounds_toArray, List.set_cons_zero, List.set_cons_succ, i64_w, i32_w]
                                rfl
                              refine pure_ (i := 4) (N := some 8) (v := ?_) (a' := ?_) #[true, true, true, true, true, false, true, true, true, false, false, true, true, false, false] rfl rfl (any_of HT_.out (by kernel_rfl)) (fun _ _ _ h => h) (Or.inl ⟨by rfl, ?_⟩) ?_ ?_
                              rotate_left
                              · intro w'
                                first | (go_simp; with_reducible rfl; done) | (go_simp; rw [if_neg (by simp only [ByteArray.size_append] at *; omega)]; done) | (go_simp; rw [if_neg (by simp only [ByteArray.size_append, show (⟨#[32]⟩ : ByteArray).size = 1 from rfl] at *; omega)])
                              rotate_left
                              · simp only [Act.put, List.setIfInBounds_toArray, List.set_cons_zero, List.set_cons_succ, i64_w, i32_w]
                                rfl
                              exact norm_ (by first | (simp only [putAll, Act.put, List.setIfInBounds_toArray, List.set_cons_zero, List.set_cons_succ]; done) | (simp only [putAll, Act.put, List.setIfInBounds_toArray, List.set_cons_zero, List.set_cons_succ]; rfl)) (hJ0_3_8 (.slice (some ado29) y110.length co29, ado29) _ ⟨hHeld, (by (with_reducible repeat (first | apply Kd.R_alloc | apply Kd.R_drewN | apply Kd.R_drew)); exact HO112.out), ⟨_, rfl⟩, (by (with_reducible repeat (first | refine blk_drewN ?_ _ | refine blk_drew ?_ | refine blk_alloc ?_ _)); exact BK109.out), (by repeat (first | (with_reducible first | exact HB.out | apply below_alloc | apply pw_below_drewN | apply below_drew1 | refine below_set ?_ GE109.out) | exact HB.out))⟩)
                          · skip
                            rintro ⟨v111, adz_v111⟩ w28 ⟨hS_, h0_, h1_, h2_, h3_⟩
                            have n0_ : Aside0 (Kd.R Kd.string 9 w28 w.heap.size (fun _ => True) v111 y110) := ⟨h0_⟩
                            have n1_ : Aside0 (∃ c_, (v111 : Value) = .slice (some adz_v111) y110.length c_) := ⟨h1_⟩
                            have n2_ : Aside0 (w28.heap[gb109]? = some (.cells #[.int .i64 a0_0, .string a0_1, .string a0_2] 29 (0, 0))) := ⟨h2_⟩
                            have n3_ : Aside0 (Below w.heap.size w w28) := ⟨h3_⟩
                            clear BK109
                            clear HB
                            clear h0_ h1_ h2_ h3_
                            have HO112 := n0_
                            have HA_HO112 := n1_
                            have BK109 := n2_
                            have HB := n3_
                            clear n0_ n1_ n2_ n3_
                            have hHeld : w28.cell? ⟨gb109, 0, none⟩ = some (.int .i64 a0_0) ∧ w28.cell? ⟨gb109, 1, none⟩ = some (.string a0_1) ∧ w28.cell? ⟨gb109, 2, none⟩ = some (.string a0_2) := hS_
                            obtain ⟨co29, eo29⟩ := HA_HO112.out
                            clear HA_HO112
                            subst eo29
                            refine norm_ (a' := ?_) ?_ ?_
                            rotate_left
                            · simp only [putAll, Act.put, List.setIfInBounds_toArray, List.set_cons_zero, List.set_cons_succ]
                              rfl
                            refine two_ (i := 5) (j := 8) (Ni := some 9) (Nj := some 12) #[true, true, true, true, true, true, true, true, false, false, false, true, true, false, false] #[true, true, true, true, true, false, true, true, true, false, false, true, true, false, false] rfl rfl rfl rfl (two_of HT_.out (by kernel_rfl)) (by decide) (by decide) (fun K hK => ?_) (fun K hK => ?_)
                            · skip
                              (have p114 : 0 ≤ (t113 : Int) := of_decide_eq_true (by first | (with_reducible assumption) | assumption); have q114 : t113 < (y110.length : Int) := of_decide_eq_true (by first | (with_reducible assumption) | assumption); obtain ⟨ad114, e114, hx114_0⟩ := Kd.at_string (Kd.R_reads' HO112.out).2.2 t113 p114 q114; obtain rfl : adz_v111 = ad114 := (by injection e114))
                              refine value_ (w1 := ?_) (v := ?_) (by rfl) rfl ?_ ?_
                              rotate_left 2
                              · go_simp
                                constructor
                                · rfl
                                · rfl
                              clear hx114_0
                              refine hK.out _ _ ⟨(blk_cell BK109.out 0).trans rfl, (blk_cell BK109.out 1).trans rfl, (blk_cell BK109.out 2).trans rfl⟩ (fun hHeld => ?_)
                              clear hK K
                              refine norm_ (a' := ?_) ?_ ?_
                              rotate_left
                              · show Act.put _ (some 9) _ = _
                                simp only [Act.put, List.setIfInBounds_toArray, List.set_cons_zero, List.set_cons_succ, i64_w, i32_w]
                                rfl
                              exact norm_ (by first | (simp only [putAll, Act.put, List.setIfInBounds_toArray, List.set_cons_zero, List.set_cons_succ]; done) | (simp only [putAll, Act.put, List.setIfInBounds_toArray, List.set_cons_zero, List.set_cons_succ]; rfl)) (hJ0_3_5 (.slice (some adz_v111) y110.length co29, adz_v111) _ ⟨hHeld, (by (with_reducible repeat (first | apply Kd.R_alloc | apply Kd.R_drewN | apply Kd.R_drew)); exact HO112.out), ⟨_, rfl⟩, (by (with_reducible repeat (first | refine blk_drewN ?_ _ | refine blk_drew ?_ | refine blk_alloc ?_ _)); exact BK109.out), (by repeat (first | (with_reducible first | exact HB.out | apply below_alloc | apply pw_below_drewN | apply below_drew1 | refine below_set ?_ GE109.out) | exact HB.out))⟩)
                            · skip
                              refine goes_ Try.func8 (by kernel_rfl) rfl #[.int .i64 a0_0] (by rfl) rfl rfl (by (try simp only [List.map_toArray, List.map_cons, List.map_nil]); first | done | rfl | (simp only [List.length_drop, List.length_take]; rfl)) ?_
                              with_reducible refine (spec_CodeWord.calls a0_0 t115 _ A5.out).mono ?_
                              rintro e w30 ⟨rfl, hb⟩
                              refine ⟨_, rfl, ?_⟩
                              have n0_ := Aside0.mk (Kd.R_below (by (with_reducible repeat (first | apply Kd.R_alloc | apply Kd.R_drewN | apply Kd.R_drew)); exact HO112.out) hb)
                              have n1_ := Aside0.mk (blk_below (g := gb109) (o := .cells #[.int .i64 a0_0, .string a0_1, .string a0_2] 29 (0, 0)) (by (with_reducible repeat (first | refine blk_drewN ?_ _ | refine blk_drew ?_ | refine blk_alloc ?_ _)); exact BK109.out) hb)
                              have n2_ := Aside0.mk (below_step (by repeat (first | (with_reducible first | exact HB.out | apply below_alloc | apply pw_below_drewN | apply below_drew1 | refine below_set ?_ GE109.out) | exact HB.out)) hb)
                              clear HO112
                              clear BK109
                              clear HB
                              have HO112 := n0_
                              have BK109 := n1_
                              have HB := n2_
                              clear n0_ n1_ n2_
                              (try clear hb)
                              (try clear hb2)
                              (try clear hk)
                              (try clear hi)
                              refine hK.out _ _ ⟨(blk_cell BK109.out 0).trans rfl, (blk_cell BK109.out 1).trans rfl, (blk_cell BK109.out 2).trans rfl⟩ (fun hHeld => ?_)
                              clear hK K
                              refine norm_ (a' := ?_) ?_ ?_
                              rotate_left
                              · show Act.put _ (some 12) _ = _
                                simp only [Act.put, List.setIfInBounds_toArray, List.set_cons_zero, List.set_cons_succ, i64_w, i32_w]
                                rfl
                              exact norm_ (by first | (simp only [putAll, Act.put, List.setIfInBounds_toArray, List.set_cons_zero, List.set_cons_succ]; done) | (simp only [putAll, Act.put, List.setIfInBounds_toArray, List.set_cons_zero, List.set_cons_succ]; rfl)) (hJ0_3_8 (.slice (some adz_v111) y110.length co29, adz_v111) _ ⟨hHeld, (by (with_reducible repeat (first | apply Kd.R_alloc | apply Kd.R_drewN | apply Kd.R_drew)); exact HO112.out), ⟨_, rfl⟩, (by (with_reducible repeat (first | refine blk_drewN ?_ _ | refine blk_drew ?_ | refine blk_alloc ?_ _)); exact BK109.out), (by repeat (first | (with_reducible first | exact HB.out | apply below_alloc | apply pw_below_drewN | apply below_drew1 | refine below_set ?_ GE109.out) | exact HB.out))⟩)
                        · skip
                          rintro ⟨v111, adz_v111⟩ w29 ⟨hS_, h0_, h1_, h2_, h3_⟩
                          have n0_ : Aside0 (Kd.R Kd.string 9 w29 w.heap.size (fun _ => True) v111 y110) := ⟨h0_⟩
                          have n1_ : Aside0 (∃ c_, (v111 : Value) = .slice (some adz_v111) y110.length c_) := ⟨h1_⟩
                          have n2_ : Aside0 (w29.heap[gb109]? = some (.cells #[.int .i64 a0_0, .string a0_1, .string a0_2] 29 (0, 0))) := ⟨h2_⟩
                          have n3_ : Aside0 (Below w.heap.size w w29) := ⟨h3_⟩
                          clear BK109
                          clear HB
                          clear h0_ h1_ h2_ h3_
                          have HO112 := n0_
                          have HA_HO112 := n1_
                          have BK109 := n2_
                          have HB := n3_
                          clear n0_ n1_ n2_ n3_
                          have hHeld : w29.cell? ⟨gb109, 0, none⟩ = some (.int .i64 a0_0) ∧ w29.cell? ⟨gb109, 1, none⟩ = some (.string a0_1) ∧ w29.cell? ⟨gb109, 2, none⟩ = some (.string a0_2) := hS_
                          obtain ⟨co30, eo30⟩ := HA_HO112.out
                          clear HA_HO112
                          subst eo30
                          refine norm_ (a' := ?_) ?_ ?_
                          rotate_left
                          · simp only [putAll, Act.put, List.setIfInBounds_toArray, List.set_cons_zero, List.set_cons_succ]
                            rfl
                          refine one_ (i := 5) (N := some 9) #[true, true, true, true, true, true, true, true, true, false, false, true, true, false, false] rfl rfl (one_of HT_.out (by kernel_rfl)) (by decide) (fun K hK => ?_)
                          (have p114 : 0 ≤ (t113 : Int) := of_decide_eq_true (by first | (with_reducible assumption) | assumption); have q114 : t113 < (y110.length : Int) := of_decide_eq_true (by first | (with_reducible assumption) | assumption); obtain ⟨ad114, e114, hx114_0⟩ := Kd.at_string (Kd.R_reads' HO112.out).2.2 t113 p114 q114; obtain rfl : adz_v111 = ad114 := (by injection e114))
                          refine value_ (w1 := ?_) (v := ?_) (by rfl) rfl ?_ ?_
                          rotate_left 2
                          · go_simp
                            constructor
                            · rfl
                            · rfl
                          clear hx114_0
                          refine hK.out _ _ ⟨(blk_cell BK109.out 0).trans rfl, (blk_cell BK109.out 1).trans rfl, (blk_cell BK109.out 2).trans rfl⟩ (fun hHeld => ?_)
                          clear hK K
                          refine norm_ (a' := ?_) ?_ ?_
                          rotate_left
                          · show Act.put _ (some 9) _ = _
                            simp only [Act.put, List.setIfInBounds_toArray, List.set_cons_zero, List.set_cons_succ, i64_w, i32_w]
                            rfl
                          exact norm_ (by first | (simp only [putAll, Act.put, List.setIfInBounds_toArray, List.set_cons_zero, List.set_cons_succ]; done) | (simp only [putAll, Act.put, List.setIfInBounds_toArray, List.set_cons_zero, List.set_cons_succ]; rfl)) (hJ0_3_5_8 (.slice (some adz_v111) y110.length co30, adz_v111) _ ⟨hHeld, (by (with_reducible repeat (first | apply Kd.R_alloc | apply Kd.R_drewN | apply Kd.R_drew)); exact HO112.out), ⟨_, rfl⟩, (by (with_reducible repeat (first | refine blk_drewN ?_ _ | refine blk_drew ?_ | refine blk_alloc ?_ _)); exact BK109.out), (by repeat (first | (with_reducible first | exact HB.out | apply below_alloc | apply pw_below_drewN | apply below_drew1 | refine below_set ?_ GE109.out) | exact HB.out))⟩)
                      · skip
                        rintro ⟨v111, adz_v111⟩ w28 ⟨hS_, h0_, h1_, h2_, h3_⟩
                        have n0_ : Aside0 (Kd.R Kd.string 9 w28 w.heap.size (fun _ => True) v111 y110) := ⟨h0_⟩
                        have n1_ : Aside0 (∃ c_, (v111 : Value) = .slice (some adz_v111) y110.length c_) := ⟨h1_⟩
                        have n2_ : Aside0 (w28.heap[gb109]? = some (.cells #[.int .i64 a0_0, .string a0_1, .string a0_2] 29 (0, 0))) := ⟨h2_⟩
                        have n3_ : Aside0 (Below w.heap.size w w28) := ⟨h3_⟩
                        clear BK109
                        clear HB
                        clear h0_ h1_ h2_ h3_
                        have HO112 := n0_
                        have HA_HO112 := n1_
                        have BK109 := n2_
                        have HB := n3_
                        clear n0_ n1_ n2_ n3_
                        have hHeld : w28.cell? ⟨gb109, 0, none⟩ = some (.int .i64 a0_0) ∧ w28.cell? ⟨gb109, 1, none⟩ = some (.string a0_1) ∧ w28.cell? ⟨gb109, 2, none⟩ = some (.string a0_2) := hS_
                        obtain ⟨co29, eo29⟩ := HA_HO112.out
                        clear HA_HO112
                        subst eo29
                        refine norm_ (a' := ?_) ?_ ?_
                        rotate_left
                        · simp only [putAll, Act.put, List.setIfInBounds_toArray, List.set_cons_zero, List.set_cons_succ]
                          rfl
                        refine one_ (i := 8) (N := some 12) #[true, true, true, true, true, true, true, true, true, false, false, true, true, false, false] rfl rfl (one_of HT_.out (by kernel_rfl)) (by decide) (fun K hK => ?_)
                        refine goes_ Try.func8 (by kernel_rfl) rfl #[.int .i64 a0_0] (by rfl) rfl rfl (by (try simp only [List.map_toArray, List.map_cons, List.map_nil]); first | done | rfl | (simp only [List.length_drop, List.length_take]; rfl)) ?_
                        with_reducible refine (spec_CodeWord.calls a0_0 t115 _ A5.out).mono ?_
                        rintro e w30 ⟨rfl, hb⟩
                        refine ⟨_, rfl, ?_⟩
                        have n0_ := Aside0.mk (Kd.R_below (by (with_reducible repeat (first | apply Kd.R_alloc | apply Kd.R_drewN | apply Kd.R_drew)); exact HO112.out) hb)
                        have n1_ := Aside0.mk (blk_below (g := gb109) (o := .cells #[.int .i64 a0_0, .string a0_1, .string a0_2] 29 (0, 0)) (by (with_reducible repeat (first | refine blk_drewN ?_ _ | refine blk_drew ?_ | refine blk_alloc ?_ _)); exact BK109.out) hb)
                        have n2_ := Aside0.mk (below_step (by repeat (first | (with_reducible first | exact HB.out | apply below_alloc | apply pw_below_drewN | apply below_drew1 | refine below_set ?_ GE109.out) | exact HB.out)) hb)
                        clear HO112
                        clear BK109
                        clear HB
                        have HO112 := n0_
                        have BK109 := n1_
                        have HB := n2_
                        clear n0_ n1_ n2_
                        (try clear hb)
                        (try clear hb2)
                        (try clear hk)
                        (try clear hi)
                        refine hK.out _ _ ⟨(blk_cell BK109.out 0).trans rfl, (blk_cell BK109.out 1).trans rfl, (blk_cell BK109.out 2).trans rfl⟩ (fun hHeld => ?_)
                        clear hK K
                        refine norm_ (a' := ?_) ?_ ?_
                        rotate_left
                        · show Act.put _ (some 12) _ = _
                          simp only [Act.put, List.setIfInBounds_toArray, List.set_cons_zero, List.set_cons_succ, i64_w, i32_w]
                          rfl
                        exact norm_ (by first | (simp only [putAll, Act.put, List.setIfInBounds_toArray, List.set_cons_zero, List.set_cons_succ]; done) | (simp only [putAll, Act.put, List.setIfInBounds_toArray, List.set_cons_zero, List.set_cons_succ]; rfl)) (hJ0_3_5_8 (.slice (some adz_v111) y110.length co29, adz_v111) _ ⟨hHeld, (by (with_reducible repeat (first | apply Kd.R_alloc | apply Kd.R_drewN | apply Kd.R_drew)); exact HO112.out), ⟨_, rfl⟩, (by (with_reducible repeat (first | refine blk_drewN ?_ _ | refine blk_drew ?_ | refine blk_alloc ?_ _)); exact BK109.out), (by repeat (first | (with_reducible first | exact HB.out | apply below_alloc | apply pw_below_drewN | apply below_drew1 | refine below_set ?_ GE109.out) | exact HB.out))⟩)
                    rintro ⟨v111, adz_v111⟩ w29 ⟨hS_, h0_, h1_, h2_, h3_⟩
                    have n0_ : Aside0 (Kd.R Kd.string 9 w29 w.heap.size (fun _ => True) v111 y110) := ⟨h0_⟩
                    have n1_ : Aside0 (∃ c_, (v111 : Value) = .slice (some adz_v111) y110.length c_) := ⟨h1_⟩
                    have n2_ : Aside0 (w29.heap[gb109]? = some (.cells #[.int .i64 a0_0, .string a0_1, .string a0_2] 29 (0, 0))) := ⟨h2_⟩
                    have n3_ : Aside0 (Below w.heap.size w w29) := ⟨h3_⟩
                    clear BK109
                    clear HB
                    clear h0_ h1_ h2_ h3_
                    have HO112 := n0_
                    have HA_HO112 := n1_
                    have BK109 := n2_
                    have HB := n3_
                    clear n0_ n1_ n2_ n3_
                    have hHeld : w29.cell? ⟨gb109, 0, none⟩ = some (.int .i64 a0_0) ∧ w29.cell? ⟨gb109, 1, none⟩ = some (.string a0_1) ∧ w29.cell? ⟨gb109, 2, none⟩ = some (.string a0_2) := hS_
                    obtain ⟨co30, eo30⟩ := HA_HO112.out
                    clear HA_HO112
                    subst eo30
                    refine norm_ (a' := ?_) ?_ ?_
                    rotate_left
                    · simp only [putAll, Act.put, List.setIfInBounds_toArray, List.set_cons_zero, List.set_cons_succ]
                      rfl
                    refine pure_ (i := 9) (N := some 13) (v := ?_) (a' := ?_) #[true, true, true, true, true, true, true, true, true, true, false, true, true, false, false] rfl rfl (any_of HT_.out (by kernel_rfl)) (fun _ _ _ h => h) (Or.inl ⟨by rfl, ?_⟩) ?_ ?_
                    rotate_left
                    · intro w'
                      first | (go_simp; with_reducible rfl; done) | (go_simp; rw [if_neg (by simp only [ByteArray.size_append] at *; omega)]; done) | (go_simp; rw [if_neg (by simp only [ByteArray.size_append, show (⟨#[32]⟩ : ByteArray).size = 1 from rfl] at *; omega)])
                    rotate_left
                    · simp only [Act.put, List.setIfInBounds_toArray, List.set_cons_zero, List.set_cons_succ, i64_w, i32_w]
                      rfl
                    refine pure_ (i := 10) (N := some 14) (v := ?_) (a' := ?_) #[true, true, true, true, true, true, true, true, true, true, true, true, true, false, false] rfl rfl (any_of HT_.out (by kernel_rfl)) (fun _ _ _ h => h) (Or.inl ⟨by rfl, ?_⟩) ?_ ?_
                    rotate_left
                    · intro w'
                      first | (go_simp; with_reducible rfl; done) | (go_simp; rw [if_neg (by simp only [ByteArray.size_append] at *; omega)]; done) | (go_simp; rw [if_neg (by simp only [ByteArray.size_append, show (⟨#[32]⟩ : ByteArray).size = 1 from rfl] at *; omega)])
                    rotate_left
                    · simp only [Act.put, List.setIfInBounds_toArray, List.set_cons_zero, List.set_cons_succ, i64_w, i32_w]
                      rfl
                    refine pure_ (i := 13) (N := some 17) (v := ?_) (a' := ?_) #[true, true, true, true, true, true, true, true, true, true, true, true, true, true, false] rfl rfl (any_of HT_.out (by kernel_rfl)) (fun _ _ _ h => h) (Or.inl ⟨by rfl, ?_⟩) ?_ ?_
                    rotate_left
                    · intro w'
                      first | (go_simp; with_reducible rfl; done) | (go_simp; rw [if_neg (by simp only [ByteArray.size_append] at *; omega)]; done) | (go_simp; rw [if_neg (by simp only [ByteArray.size_append, show (⟨#[32]⟩ : ByteArray).size = 1 from rfl] at *; omega)])
                    rotate_left
                    · simp only [Act.put, List.setIfInBounds_toArray, List.set_cons_zero, List.set_cons_succ, i64_w, i32_w]
                      rfl
                    refine pure_ (i := 14) (N := some 3) (v := ?_) (a' := ?_) #[true, true, true, true, true, true, true, true, true, true, true, true, true, true, true] rfl rfl (any_of HT_.out (by kernel_rfl)) (fun _ _ _ h => h) (Or.inl ⟨by rfl, ?_⟩) ?_ ?_
                    rotate_left
                    · intro w'
                      first | (go_simp; with_reducible rfl; done) | (go_simp; rw [if_neg (by simp only [ByteArray.size_append] at *; omega)]; done) | (go_simp; rw [if_neg (by simp only [ByteArray.size_append, show (⟨#[32]⟩ : ByteArray).size = 1 from rfl] at *; omega)])
                    rotate_left
                    · simp only [Act.put, List.setIfInBounds_toArray, List.set_cons_zero, List.set_cons_succ, i64_w, i32_w]
                      rfl
                    refine done_ (done_of HT_.out (by kernel_rfl)) ?_
                    have hcz31_0 : w29.cell? ⟨gb109, 0, none⟩ = some (.int .i64 a0_0) := (blk_cell BK109.out 0).trans rfl
                    have hcz31_1 : w29.cell? ⟨gb109, 1, none⟩ = some (.string a0_1) := (blk_cell BK109.out 1).trans rfl
                    have hcz31_2 : w29.cell? ⟨gb109, 2, none⟩ = some (.string a0_2) := (blk_cell BK109.out 2).trans rfl
                    have hfz31_0 := blk_frozen BK109.out 0
                    have hfz31_1 := blk_frozen BK109.out 1
                    have hfz31_2 := blk_frozen BK109.out 2
                    try go_wp2
                    all_goals try (exfalso; have hkc20_ := c20; simp only [ByteArray.size_append, show (⟨#[10]⟩ : ByteArray).size = 1 from rfl, show (⟨#[32]⟩ : ByteArray).size = 1 from rfl] at hkc20_; have hkc21_ := c21; simp only [ByteArray.size_append, show (⟨#[10]⟩ : ByteArray).size = 1 from rfl, show (⟨#[32]⟩ : ByteArray).size = 1 from rfl] at hkc21_; have hkc22_ := c22; simp only [ByteArray.size_append, show (⟨#[10]⟩ : ByteArray).size = 1 from rfl, show (⟨#[32]⟩ : ByteArray).size = 1 from rfl] at hkc22_; omega)
                    go_ret
                    exact ⟨by first | rfl | (simp [errW_none, errW_some] <;> rfl) | (simp [*, errW_none, errW_some] <;> rfl), by repeat (first | (with_reducible first | exact HB.out | apply below_alloc | apply pw_below_drewN | apply below_drew1 | refine below_set ?_ GE109.out) | exact HB.out)⟩
                  · rw [if_neg c22] at H
                    exact absurd H (by simp)
                · rw [if_neg c21] at H
                  exact absurd H (by simp)
              · rw [if_neg c20] at H
                exact absurd H (by simp)
          · rw [if_neg c8] at H
            exact absurd H (by simp)
        · rw [if_neg c7] at H
          exact absurd H (by simp)
      · rw [if_neg c6] at H
        exact absurd H (by simp)
    · rw [if_neg c4] at H
      exact absurd H (by simp)
  · rw [if_neg c3] at H
    exact absurd H (by simp)

end Go.Proofs.Ytdnbagcbdagofaa.PFnExactChangeLine
