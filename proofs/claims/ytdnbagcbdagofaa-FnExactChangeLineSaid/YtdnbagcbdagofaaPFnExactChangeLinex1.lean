-- PRINTED BY print.sh 35421559b90ae4d0a3588c463048766b98c2df88dd9212a6774a882060cdf62d: not written by this session
import Derived.Test.YtdnbagcbdagofaaPFnExactChangeLinex0
namespace Go.Proofs.Ytdnbagcbdagofaa.PFnExactChangeLine
open Go.RowKit Go.Proofs.YtdnbagcbdagofaaW.PrintWords Go.Proofs.YtdnbagcbdagofaaW.PrintLast Go.Proofs.YtdnbagcbdagofaaW.PrintMore
attribute [local go_sem] max2_int min2_int max_two min_two max_three min_three max_four min_four   -- for this text's walks alone
set_option linter.unusedVariables false
set_option linter.unusedSimpArgs false

/-! ### laws_szChange: function 12 -/
def laws_szChange.f (a0_0 : Int) (a0_1 : ByteArray) (a0_2 : ByteArray) (a1 : Int) : Option (Int) := if (wrap64 (a1 - (a0_1.size : Int))) < 0 then (some (-1)) else (if (wrap64 ((wrap64 (a1 - (a0_1.size : Int))) - (a0_2.size : Int))) < 0 then (some (-1)) else (some (wrap64 ((wrap64 (a1 - (a0_1.size : Int))) - (a0_2.size : Int)))))
set_option maxHeartbeats 8000000 in
set_option maxRecDepth 100000 in
theorem laws_szChange.calls (a0_0 : Int) (a0_1 : ByteArray) (a0_2 : ByteArray) (a1 : Int) (r : Int) (w : World) (h : laws_szChange.f a0_0 a0_1 a0_2 a1 = some r) :
    Calls Try.prog 12 #[.agg #[.int .i64 a0_0, .string a0_1, .string a0_2], .int .i64 a1] w fun e w' => e = .returned (.int .i64 r) ∧ Below w.heap.size w w' := by
  have hu26 := Try.underlying26
  have HB := Aside0.mk (Below.refl w.heap.size w)
  have H : (if (wrap64 (a1 - (a0_1.size : Int))) < 0 then (some (-1)) else (if (wrap64 ((wrap64 (a1 - (a0_1.size : Int))) - (a0_2.size : Int))) < 0 then (some (-1)) else (some (wrap64 ((wrap64 (a1 - (a0_1.size : Int))) - (a0_2.size : Int)))))) = some r := h
  clear h
  by_cases c3 : (wrap64 (a1 - (a0_1.size : Int))) < 0
  · rw [if_pos c3] at H
    have c3b0 : decide ((wrap64 (a1 - (a0_1.size : Int))) < 0) = true := decide_eq_true c3
    clear c3
    obtain rfl := Option.some.inj H
    go_enter Try.func12, Try.ntmps12
    go_wp2_with (first | ((with_reducible refine gate_dst (N := 2) rfl ?_); refine box_event ?hg (N := 2) ?hd (cs := #[.int .i64 a0_0, .string a0_1, .string a0_2]) (t := 26) ?hr ?_; (case hd => rfl); (case hg => rfl); (case hr => first | (go_simp; done) | (go_simp; rfl)); intro gb101 hg w4 hbox hb; have n0_ := Aside0.mk (below_step (by repeat (first | (with_reducible first | exact HB.out | apply below_alloc | apply pw_below_drewN | apply below_drew1) | exact HB.out)) hb); have n1_ := Aside0.mk (hbox); have n2_ := Aside0.mk ((by rw [hg]; exact (below_size (by repeat (first | (with_reducible first | exact HB.out | apply below_alloc | apply pw_below_drewN | apply below_drew1) | exact HB.out))) : w.heap.size ≤ gb101)); have n3_ := Aside0.mk ((by rw [hg]; exact (below_size (by repeat (first | (with_reducible first | exact HB.out | apply below_alloc | apply pw_below_drewN | apply below_drew1) | exact HB.out))) : w.heap.size ≤ gb101)); clear HB; have HB := n0_; have BK101 := n1_; have GW101 := n2_; have GE101 := n3_; clear n0_ n1_ n2_ n3_; clear hb hbox hg; have hcz5_0 : w4.cell? ⟨gb101, 0, none⟩ = some (.int .i64 a0_0) := (blk_cell BK101.out 0).trans rfl; have hcz5_1 : w4.cell? ⟨gb101, 1, none⟩ = some (.string a0_1) := (blk_cell BK101.out 1).trans rfl; have hcz5_2 : w4.cell? ⟨gb101, 2, none⟩ = some (.string a0_2) := (blk_cell BK101.out 2).trans rfl; have hfz5_0 := blk_frozen BK101.out 0; have hfz5_1 := blk_frozen BK101.out 1; have hfz5_2 := blk_frozen BK101.out 2))
    go_ret
    exact ⟨by first | rfl | (simp [errW_none, errW_some] <;> rfl) | (simp [*, errW_none, errW_some] <;> rfl), by repeat (first | (with_reducible first | exact HB.out | apply below_alloc | apply pw_below_drewN | apply below_drew1 | refine below_set ?_ GE101.out) | exact HB.out)⟩
  · rw [if_neg c3] at H
    have c3b0 : decide ((wrap64 (a1 - (a0_1.size : Int))) < 0) = false := decide_eq_false c3
    clear c3
    by_cases c6 : (wrap64 ((wrap64 (a1 - (a0_1.size : Int))) - (a0_2.size : Int))) < 0
    · rw [if_pos c6] at H
      have c6b0 : decide ((wrap64 ((wrap64 (a1 - (a0_1.size : Int))) - (a0_2.size : Int))) < 0) = true := decide_eq_true c6
      clear c6
      obtain rfl := Option.some.inj H
      go_enter Try.func12, Try.ntmps12
      go_wp2_with (first | ((with_reducible refine gate_dst (N := 2) rfl ?_); refine box_event ?hg (N := 2) ?hd (cs := #[.int .i64 a0_0, .string a0_1, .string a0_2]) (t := 26) ?hr ?_; (case hd => rfl); (case hg => rfl); (case hr => first | (go_simp; done) | (go_simp; rfl)); intro gb101 hg w7 hbox hb; have n0_ := Aside0.mk (below_step (by repeat (first | (with_reducible first | exact HB.out | apply below_alloc | apply pw_below_drewN | apply below_drew1) | exact HB.out)) hb); have n1_ := Aside0.mk (hbox); have n2_ := Aside0.mk ((by rw [hg]; exact (below_size (by repeat (first | (with_reducible first | exact HB.out | apply below_alloc | apply pw_below_drewN | apply below_drew1) | exact HB.out))) : w.heap.size ≤ gb101)); have n3_ := Aside0.mk ((by rw [hg]; exact (below_size (by repeat (first | (with_reducible first | exact HB.out | apply below_alloc | apply pw_below_drewN | apply below_drew1) | exact HB.out))) : w.heap.size ≤ gb101)); clear HB; have HB := n0_; have BK101 := n1_; have GW101 := n2_; have GE101 := n3_; clear n0_ n1_ n2_ n3_; clear hb hbox hg; have hcz8_0 : w7.cell? ⟨gb101, 0, none⟩ = some (.int .i64 a0_0) := (blk_cell BK101.out 0).trans rfl; have hcz8_1 : w7.cell? ⟨gb101, 1, none⟩ = some (.string a0_1) := (blk_cell BK101.out 1).trans rfl; have hcz8_2 : w7.cell? ⟨gb101, 2, none⟩ = some (.string a0_2) := (blk_cell BK101.out 2).trans rfl; have hfz8_0 := blk_frozen BK101.out 0; have hfz8_1 := blk_frozen BK101.out 1; have hfz8_2 := blk_frozen BK101.out 2))
      go_ret
      exact ⟨by first | rfl | (simp [errW_none, errW_some] <;> rfl) | (simp [*, errW_none, errW_some] <;> rfl), by repeat (first | (with_reducible first | exact HB.out | apply below_alloc | apply pw_below_drewN | apply below_drew1 | refine below_set ?_ GE101.out) | exact HB.out)⟩
    · rw [if_neg c6] at H
      have c6b0 : decide ((wrap64 ((wrap64 (a1 - (a0_1.size : Int))) - (a0_2.size : Int))) < 0) = false := decide_eq_false c6
      clear c6
      obtain rfl := Option.some.inj H
      go_enter Try.func12, Try.ntmps12
      go_wp2_with (first | ((with_reducible refine gate_dst (N := 2) rfl ?_); refine box_event ?hg (N := 2) ?hd (cs := #[.int .i64 a0_0, .string a0_1, .string a0_2]) (t := 26) ?hr ?_; (case hd => rfl); (case hg => rfl); (case hr => first | (go_simp; done) | (go_simp; rfl)); intro gb101 hg w9 hbox hb; have n0_ := Aside0.mk (below_step (by repeat (first | (with_reducible first | exact HB.out | apply below_alloc | apply pw_below_drewN | apply below_drew1) | exact HB.out)) hb); have n1_ := Aside0.mk (hbox); have n2_ := Aside0.mk ((by rw [hg]; exact (below_size (by repeat (first | (with_reducible first | exact HB.out | apply below_alloc | apply pw_below_drewN | apply below_drew1) | exact HB.out))) : w.heap.size ≤ gb101)); have n3_ := Aside0.mk ((by rw [hg]; exact (below_size (by repeat (first | (with_reducible first | exact HB.out | apply below_alloc | apply pw_below_drewN | apply below_drew1) | exact HB.out))) : w.heap.size ≤ gb101)); clear HB; have HB := n0_; have BK101 := n1_; have GW101 := n2_; have GE101 := n3_; clear n0_ n1_ n2_ n3_; clear hb hbox hg; have hcz10_0 : w9.cell? ⟨gb101, 0, none⟩ = some (.int .i64 a0_0) := (blk_cell BK101.out 0).trans rfl; have hcz10_1 : w9.cell? ⟨gb101, 1, none⟩ = some (.string a0_1) := (blk_cell BK101.out 1).trans rfl; have hcz10_2 : w9.cell? ⟨gb101, 2, none⟩ = some (.string a0_2) := (blk_cell BK101.out 2).trans rfl; have hfz10_0 := blk_frozen BK101.out 0; have hfz10_1 := blk_frozen BK101.out 1; have hfz10_2 := blk_frozen BK101.out 2))
      go_ret
      exact ⟨by first | rfl | (simp [errW_none, errW_some] <;> rfl) | (simp [*, errW_none, errW_some] <;> rfl), by repeat (first | (with_reducible first | exact HB.out | apply below_alloc | apply pw_below_drewN | apply below_drew1 | refine below_set ?_ GE101.out) | exact HB.out)⟩

/-! ### spec_l01In: function 25 -/
def spec_l01In.f (a0 : Int) (a1 : Int) (a2 : Int) : Option (Bool) := if a0 ≥ a1 then (some (decide (a0 ≤ a2))) else (some false)
set_option maxHeartbeats 8000000 in
set_option maxRecDepth 100000 in
theorem spec_l01In.calls (a0 : Int) (a1 : Int) (a2 : Int) (r : Bool) (w : World) (h : spec_l01In.f a0 a1 a2 = some r) :
    Calls Try.prog 25 #[.int .i64 a0, .int .i64 a1, .int .i64 a2] w fun e w' => e = .returned (.bool r) ∧ Drawn0 w w' := by
  have H : (if a0 ≥ a1 then (some (decide (a0 ≤ a2))) else (some false)) = some r := h
  clear h
  by_cases c4 : a0 ≥ a1
  · rw [if_pos c4] at H
    have c4b0 : decide (a1 ≤ a0) = true := decide_eq_true c4
    clear c4
    obtain rfl := Option.some.inj H
    go_enter Try.func25, Try.ntmps25
    go_wp2
    go_ret
    exact ⟨by first | rfl | (simp; done) | (simp [*]; done), by repeat (first | exact Drawn0.refl _ | apply Drawn0.step)⟩
  · rw [if_neg c4] at H
    have c4b0 : decide (a1 ≤ a0) = false := decide_eq_false c4
    clear c4
    obtain rfl := Option.some.inj H
    go_enter Try.func25, Try.ntmps25
    go_wp2
    go_ret
    exact ⟨by first | rfl | (simp; done) | (simp [*]; done), by repeat (first | exact Drawn0.refl _ | apply Drawn0.step)⟩

/-! ### spec_CodeWord: function 8 -/
def spec_CodeWord.f (a0 : Int) : Option (ByteArray) := (spec_l01In.f a0 1 28).bind fun t102 => (if t102 = true then ((some (([(⟨#[]⟩ : ByteArray), (⟨#[114, 111, 111, 116]⟩ : ByteArray), (⟨#[116, 121, 112, 101, 45, 103, 111, 110, 101]⟩ : ByteArray), (⟨#[107, 105, 110, 100]⟩ : ByteArray), (⟨#[102, 105, 101, 108, 100, 45, 103, 111, 110, 101]⟩ : ByteArray), (⟨#[102, 105, 101, 108, 100, 45, 116, 121, 112, 101]⟩ : ByteArray), (⟨#[105, 110, 45, 103, 111, 110, 101]⟩ : ByteArray), (⟨#[105, 110, 45, 116, 121, 112, 101]⟩ : ByteArray), (⟨#[105, 110, 45, 110, 101, 101, 100]⟩ : ByteArray), (⟨#[100, 101, 102, 97, 117, 108, 116, 45, 103, 111, 110, 101]⟩ : ByteArray), (⟨#[118, 97, 108, 117, 101, 45, 103, 111, 110, 101]⟩ : ByteArray), (⟨#[109, 101, 109, 98, 101, 114, 45, 103, 111, 110, 101]⟩ : ByteArray), (⟨#[102, 97, 99, 101, 45, 103, 111, 110, 101]⟩ : ByteArray), (⟨#[100, 105, 114, 101, 99, 116, 105, 118, 101, 45, 103, 111, 110, 101]⟩ : ByteArray), (⟨#[112, 108, 97, 99, 101, 45, 103, 111, 110, 101]⟩ : ByteArray), (⟨#[114, 101, 112, 101, 97, 116, 45, 103, 111, 110, 101]⟩ : ByteArray), (⟨#[114, 111, 111, 116, 45, 110, 101, 119]⟩ : ByteArray), (⟨#[116, 121, 112, 101, 45, 110, 101, 119]⟩ : ByteArray), (⟨#[102, 105, 101, 108, 100, 45, 110, 101, 119]⟩ : ByteArray), (⟨#[105, 110, 45, 108, 111, 111, 115, 101]⟩ : ByteArray), (⟨#[105, 110, 45, 110, 101, 119]⟩ : ByteArray), (⟨#[100, 101, 102, 97, 117, 108, 116]⟩ : ByteArray), (⟨#[118, 97, 108, 117, 101, 45, 110, 101, 119]⟩ : ByteArray), (⟨#[109, 101, 109, 98, 101, 114, 45, 110, 101, 119]⟩ : ByteArray), (⟨#[102, 97, 99, 101, 45, 110, 101, 119]⟩ : ByteArray), (⟨#[100, 105, 114, 101, 99, 116, 105, 118, 101, 45, 110, 101, 119]⟩ : ByteArray), (⟨#[112, 108, 97, 99, 101, 45, 110, 101, 119]⟩ : ByteArray), (⟨#[114, 101, 112, 101, 97, 116, 45, 110, 101, 119]⟩ : ByteArray), (⟨#[100, 101, 115, 99]⟩ : ByteArray)] : List ByteArray) : List ByteArray)).bind fun y103 => (if 0 ≤ a0 then (if a0 < (y103.length : Int) then (some (rdOf ByteArray.empty y103 a0)) else (none)) else (none))) else (some (⟨#[63]⟩ : ByteArray)))
set_option maxHeartbeats 8000000 in
set_option maxRecDepth 100000 in
theorem spec_CodeWord.calls (a0 : Int) (r : ByteArray) (w : World) (h : spec_CodeWord.f a0 = some r) :
    Calls Try.prog 8 #[.int .i64 a0] w fun e w' => e = .returned (.string r) ∧ Below w.heap.size w w' := by
  have HB := Aside0.mk (Below.refl w.heap.size w)
  have H : ((spec_l01In.f a0 1 28).bind fun t102 => (if t102 = true then ((some (([(⟨#[]⟩ : ByteArray), (⟨#[114, 111, 111, 116]⟩ : ByteArray), (⟨#[116, 121, 112, 101, 45, 103, 111, 110, 101]⟩ : ByteArray), (⟨#[107, 105, 110, 100]⟩ : ByteArray), (⟨#[102, 105, 101, 108, 100, 45, 103, 111, 110, 101]⟩ : ByteArray), (⟨#[102, 105, 101, 108, 100, 45, 116, 121, 112, 101]⟩ : ByteArray), (⟨#[105, 110, 45, 103, 111, 110, 101]⟩ : ByteArray), (⟨#[105, 110, 45, 116, 121, 112, 101]⟩ : ByteArray), (⟨#[105, 110, 45, 110, 101, 101, 100]⟩ : ByteArray), (⟨#[100, 101, 102, 97, 117, 108, 116, 45, 103, 111, 110, 101]⟩ : ByteArray), (⟨#[118, 97, 108, 117, 101, 45, 103, 111, 110, 101]⟩ : ByteArray), (⟨#[109, 101, 109, 98, 101, 114, 45, 103, 111, 110, 101]⟩ : ByteArray), (⟨#[102, 97, 99, 101, 45, 103, 111, 110, 101]⟩ : ByteArray), (⟨#[100, 105, 114, 101, 99, 116, 105, 118, 101, 45, 103, 111, 110, 101]⟩ : ByteArray), (⟨#[112, 108, 97, 99, 101, 45, 103, 111, 110, 101]⟩ : ByteArray), (⟨#[114, 101, 112, 101, 97, 116, 45, 103, 111, 110, 101]⟩ : ByteArray), (⟨#[114, 111, 111, 116, 45, 110, 101, 119]⟩ : ByteArray), (⟨#[116, 121, 112, 101, 45, 110, 101, 119]⟩ : ByteArray), (⟨#[102, 105, 101, 108, 100, 45, 110, 101, 119]⟩ : ByteArray), (⟨#[105, 110, 45, 108, 111, 111, 115, 101]⟩ : ByteArray), (⟨#[105, 110, 45, 110, 101, 119]⟩ : ByteArray), (⟨#[100, 101, 102, 97, 117, 108, 116]⟩ : ByteArray), (⟨#[118, 97, 108, 117, 101, 45, 110, 101, 119]⟩ : ByteArray), (⟨#[109, 101, 109, 98, 101, 114, 45, 110, 101, 119]⟩ : ByteArray), (⟨#[102, 97, 99, 101, 45, 110, 101, 119]⟩ : ByteArray), (⟨#[100, 105, 114, 101, 99, 116, 105, 118, 101, 45, 110, 101, 119]⟩ : ByteArray), (⟨#[112, 108, 97, 99, 101, 45, 110, 101, 119]⟩ : ByteArray), (⟨#[114, 101, 112, 101, 97, 116, 45, 110, 101, 119]⟩ : ByteArray), (⟨#[100, 101, 115, 99]⟩ : ByteArray)] : List ByteArray) : List ByteArray)).bind fun y103 => (if 0 ≤ a0 then (if a0 < (y103.length : Int) then (some (rdOf ByteArray.empty y103 a0)) else (none)) else (none))) else (some (⟨#[63]⟩ : ByteArray)))) = some r := h
  clear h
  replace H := Option.bind_eq_some_iff.mp H
  obtain ⟨t102, A20, H⟩ := H
  replace H : (if t102 = true then ((some (([(⟨#[]⟩ : ByteArray), (⟨#[114, 111, 111, 116]⟩ : ByteArray), (⟨#[116, 121, 112, 101, 45, 103, 111, 110, 101]⟩ : ByteArray), (⟨#[107, 105, 110, 100]⟩ : ByteArray), (⟨#[102, 105, 101, 108, 100, 45, 103, 111, 110, 101]⟩ : ByteArray), (⟨#[102, 105, 101, 108, 100, 45, 116, 121, 112, 101]⟩ : ByteArray), (⟨#[105, 110, 45, 103, 111, 110, 101]⟩ : ByteArray), (⟨#[105, 110, 45, 116, 121, 112, 101]⟩ : ByteArray), (⟨#[105, 110, 45, 110, 101, 101, 100]⟩ : ByteArray), (⟨#[100, 101, 102, 97, 117, 108, 116, 45, 103, 111, 110, 101]⟩ : ByteArray), (⟨#[118, 97, 108, 117, 101, 45, 103, 111, 110, 101]⟩ : ByteArray), (⟨#[109, 101, 109, 98, 101, 114, 45, 103, 111, 110, 101]⟩ : ByteArray), (⟨#[102, 97, 99, 101, 45, 103, 111, 110, 101]⟩ : ByteArray), (⟨#[100, 105, 114, 101, 99, 116, 105, 118, 101, 45, 103, 111, 110, 101]⟩ : ByteArray), (⟨#[112, 108, 97, 99, 101, 45, 103, 111, 110, 101]⟩ : ByteArray), (⟨#[114, 101, 112, 101, 97, 116, 45, 103, 111, 110, 101]⟩ : ByteArray), (⟨#[114, 111, 111, 116, 45, 110, 101, 119]⟩ : ByteArray), (⟨#[116, 121, 112, 101, 45, 110, 101, 119]⟩ : ByteArray), (⟨#[102, 105, 101, 108, 100, 45, 110, 101, 119]⟩ : ByteArray), (⟨#[105, 110, 45, 108, 111, 111, 115, 101]⟩ : ByteArray), (⟨#[105, 110, 45, 110, 101, 119]⟩ : ByteArray), (⟨#[100, 101, 102, 97, 117, 108, 116]⟩ : ByteArray), (⟨#[118, 97, 108, 117, 101, 45, 110, 101, 119]⟩ : ByteArray), (⟨#[109, 101, 109, 98, 101, 114, 45, 110, 101, 119]⟩ : ByteArray), (⟨#[102, 97, 99, 101, 45, 110, 101, 119]⟩ : ByteArray), (⟨#[100, 105, 114, 101, 99, 116, 105, 118, 101, 45, 110, 101, 119]⟩ : ByteArray), (⟨#[112, 108, 97, 99, 101, 45, 110, 101, 119]⟩ : ByteArray), (⟨#[114, 101, 112, 101, 97, 116, 45, 110, 101, 119]⟩ : ByteArray), (⟨#[100, 101, 115, 99]⟩ : ByteArray)] : List ByteArray) : List ByteArray)).bind fun y103 => (if 0 ≤ a0 then (if a0 < (y103.length : Int) then (some (rdOf ByteArray.empty y103 a0)) else (none)) else (none))) else (some (⟨#[63]⟩ : ByteArray))) = some r := H
  have A2 := Aside0.mk A20
  clear A20
  by_cases c3 : t102 = true
  · subst c3
    have H1 : ((some (([(⟨#[]⟩ : ByteArray), (⟨#[114, 111, 111, 116]⟩ : ByteArray), (⟨#[116, 121, 112, 101, 45, 103, 111, 110, 101]⟩ : ByteArray), (⟨#[107, 105, 110, 100]⟩ : ByteArray), (⟨#[102, 105, 101, 108, 100, 45, 103, 111, 110, 101]⟩ : ByteArray), (⟨#[102, 105, 101, 108, 100, 45, 116, 121, 112, 101]⟩ : ByteArray), (⟨#[105, 110, 45, 103, 111, 110, 101]⟩ : ByteArray), (⟨#[105, 110, 45, 116, 121, 112, 101]⟩ : ByteArray), (⟨#[105, 110, 45, 110, 101, 101, 100]⟩ : ByteArray), (⟨#[100, 101, 102, 97, 117, 108, 116, 45, 103, 111, 110, 101]⟩ : ByteArray), (⟨#[118, 97, 108, 117, 101, 45, 103, 111, 110, 101]⟩ : ByteArray), (⟨#[109, 101, 109, 98, 101, 114, 45, 103, 111, 110, 101]⟩ : ByteArray), (⟨#[102, 97, 99, 101, 45, 103, 111, 110, 101]⟩ : ByteArray), (⟨#[100, 105, 114, 101, 99, 116, 105, 118, 101, 45, 103, 111, 110, 101]⟩ : ByteArray), (⟨#[112, 108, 97, 99, 101, 45, 103, 111, 110, 101]⟩ : ByteArray), (⟨#[114, 101, 112, 101, 97, 116, 45, 103, 111, 110, 101]⟩ : ByteArray), (⟨#[114, 111, 111, 116, 45, 110, 101, 119]⟩ : ByteArray), (⟨#[116, 121, 112, 101, 45, 110, 101, 119]⟩ : ByteArray), (⟨#[102, 105, 101, 108, 100, 45, 110, 101, 119]⟩ : ByteArray), (⟨#[105, 110, 45, 108, 111, 111, 115, 101]⟩ : ByteArray), (⟨#[105, 110, 45, 110, 101, 119]⟩ : ByteArray), (⟨#[100, 101, 102, 97, 117, 108, 116]⟩ : ByteArray), (⟨#[118, 97, 108, 117, 101, 45, 110, 101, 119]⟩ : ByteArray), (⟨#[109, 101, 109, 98, 101, 114, 45, 110, 101, 119]⟩ : ByteArray), (⟨#[102, 97, 99, 101, 45, 110, 101, 119]⟩ : ByteArray), (⟨#[100, 105, 114, 101, 99, 116, 105, 118, 101, 45, 110, 101, 119]⟩ : ByteArray), (⟨#[112, 108, 97, 99, 101, 45, 110, 101, 119]⟩ : ByteArray), (⟨#[114, 101, 112, 101, 97, 116, 45, 110, 101, 119]⟩ : ByteArray), (⟨#[100, 101, 115, 99]⟩ : ByteArray)] : List ByteArray) : List ByteArray)).bind fun y103 => (if 0 ≤ a0 then (if a0 < (y103.length : Int) then (some (rdOf ByteArray.empty y103 a0)) else (none)) else (none))) = some r := by rw [if_pos rfl] at H; exact H
    clear H
    have H := H1
    clear H1
    obtain ⟨y103, hy103⟩ : ∃ y_ : List ByteArray, y_ = (([(⟨#[]⟩ : ByteArray), (⟨#[114, 111, 111, 116]⟩ : ByteArray), (⟨#[116, 121, 112, 101, 45, 103, 111, 110, 101]⟩ : ByteArray), (⟨#[107, 105, 110, 100]⟩ : ByteArray), (⟨#[102, 105, 101, 108, 100, 45, 103, 111, 110, 101]⟩ : ByteArray), (⟨#[102, 105, 101, 108, 100, 45, 116, 121, 112, 101]⟩ : ByteArray), (⟨#[105, 110, 45, 103, 111, 110, 101]⟩ : ByteArray), (⟨#[105, 110, 45, 116, 121, 112, 101]⟩ : ByteArray), (⟨#[105, 110, 45, 110, 101, 101, 100]⟩ : ByteArray), (⟨#[100, 101, 102, 97, 117, 108, 116, 45, 103, 111, 110, 101]⟩ : ByteArray), (⟨#[118, 97, 108, 117, 101, 45, 103, 111, 110, 101]⟩ : ByteArray), (⟨#[109, 101, 109, 98, 101, 114, 45, 103, 111, 110, 101]⟩ : ByteArray), (⟨#[102, 97, 99, 101, 45, 103, 111, 110, 101]⟩ : ByteArray), (⟨#[100, 105, 114, 101, 99, 116, 105, 118, 101, 45, 103, 111, 110, 101]⟩ : ByteArray), (⟨#[112, 108, 97, 99, 101, 45, 103, 111, 110, 101]⟩ : ByteArray), (⟨#[114, 101, 112, 101, 97, 116, 45, 103, 111, 110, 101]⟩ : ByteArray), (⟨#[114, 111, 111, 116, 45, 110, 101, 119]⟩ : ByteArray), (⟨#[116, 121, 112, 101, 45, 110, 101, 119]⟩ : ByteArray), (⟨#[102, 105, 101, 108, 100, 45, 110, 101, 119]⟩ : ByteArray), (⟨#[105, 110, 45, 108, 111, 111, 115, 101]⟩ : ByteArray), (⟨#[105, 110, 45, 110, 101, 119]⟩ : ByteArray), (⟨#[100, 101, 102, 97, 117, 108, 116]⟩ : ByteArray), (⟨#[118, 97, 108, 117, 101, 45, 110, 101, 119]⟩ : ByteArray), (⟨#[109, 101, 109, 98, 101, 114, 45, 110, 101, 119]⟩ : ByteArray), (⟨#[102, 97, 99, 101, 45, 110, 101, 119]⟩ : ByteArray), (⟨#[100, 105, 114, 101, 99, 116, 105, 118, 101, 45, 110, 101, 119]⟩ : ByteArray), (⟨#[112, 108, 97, 99, 101, 45, 110, 101, 119]⟩ : ByteArray), (⟨#[114, 101, 112, 101, 97, 116, 45, 110, 101, 119]⟩ : ByteArray), (⟨#[100, 101, 115, 99]⟩ : ByteArray)] : List ByteArray)) := ⟨_, rfl⟩
    replace H : (if 0 ≤ a0 then (if a0 < (y103.length : Int) then (some (rdOf ByteArray.empty y103 a0)) else (none)) else (none)) = some r := by first | (rw [hy103]; with_reducible exact H) | (have H2_ := (Option.bind_some _ _).symm.trans H; rw [hy103]; with_reducible exact H2_) | (have H2_ := (Option.bind_some _ _).symm.trans H; with_reducible exact H2_) | with_reducible exact H | (rw [hy103]; exact H) | exact H
    have Ny103 := Aside0.mk hy103
    clear hy103
    by_cases c4 : 0 ≤ a0
    · rw [if_pos c4] at H
      have c4b0 : decide (0 ≤ a0) = true := decide_eq_true c4
      clear c4
      by_cases c5 : a0 < (y103.length : Int)
      · rw [if_pos c5] at H
        have c5b0 : decide (a0 < (y103.length : Int)) = true := decide_eq_true c5
        clear c5
        obtain rfl := Option.some.inj H
        go_enter Try.func8, Try.ntmps8
        go_wp2_with (first | ((with_reducible refine gate_callee (f := 25) rfl ?_); refine goesL_ (some 4) rfl rfl Try.func25 (by kernel_rfl) rfl #[.int .i64 a0, .int .i64 1, .int .i64 28] rfl (by (try simp only [List.map_toArray, List.map_cons, List.map_nil]); first | done | rfl | (simp only [List.length_drop, List.length_take]; rfl)) ?_; (with_reducible refine (spec_l01In.calls a0 1 28 true _ A2.out).mono ?_); rintro e w' ⟨rfl, ⟨nd, rfl⟩⟩; refine ⟨_, rfl, ?_⟩) | ((with_reducible refine gate_dst (N := 6) rfl ?_); refine Kd.R_lit Kd.string _ 9 ?hg (N := 6) ?hd (xs := ([(⟨#[]⟩ : ByteArray), (⟨#[114, 111, 111, 116]⟩ : ByteArray), (⟨#[116, 121, 112, 101, 45, 103, 111, 110, 101]⟩ : ByteArray), (⟨#[107, 105, 110, 100]⟩ : ByteArray), (⟨#[102, 105, 101, 108, 100, 45, 103, 111, 110, 101]⟩ : ByteArray), (⟨#[102, 105, 101, 108, 100, 45, 116, 121, 112, 101]⟩ : ByteArray), (⟨#[105, 110, 45, 103, 111, 110, 101]⟩ : ByteArray), (⟨#[105, 110, 45, 116, 121, 112, 101]⟩ : ByteArray), (⟨#[105, 110, 45, 110, 101, 101, 100]⟩ : ByteArray), (⟨#[100, 101, 102, 97, 117, 108, 116, 45, 103, 111, 110, 101]⟩ : ByteArray), (⟨#[118, 97, 108, 117, 101, 45, 103, 111, 110, 101]⟩ : ByteArray), (⟨#[109, 101, 109, 98, 101, 114, 45, 103, 111, 110, 101]⟩ : ByteArray), (⟨#[102, 97, 99, 101, 45, 103, 111, 110, 101]⟩ : ByteArray), (⟨#[100, 105, 114, 101, 99, 116, 105, 118, 101, 45, 103, 111, 110, 101]⟩ : ByteArray), (⟨#[112, 108, 97, 99, 101, 45, 103, 111, 110, 101]⟩ : ByteArray), (⟨#[114, 101, 112, 101, 97, 116, 45, 103, 111, 110, 101]⟩ : ByteArray), (⟨#[114, 111, 111, 116, 45, 110, 101, 119]⟩ : ByteArray), (⟨#[116, 121, 112, 101, 45, 110, 101, 119]⟩ : ByteArray), (⟨#[102, 105, 101, 108, 100, 45, 110, 101, 119]⟩ : ByteArray), (⟨#[105, 110, 45, 108, 111, 111, 115, 101]⟩ : ByteArray), (⟨#[105, 110, 45, 110, 101, 119]⟩ : ByteArray), (⟨#[100, 101, 102, 97, 117, 108, 116]⟩ : ByteArray), (⟨#[118, 97, 108, 117, 101, 45, 110, 101, 119]⟩ : ByteArray), (⟨#[109, 101, 109, 98, 101, 114, 45, 110, 101, 119]⟩ : ByteArray), (⟨#[102, 97, 99, 101, 45, 110, 101, 119]⟩ : ByteArray), (⟨#[100, 105, 114, 101, 99, 116, 105, 118, 101, 45, 110, 101, 119]⟩ : ByteArray), (⟨#[112, 108, 97, 99, 101, 45, 110, 101, 119]⟩ : ByteArray), (⟨#[114, 101, 112, 101, 97, 116, 45, 110, 101, 119]⟩ : ByteArray), (⟨#[100, 101, 115, 99]⟩ : ByteArray)] : List ByteArray)) (inner := [.string (⟨#[]⟩ : ByteArray), .string (⟨#[114, 111, 111, 116]⟩ : ByteArray), .string (⟨#[116, 121, 112, 101, 45, 103, 111, 110, 101]⟩ : ByteArray), .string (⟨#[107, 105, 110, 100]⟩ : ByteArray), .string (⟨#[102, 105, 101, 108, 100, 45, 103, 111, 110, 101]⟩ : ByteArray), .string (⟨#[102, 105, 101, 108, 100, 45, 116, 121, 112, 101]⟩ : ByteArray), .string (⟨#[105, 110, 45, 103, 111, 110, 101]⟩ : ByteArray), .string (⟨#[105, 110, 45, 116, 121, 112, 101]⟩ : ByteArray), .string (⟨#[105, 110, 45, 110, 101, 101, 100]⟩ : ByteArray), .string (⟨#[100, 101, 102, 97, 117, 108, 116, 45, 103, 111, 110, 101]⟩ : ByteArray), .string (⟨#[118, 97, 108, 117, 101, 45, 103, 111, 110, 101]⟩ : ByteArray), .string (⟨#[109, 101, 109, 98, 101, 114, 45, 103, 111, 110, 101]⟩ : ByteArray), .string (⟨#[102, 97, 99, 101, 45, 103, 111, 110, 101]⟩ : ByteArray), .string (⟨#[100, 105, 114, 101, 99, 116, 105, 118, 101, 45, 103, 111, 110, 101]⟩ : ByteArray), .string (⟨#[112, 108, 97, 99, 101, 45, 103, 111, 110, 101]⟩ : ByteArray), .string (⟨#[114, 101, 112, 101, 97, 116, 45, 103, 111, 110, 101]⟩ : ByteArray), .string (⟨#[114, 111, 111, 116, 45, 110, 101, 119]⟩ : ByteArray), .string (⟨#[116, 121, 112, 101, 45, 110, 101, 119]⟩ : ByteArray), .string (⟨#[102, 105, 101, 108, 100, 45, 110, 101, 119]⟩ : ByteArray), .string (⟨#[105, 110, 45, 108, 111, 111, 115, 101]⟩ : ByteArray), .string (⟨#[105, 110, 45, 110, 101, 119]⟩ : ByteArray), .string (⟨#[100, 101, 102, 97, 117, 108, 116]⟩ : ByteArray), .string (⟨#[118, 97, 108, 117, 101, 45, 110, 101, 119]⟩ : ByteArray), .string (⟨#[109, 101, 109, 98, 101, 114, 45, 110, 101, 119]⟩ : ByteArray), .string (⟨#[102, 97, 99, 101, 45, 110, 101, 119]⟩ : ByteArray), .string (⟨#[100, 105, 114, 101, 99, 116, 105, 118, 101, 45, 110, 101, 119]⟩ : ByteArray), .string (⟨#[112, 108, 97, 99, 101, 45, 110, 101, 119]⟩ : ByteArray), .string (⟨#[114, 101, 112, 101, 97, 116, 45, 110, 101, 119]⟩ : ByteArray), .string (⟨#[100, 101, 115, 99]⟩ : ByteArray)]) (ok := fun _ => True) (okp := fun _ => True) ?hr ?hp (fun _ hk => hk) trivial (Below.refl _ _) (Nat.le_refl _) (by simp) ?_; (case hd => rfl); (case hg => rfl); (case hr => first | (go_simp; done) | (go_simp; rfl)); (case hp => exact (Reps.one (show Kd.M Kd.string _ _ _ (⟨#[]⟩ : ByteArray) [.string (⟨#[]⟩ : ByteArray)] from rfl) (Reps.one (show Kd.M Kd.string _ _ _ (⟨#[114, 111, 111, 116]⟩ : ByteArray) [.string (⟨#[114, 111, 111, 116]⟩ : ByteArray)] from rfl) (Reps.one (show Kd.M Kd.string _ _ _ (⟨#[116, 121, 112, 101, 45, 103, 111, 110, 101]⟩ : ByteArray) [.string (⟨#[116, 121, 112, 101, 45, 103, 111, 110, 101]⟩ : ByteArray)] from rfl) (Reps.one (show Kd.M Kd.string _ _ _ (⟨#[107, 105, 110, 100]⟩ : ByteArray) [.string (⟨#[107, 105, 110, 100]⟩ : ByteArray)] from rfl) (Reps.one (show Kd.M Kd.string _ _ _ (⟨#[102, 105, 101, 108, 100, 45, 103, 111, 110, 101]⟩ : ByteArray) [.string (⟨#[102, 105, 101, 108, 100, 45, 103, 111, 110, 101]⟩ : ByteArray)] from rfl) (Reps.one (show Kd.M Kd.string _ _ _ (⟨#[102, 105, 101, 108, 100, 45, 116, 121, 112, 101]⟩ : ByteArray) [.string (⟨#[102, 105, 101, 108, 100, 45, 116, 121, 112, 101]⟩ : ByteArray)] from rfl) (Reps.one (show Kd.M Kd.string _ _ _ (⟨#[105, 110, 45, 103, 111, 110, 101]⟩ : ByteArray) [.string (⟨#[105, 110, 45, 103, 111, 110, 101]⟩ : ByteArray)] from rfl) (Reps.one (show Kd.M Kd.string _ _ _ (⟨#[105, 110, 45, 116, 121, 112, 101]⟩ : ByteArray) [.string (⟨#[105, 110, 45, 116, 121, 112, 101]⟩ : ByteArray)] from rfl) (Reps.one (show Kd.M Kd.string _ _ _ (⟨#[105, 110, 45, 110, 101, 101, 100]⟩ : ByteArray) [.string (⟨#[105, 110, 45, 110, 101, 101, 100]⟩ : ByteArray)] from rfl) (Reps.one (show Kd.M Kd.string _ _ _ (⟨#[100, 101, 102, 97, 117, 108, 116, 45, 103, 111, 110, 101]⟩ : ByteArray) [.string (⟨#[100, 101, 102, 97, 117, 108, 116, 45, 103, 111, 110, 101]⟩ : ByteArray)] from rfl) (Reps.one (show Kd.M Kd.string _ _ _ (⟨#[118, 97, 108, 117, 101, 45, 103, 111, 110, 101]⟩ : ByteArray) [.string (⟨#[118, 97, 108, 117, 101, 45, 103, 111, 110, 101]⟩ : ByteArray)] from rfl) (Reps.one (show Kd.M Kd.string _ _ _ (⟨#[109, 101, 109, 98, 101, 114, 45, 103, 111, 110, 101]⟩ : ByteArray) [.string (⟨#[109, 101, 109, 98, 101, 114, 45, 103, 111, 110, 101]⟩ : ByteArray)] from rfl) (Reps.one (show Kd.M Kd.string _ _ _ (⟨#[102, 97, 99, 101, 45, 103, 111, 110, 101]⟩ : ByteArray) [.string (⟨#[102, 97, 99, 101, 45, 103, 111, 110, 101]⟩ : ByteArray)] from rfl) (Reps.one (show Kd.M Kd.string _ _ _ (⟨#[100, 105, 114, 101, 99, 116, 105, 118, 101, 45, 103, 111, 110, 101]⟩ : ByteArray) [.string (⟨#[100, 105, 114, 101, 99, 116, 105, 118, 101, 45, 103, 111, 110, 101]⟩ : ByteArray)] from rfl) (Reps.one (show Kd.M Kd.string _ _ _ (⟨#[112, 108, 97, 99, 101, 45, 103, 111, 110, 101]⟩ : ByteArray) [.string (⟨#[112, 108, 97, 99, 101, 45, 103, 111, 110, 101]⟩ : ByteArray)] from rfl) (Reps.one (show Kd.M Kd.string _ _ _ (⟨#[114, 101, 112, 101, 97, 116, 45, 103, 111, 110, 101]⟩ : ByteArray) [.string (⟨#[114, 101, 112, 101, 97, 116, 45, 103, 111, 110, 101]⟩ : ByteArray)] from rfl) (Reps.one (show Kd.M Kd.string _ _ _ (⟨#[114, 111, 111, 116, 45, 110, 101, 119]⟩ : ByteArray) [.string (⟨#[114, 111, 111, 116, 45, 110, 101, 119]⟩ : ByteArray)] from rfl) (Reps.one (show Kd.M Kd.string _ _ _ (⟨#[116, 121, 112, 101, 45, 110, 101, 119]⟩ : ByteArray) [.string (⟨#[116, 121, 112, 101, 45, 110, 101, 119]⟩ : ByteArray)] from rfl) (Reps.one (show Kd.M Kd.string _ _ _ (⟨#[102, 105, 101, 108, 100, 45, 110, 101, 119]⟩ : ByteArray) [.string (⟨#[102, 105, 101, 108, 100, 45, 110, 101, 119]⟩ : ByteArray)] from rfl) (Reps.one (show Kd.M Kd.string _ _ _ (⟨#[105, 110, 45, 108, 111, 111, 115, 101]⟩ : ByteArray) [.string (⟨#[105, 110, 45, 108, 111, 111, 115, 101]⟩ : ByteArray)] from rfl) (Reps.one (show Kd.M Kd.string _ _ _ (⟨#[105, 110, 45, 110, 101, 119]⟩ : ByteArray) [.string (⟨#[105, 110, 45, 110, 101, 119]⟩ : ByteArray)] from rfl) (Reps.one (show Kd.M Kd.string _ _ _ (⟨#[100, 101, 102, 97, 117, 108, 116]⟩ : ByteArray) [.string (⟨#[100, 101, 102, 97, 117, 108, 116]⟩ : ByteArray)] from rfl) (Reps.one (show Kd.M Kd.string _ _ _ (⟨#[118, 97, 108, 117, 101, 45, 110, 101, 119]⟩ : ByteArray) [.string (⟨#[118, 97, 108, 117, 101, 45, 110, 101, 119]⟩ : ByteArray)] from rfl) (Reps.one (show Kd.M Kd.string _ _ _ (⟨#[109, 101, 109, 98, 101, 114, 45, 110, 101, 119]⟩ : ByteArray) [.string (⟨#[109, 101, 109, 98, 101, 114, 45, 110, 101, 119]⟩ : ByteArray)] from rfl) (Reps.one (show Kd.M Kd.string _ _ _ (⟨#[102, 97, 99, 101, 45, 110, 101, 119]⟩ : ByteArray) [.string (⟨#[102, 97, 99, 101, 45, 110, 101, 119]⟩ : ByteArray)] from rfl) (Reps.one (show Kd.M Kd.string _ _ _ (⟨#[100, 105, 114, 101, 99, 116, 105, 118, 101, 45, 110, 101, 119]⟩ : ByteArray) [.string (⟨#[100, 105, 114, 101, 99, 116, 105, 118, 101, 45, 110, 101, 119]⟩ : ByteArray)] from rfl) (Reps.one (show Kd.M Kd.string _ _ _ (⟨#[112, 108, 97, 99, 101, 45, 110, 101, 119]⟩ : ByteArray) [.string (⟨#[112, 108, 97, 99, 101, 45, 110, 101, 119]⟩ : ByteArray)] from rfl) (Reps.one (show Kd.M Kd.string _ _ _ (⟨#[114, 101, 112, 101, 97, 116, 45, 110, 101, 119]⟩ : ByteArray) [.string (⟨#[114, 101, 112, 101, 97, 116, 45, 110, 101, 119]⟩ : ByteArray)] from rfl) (Reps.one (show Kd.M Kd.string _ _ _ (⟨#[100, 101, 115, 99]⟩ : ByteArray) [.string (⟨#[100, 101, 115, 99]⟩ : ByteArray)] from rfl) (Reps.none _ _))))))))))))))))))))))))))))))); intro v104 w6 ho7 hb hg_ hnew_; clear hg_ hnew_; (first | rw [← Ny103.out] at ho7 | (simp only [Int.reduceToNat] at ho7; rw [← Ny103.out] at ho7)); have n0_ := Aside0.mk (Kd.R_lower ho7 (below_size (by repeat (first | (with_reducible first | exact HB.out | apply below_alloc | apply pw_below_drewN | apply below_drew1) | exact HB.out)))); have n1_ := Aside0.mk (below_step (by repeat (first | (with_reducible first | exact HB.out | apply below_alloc | apply pw_below_drewN | apply below_drew1) | exact HB.out)) hb); clear HB; have HO105 := n0_; have HB := n1_; clear n0_ n1_; clear hb ho7; obtain ⟨Ao8, co8, eo8⟩ := Kd.R_slice HO105.out; subst eo8; have p106 : 0 ≤ (a0 : Int) := of_decide_eq_true (by first | (with_reducible assumption) | assumption); have q106 : a0 < (y103.length : Int) := of_decide_eq_true (by first | (with_reducible assumption) | assumption); obtain ⟨ad106, e106, hx106_0⟩ := Kd.at_string (Kd.R_reads' HO105.out).2.2 a0 p106 q106; cases e106; replace p106 := eq_true p106; replace q106 := eq_true q106))
        go_ret
        exact ⟨by first | rfl | (simp [errW_none, errW_some] <;> rfl) | (simp [*, errW_none, errW_some] <;> rfl), by repeat (first | (with_reducible first | exact HB.out | apply below_alloc | apply pw_below_drewN | apply below_drew1) | exact HB.out)⟩
      · rw [if_neg c5] at H
        exact absurd H (by simp)
    · rw [if_neg c4] at H
      exact absurd H (by simp)
  · replace c3 := Bool.eq_false_iff.mpr c3
    subst c3
    have H1 : (some (⟨#[63]⟩ : ByteArray)) = some r := by rw [if_neg (show ¬ (false = true) by decide)] at H; exact H
    clear H
    have H := H1
    clear H1
    obtain rfl := Option.some.inj H
    go_enter Try.func8, Try.ntmps8
    go_wp2_with (first | ((with_reducible refine gate_callee (f := 25) rfl ?_); refine goesL_ (some 4) rfl rfl Try.func25 (by kernel_rfl) rfl #[.int .i64 a0, .int .i64 1, .int .i64 28] rfl (by (try simp only [List.map_toArray, List.map_cons, List.map_nil]); first | done | rfl | (simp only [List.length_drop, List.length_take]; rfl)) ?_; (with_reducible refine (spec_l01In.calls a0 1 28 false _ A2.out).mono ?_); rintro e w' ⟨rfl, ⟨nd, rfl⟩⟩; refine ⟨_, rfl, ?_⟩))
    go_ret
    exact ⟨by first | rfl | (simp [errW_none, errW_some] <;> rfl) | (simp [*, errW_none, errW_some] <;> rfl), by repeat (first | (with_reducible first | exact HB.out | apply below_alloc | apply pw_below_drewN | apply below_drew1) | exact HB.out)⟩

/-! ### spec_ClassOf: function 10 -/
def spec_ClassOf.f (a0 : Int) : Option (Int) := (spec_l01In.f a0 1 28).bind fun t107 => (if t107 = true then (if a0 ≤ 15 then (some 1) else ((spec_l01In.f a0 20 24).bind fun t108 => (if t108 = true then (some 2) else (some 3)))) else (some 0))
set_option maxHeartbeats 8000000 in
set_option maxRecDepth 100000 in
theorem spec_ClassOf.calls (a0 : Int) (r : Int) (w : World) (h : spec_ClassOf.f a0 = some r) :
    Calls Try.prog 10 #[.int .i64 a0] w fun e w' => e = .returned (.int .i64 r) ∧ Drawn0 w w' := by
  have H : ((spec_l01In.f a0 1 28).bind fun t107 => (if t107 = true then (if a0 ≤ 15 then (some 1) else ((spec_l01In.f a0 20 24).bind fun t108 => (if t108 = true then (some 2) else (some 3)))) else (some 0))) = some r := h
  clear h
  replace H := Option.bind_eq_some_iff.mp H
  obtain ⟨t107, A20, H⟩ := H
  replace H : (if t107 = true then (if a0 ≤ 15 then (some 1) else ((spec_l01In.f a0 20 24).bind fun t108 => (if t108 = true then (some 2) else (some 3)))) else (some 0)) = some r := H
  have A2 := Aside0.mk A20
  clear A20
  by_cases c3 : t107 = true
  · subst c3
    have H1 : (if a0 ≤ 15 then (some 1) else ((spec_l01In.f a0 20 24).bind fun t108 => (if t108 = true then (some 2) else (some 3)))) = some r := by rw [if_pos rfl] at H; exact H
    clear H
    have H := H1
    clear H1
    by_cases c4 : a0 ≤ 15
    · rw [if_pos c4] at H
      have c4b0 : decide (a0 ≤ 15) = true := decide_eq_true c4
      clear c4
      obtain rfl := Option.some.inj H
      go_enter Try.func10, Try.ntmps10
      go_wp2_with (first | ((with_reducible refine gate_callee (f := 25) rfl ?_); refine goesL_ (some 5) rfl rfl Try.func25 (by kernel_rfl) rfl #[.int .i64 a0, .int .i64 1, .int .i64 28] rfl (by (try simp only [List.map_toArray, List.map_cons, List.map_nil]); first | done | rfl | (simp only [List.length_drop, List.length_take]; rfl)) ?_; (with_reducible refine (spec_l01In.calls a0 1 28 true _ A2.out).mono ?_); rintro e w' ⟨rfl, ⟨nd, rfl⟩⟩; refine ⟨_, rfl, ?_⟩))
      go_ret
      exact ⟨by first | rfl | (simp; done) | (simp [*]; done), by repeat (first | exact Drawn0.refl _ | apply Drawn0.step)⟩
    · rw [if_neg c4] at H
      have c4b0 : decide (a0 ≤ 15) = false := decide_eq_false c4
      clear c4
      replace H := Option.bind_eq_some_iff.mp H
      obtain ⟨t108, A50, H⟩ := H
      replace H : (if t108 = true then (some 2) else (some 3)) = some r := H
      have A5 := Aside0.mk A50
      clear A50
      by_cases c6 : t108 = true
      · subst c6
        have H1 : (some 2) = some r := by rw [if_pos rfl] at H; exact H
        clear H
        have H := H1
        clear H1
        obtain rfl := Option.some.inj H
        go_enter Try.func10, Try.ntmps10
        go_wp2_with (first | ((with_reducible refine gate_callee (f := 25) rfl ?_); refine goesL_ (some 5) rfl rfl Try.func25 (by kernel_rfl) rfl #[.int .i64 a0, .int .i64 1, .int .i64 28] rfl (by (try simp only [List.map_toArray, List.map_cons, List.map_nil]); first | done | rfl | (simp only [List.length_drop, List.length_take]; rfl)) ?_; (with_reducible refine (spec_l01In.calls a0 1 28 true _ A2.out).mono ?_); rintro e w' ⟨rfl, ⟨nd, rfl⟩⟩; refine ⟨_, rfl, ?_⟩) | ((with_reducible refine gate_callee (f := 25) rfl ?_); refine goesL_ (some 12) rfl rfl Try.func25 (by kernel_rfl) rfl #[.int .i64 a0, .int .i64 20, .int .i64 24] rfl (by (try simp only [List.map_toArray, List.map_cons, List.map_nil]); first | done | rfl | (simp only [List.length_drop, List.length_take]; rfl)) ?_; (with_reducible refine (spec_l01In.calls a0 20 24 true _ A5.out).mono ?_); rintro e w' ⟨rfl, ⟨nd, rfl⟩⟩; refine ⟨_, rfl, ?_⟩))
        go_ret
        exact ⟨by first | rfl | (simp; done) | (simp [*]; done), by repeat (first | exact Drawn0.refl _ | apply Drawn0.step)⟩
      · replace c6 := Bool.eq_false_iff.mpr c6
        subst c6
        have H1 : (some 3) = some r := by rw [if_neg (show ¬ (false = true) by decide)] at H; exact H
        clear H
        have H := H1
        clear H1
        obtain rfl := Option.some.inj H
        go_enter Try.func10, Try.ntmps10
        go_wp2_with (first | ((with_reducible refine gate_callee (f := 25) rfl ?_); refine goesL_ (some 5) rfl rfl Try.func25 (by kernel_rfl) rfl #[.int .i64 a0, .int .i64 1, .int .i64 28] rfl (by (try simp only [List.map_toArray, List.map_cons, List.map_nil]); first | done | rfl | (simp only [List.length_drop, List.length_take]; rfl)) ?_; (with_reducible refine (spec_l01In.calls a0 1 28 true _ A2.out).mono ?_); rintro e w' ⟨rfl, ⟨nd, rfl⟩⟩; refine ⟨_, rfl, ?_⟩) | ((with_reducible refine gate_callee (f := 25) rfl ?_); refine goesL_ (some 12) rfl rfl Try.func25 (by kernel_rfl) rfl #[.int .i64 a0, .int .i64 20, .int .i64 24] rfl (by (try simp only [List.map_toArray, List.map_cons, List.map_nil]); first | done | rfl | (simp only [List.length_drop, List.length_take]; rfl)) ?_; (with_reducible refine (spec_l01In.calls a0 20 24 false _ A5.out).mono ?_); rintro e w' ⟨rfl, ⟨nd, rfl⟩⟩; refine ⟨_, rfl, ?_⟩))
        go_ret
        exact ⟨by first | rfl | (simp; done) | (simp [*]; done), by repeat (first | exact Drawn0.refl _ | apply Drawn0.step)⟩
  · replace c3 := Bool.eq_false_iff.mpr c3
    subst c3
    have H1 : (some 0) = some r := by rw [if_neg (show ¬ (false = true) by decide)] at H; exact H
    clear H
    have H := H1
    clear H1
    obtain rfl := Option.some.inj H
    go_enter Try.func10, Try.ntmps10
    go_wp2_with (first | ((with_reducible refine gate_callee (f := 25) rfl ?_); refine goesL_ (some 5) rfl rfl Try.func25 (by kernel_rfl) rfl #[.int .i64 a0, .int .i64 1, .int .i64 28] rfl (by (try simp only [List.map_toArray, List.map_cons, List.map_nil]); first | done | rfl | (simp only [List.length_drop, List.length_take]; rfl)) ?_; (with_reducible refine (spec_l01In.calls a0 1 28 false _ A2.out).mono ?_); rintro e w' ⟨rfl, ⟨nd, rfl⟩⟩; refine ⟨_, rfl, ?_⟩))
    go_ret
    exact ⟨by first | rfl | (simp; done) | (simp [*]; done), by repeat (first | exact Drawn0.refl _ | apply Drawn0.step)⟩

end Go.Proofs.Ytdnbagcbdagofaa.PFnExactChangeLine
