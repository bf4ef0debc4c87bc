/- What the program's functions compute, read off their text by the shadow runner (ITy, ILi, ILj, ILk, ILp, ILw, ILx, ILy, ILz, ILin, ILa); no condition. -/
import Derived.Laws.Strings
import Derived.Test.YtndacingbfeonaaGreatDoorVB8
section
open Go Go.Vs Go.Proofs
set_option linter.unusedVariables false
set_option linter.unusedSimpArgs false
set_option maxRecDepth 100000
namespace Go.Vs
noncomputable abbrev body : Code := bodyOf Tryz.prog F.laws_FnExactDirProblems
theorem hc0 : (fnOf Tryz.prog F.laws_FnExactDirProblems).body = some body := by kernel_rfl
theorem hfn : Tryz.prog.funcs[F.laws_FnExactDirProblems]? = some (fnOf Tryz.prog F.laws_FnExactDirProblems) := by kernel_rfl
theorem spA : spine (0 + (7 + 1)) body = true := by kernel_rfl
theorem spB : spine (8 + (1 + 1)) body = true := by kernel_rfl
theorem spC : spine (10 + (3 + 1)) body = true := by kernel_rfl
theorem spD : spine (14 + (3 + 1)) body = true := by kernel_rfl
theorem nlD : noLoop (sub body (way 18)) = true := by kernel_rfl
/-- What the functions answer at these arguments. -/
structure Fits (x0_0 : List (List (Leaf false))) (x0_1 : List (List (Leaf false))) (x0_2 : List (List (Leaf false))) (x1 : ByteArray) (x2 : List (List (Leaf false))) (w : List (List (Leaf false))) : Prop where
  wl : w.length ≤ maxLen
  wc : (w.length : Int) * 3 + 1 ≤ cap
  wq : ∀ e ∈ w, IsProblem e
  spc : ∀ c0 c2 : Fl true, Dd F.spec_DirProblems [.agg [.sl c0 (reE (fl c0) x0_0), .sl c0 (reE (fl c0) x0_1), .sl c0 (reE (fl c0) x0_2)], .leaf (.str x1), .leaf (.sl c2 (reE (fl c2) x2))] [] = some (.own (some T.impl_Problem) (reE (fl fOld) w), [])
  imp : ∀ c0 c2 : Fl true, Dd F.impl_DirProblems [.agg [.sl c0 (reE (fl c0) x0_0), .sl c0 (reE (fl c0) x0_1), .sl c0 (reE (fl c0) x0_2)], .leaf (.str x1), .leaf (.sl c2 (reE (fl c2) x2))] [] = some (.own (some T.impl_Problem) (reE (fl fNew) w), [])
  mn : ¬ mkE x2 (msL [.sl fP x0_0, .sl fP x0_1, .sl fP x0_2] (1)) < 0
  to0 : ∀ c : Fl true, Dd F.laws_toSchema [.agg [.sl c (reE (fl c) x0_0), .sl c (reE (fl c) x0_1), .sl c (reE (fl c) x0_2)]] [] = some (.agg [.sl fNew (reE (fl fNew) x0_0), .sl fNew (reE (fl fNew) x0_1), .sl fNew (reE (fl fNew) x0_2)], [])
  eq0 : ∀ c c' : Fl true, Dd F.laws_eqSchema [.agg [.sl c (reE (fl c) x0_0), .sl c (reE (fl c) x0_1), .sl c (reE (fl c) x0_2)], .agg [.sl c' (reE (fl c') x0_0), .sl c' (reE (fl c') x0_1), .sl c' (reE (fl c') x0_2)]] [] = some (.leaf (.bool true), [])
  mk0 : ∀ k : Int, Dd F.laws_markSchema [.agg [.sl fSoft (soE x0_0), .sl fSoft (soE x0_1), .sl fSoft (soE x0_2)], .leaf (.int .i64 k)] [] = some (.leaf (.int .i64 (msL [.sl fP x0_0, .sl fP x0_1, .sl fP x0_2] (k))), [])
  to2 : ∀ c : Fl true, Dd F.laws_toDirS [.leaf (.sl c (reE (fl c) x2))] [] = some (.leaf (.sl fNew (reE (fl fNew) x2)), [])
  eq2 : ∀ c c' : Fl true, Dd F.laws_eqDirS [.leaf (.sl c (reE (fl c) x2)), .leaf (.sl c' (reE (fl c') x2))] [] = some (.leaf (.bool true), [])
  mk2 : ∀ k : Int, Dd F.laws_markDirS [.leaf (.sl fSoft (soE x2)), .leaf (.int .i64 k)] [] = some (.leaf (.int .i64 (mkE x2 (k))), [])
section
variable {ev0 ev1 : Value} {x0_0 : List (List (Leaf false))} {x0_1 : List (List (Leaf false))} {x0_2 : List (List (Leaf false))} {x1 : ByteArray} {x2 : List (List (Leaf false))} {w : List (List (Leaf false))}
theorem Fits.eqw (h : Fits x0_0 x0_1 x0_2 x1 x2 w) (c c' : Fl true) : Dd F.laws_eqProblemS [.leaf (.sl c (reE (fl c) w)), .leaf (.sl c' (reE (fl c') w))] [] = some (.leaf (.bool true), []) :=
  dd_told rfl (d_laws_eqProblemS h.wl h.wq) (by rw [List.map_cons, List.map_cons, reS_sl, reS_sl]; rfl) rfl rfl
theorem turn1_eq : Vs.turn φ1 (fun _ => false) [] ({ tmps := (((laws_FnExactDirProblems_s1 x1 fOld (reE (fl fOld) x2) tQ fOld (reE (fl fOld) x0_0) fOld (reE (fl fOld) x0_1) fOld (reE (fl fOld) x0_2) fOld (reE (fl fOld) w)).tmps.set 3 (.ptr 3 0)).set 8 (.own (some T.impl_Problem) (reE (fl fOld) w))), boxes := ((laws_FnExactDirProblems_s1 x1 fOld (reE (fl fOld) x2) tQ fOld (reE (fl fOld) x0_0) fOld (reE (fl fOld) x0_1) fOld (reE (fl fOld) x0_2) fOld (reE (fl fOld) w)).boxes.set 3 (some [.leaf (.sl fOld (reE (fl fOld) x0_0)), .leaf (.sl fOld (reE (fl fOld) x0_1)), .leaf (.sl fOld (reE (fl fOld) x0_2))])) } : St true) = laws_FnExactDirProblems_s1 x1 (φ1 fOld) (tuE φ1 (fun _ => false) false (reE (fl fOld) x2)) tQ (φ1 fOld) (tuE φ1 (fun _ => false) false (reE (fl fOld) x0_0)) (φ1 fOld) (tuE φ1 (fun _ => false) false (reE (fl fOld) x0_1)) (φ1 fOld) (tuE φ1 (fun _ => false) false (reE (fl fOld) x0_2)) (φ1 fNew) (tuE φ1 (fun _ => false) false (reE (fl fOld) w)) := by
  kernel_rfl
theorem turn2_eq : Vs.turn φ2 (fun _ => false) [] ({ tmps := ((laws_FnExactDirProblems_s2 x1 tA (reE (fl tA) x2) tQ tA (reE (fl tA) x0_0) tA (reE (fl tA) x0_1) tA (reE (fl tA) x0_2) tA (reE (fl tA) w) tQ fNew (reE (fl fNew) x0_0) fNew (reE (fl fNew) x0_1) fNew (reE (fl fNew) x0_2) fNew (reE (fl fNew) x2)).tmps.set 9 (.ptr 9 0)), boxes := ((laws_FnExactDirProblems_s2 x1 tA (reE (fl tA) x2) tQ tA (reE (fl tA) x0_0) tA (reE (fl tA) x0_1) tA (reE (fl tA) x0_2) tA (reE (fl tA) w) tQ fNew (reE (fl fNew) x0_0) fNew (reE (fl fNew) x0_1) fNew (reE (fl fNew) x0_2) fNew (reE (fl fNew) x2)).boxes.set 9 (some [.leaf (.sl fNew (reE (fl fNew) x0_0)), .leaf (.sl fNew (reE (fl fNew) x0_1)), .leaf (.sl fNew (reE (fl fNew) x0_2))])) } : St true) = laws_FnExactDirProblems_s2 x1 (φ2 tA) (tuE φ2 (fun _ => false) false (reE (fl tA) x2)) tQ (φ2 tA) (tuE φ2 (fun _ => false) false (reE (fl tA) x0_0)) (φ2 tA) (tuE φ2 (fun _ => false) false (reE (fl tA) x0_1)) (φ2 tA) (tuE φ2 (fun _ => false) false (reE (fl tA) x0_2)) (φ2 tA) (tuE φ2 (fun _ => false) false (reE (fl tA) w)) tQ (φ2 fNew) (tuE φ2 (fun _ => false) false (reE (fl fNew) x0_0)) (φ2 fNew) (tuE φ2 (fun _ => false) false (reE (fl fNew) x0_1)) (φ2 fNew) (tuE φ2 (fun _ => false) false (reE (fl fNew) x0_2)) (φ2 fNew) (tuE φ2 (fun _ => false) false (reE (fl fNew) x2)) := by
  kernel_rfl
theorem turn3_eq : Vs.turn φ3 σ3 [] ({ tmps := (laws_FnExactDirProblems_s3 x1 tA (reE (fl tA) x2) tQ tA (reE (fl tA) x0_0) tA (reE (fl tA) x0_1) tA (reE (fl tA) x0_2) tA (reE (fl tA) w) tQ tX (reE (fl tX) x0_0) tX (reE (fl tX) x0_1) tX (reE (fl tX) x0_2) tX (reE (fl tX) x2) fNew (reE (fl fNew) w)).tmps.set 11 (.own (some T.impl_Problem) (reE (fl fNew) w)), boxes := (laws_FnExactDirProblems_s3 x1 tA (reE (fl tA) x2) tQ tA (reE (fl tA) x0_0) tA (reE (fl tA) x0_1) tA (reE (fl tA) x0_2) tA (reE (fl tA) w) tQ tX (reE (fl tX) x0_0) tX (reE (fl tX) x0_1) tX (reE (fl tX) x0_2) tX (reE (fl tX) x2) fNew (reE (fl fNew) w)).boxes } : St true) = laws_FnExactDirProblems_s3 x1 (if σ3 tA then fSoft else φ3 tA) (tuE φ3 σ3 (σ3 tA) (reE (fl tA) x2)) tQ (if σ3 tA then fSoft else φ3 tA) (tuE φ3 σ3 (σ3 tA) (reE (fl tA) x0_0)) (if σ3 tA then fSoft else φ3 tA) (tuE φ3 σ3 (σ3 tA) (reE (fl tA) x0_1)) (if σ3 tA then fSoft else φ3 tA) (tuE φ3 σ3 (σ3 tA) (reE (fl tA) x0_2)) (if σ3 tA then fSoft else φ3 tA) (tuE φ3 σ3 (σ3 tA) (reE (fl tA) w)) tQ (if σ3 tX then fSoft else φ3 tX) (tuE φ3 σ3 (σ3 tX) (reE (fl tX) x0_0)) (if σ3 tX then fSoft else φ3 tX) (tuE φ3 σ3 (σ3 tX) (reE (fl tX) x0_1)) (if σ3 tX then fSoft else φ3 tX) (tuE φ3 σ3 (σ3 tX) (reE (fl tX) x0_2)) (if σ3 tX then fSoft else φ3 tX) (tuE φ3 σ3 (σ3 tX) (reE (fl tX) x2)) (if σ3 fNew then fSoft else φ3 fNew) (tuE φ3 σ3 (σ3 fNew) (reE (fl fNew) w)) := by
  kernel_rfl
theorem row_eq (n k : Nat) : rowSt (Vs.turn φ4 (fun _ => false) [11] (laws_FnExactDirProblems_s4 x1 tA (reE (fl tA) x2) tQ tA (reE (fl tA) x0_0) tA (reE (fl tA) x0_1) tA (reE (fl tA) x0_2) tA (reE (fl tA) w) tG (reE (fl tG) w))) 11 3 n k = laws_FnExactDirProblems_s4r x1 (φ4 tA) (tuE φ4 (fun _ => false) false (reE (fl tA) x2)) tQ (φ4 tA) (tuE φ4 (fun _ => false) false (reE (fl tA) x0_0)) (φ4 tA) (tuE φ4 (fun _ => false) false (reE (fl tA) x0_1)) (φ4 tA) (tuE φ4 (fun _ => false) false (reE (fl tA) x0_2)) (φ4 tA) (tuE φ4 (fun _ => false) false (reE (fl tA) w)) n (List.replicate k .any) := by
  kernel_rfl
theorem slots2 : slotsOk p2 ({ tmps := ((laws_FnExactDirProblems_s2 x1 tA (reE (fl tA) x2) tQ tA (reE (fl tA) x0_0) tA (reE (fl tA) x0_1) tA (reE (fl tA) x0_2) tA (reE (fl tA) w) tQ fNew (reE (fl fNew) x0_0) fNew (reE (fl fNew) x0_1) fNew (reE (fl fNew) x0_2) fNew (reE (fl fNew) x2)).tmps.set 9 (.ptr 9 0)), boxes := ((laws_FnExactDirProblems_s2 x1 tA (reE (fl tA) x2) tQ tA (reE (fl tA) x0_0) tA (reE (fl tA) x0_1) tA (reE (fl tA) x0_2) tA (reE (fl tA) w) tQ fNew (reE (fl fNew) x0_0) fNew (reE (fl fNew) x0_1) fNew (reE (fl fNew) x0_2) fNew (reE (fl fNew) x2)).boxes.set 9 (some [.leaf (.sl fNew (reE (fl fNew) x0_0)), .leaf (.sl fNew (reE (fl fNew) x0_1)), .leaf (.sl fNew (reE (fl fNew) x0_2))])) } : St true).boxes [] 0 ({ tmps := ((laws_FnExactDirProblems_s2 x1 tA (reE (fl tA) x2) tQ tA (reE (fl tA) x0_0) tA (reE (fl tA) x0_1) tA (reE (fl tA) x0_2) tA (reE (fl tA) w) tQ fNew (reE (fl fNew) x0_0) fNew (reE (fl fNew) x0_1) fNew (reE (fl fNew) x0_2) fNew (reE (fl fNew) x2)).tmps.set 9 (.ptr 9 0)), boxes := ((laws_FnExactDirProblems_s2 x1 tA (reE (fl tA) x2) tQ tA (reE (fl tA) x0_0) tA (reE (fl tA) x0_1) tA (reE (fl tA) x0_2) tA (reE (fl tA) w) tQ fNew (reE (fl fNew) x0_0) fNew (reE (fl fNew) x0_1) fNew (reE (fl fNew) x0_2) fNew (reE (fl fNew) x2)).boxes.set 9 (some [.leaf (.sl fNew (reE (fl fNew) x0_0)), .leaf (.sl fNew (reE (fl fNew) x0_1)), .leaf (.sl fNew (reE (fl fNew) x0_2))])) } : St true).tmps = true := by
  simp [slotsOk, slotOkB, slotOk, boxAt, asLeaves, asLeaf, laws_FnExactDirProblems_s2, allF, allL, isTQ, allE_re (p := p2) (c := tA) rfl, allE_re (p := p2) (c := fNew) rfl, show p2 tA = true from rfl, show p2 fNew = true from rfl]
theorem slots3 : slotsOk p3 ({ tmps := (laws_FnExactDirProblems_s3 x1 tA (reE (fl tA) x2) tQ tA (reE (fl tA) x0_0) tA (reE (fl tA) x0_1) tA (reE (fl tA) x0_2) tA (reE (fl tA) w) tQ tX (reE (fl tX) x0_0) tX (reE (fl tX) x0_1) tX (reE (fl tX) x0_2) tX (reE (fl tX) x2) fNew (reE (fl fNew) w)).tmps.set 11 (.own (some T.impl_Problem) (reE (fl fNew) w)), boxes := (laws_FnExactDirProblems_s3 x1 tA (reE (fl tA) x2) tQ tA (reE (fl tA) x0_0) tA (reE (fl tA) x0_1) tA (reE (fl tA) x0_2) tA (reE (fl tA) w) tQ tX (reE (fl tX) x0_0) tX (reE (fl tX) x0_1) tX (reE (fl tX) x0_2) tX (reE (fl tX) x2) fNew (reE (fl fNew) w)).boxes } : St true).boxes [] 0 ({ tmps := (laws_FnExactDirProblems_s3 x1 tA (reE (fl tA) x2) tQ tA (reE (fl tA) x0_0) tA (reE (fl tA) x0_1) tA (reE (fl tA) x0_2) tA (reE (fl tA) w) tQ tX (reE (fl tX) x0_0) tX (reE (fl tX) x0_1) tX (reE (fl tX) x0_2) tX (reE (fl tX) x2) fNew (reE (fl fNew) w)).tmps.set 11 (.own (some T.impl_Problem) (reE (fl fNew) w)), boxes := (laws_FnExactDirProblems_s3 x1 tA (reE (fl tA) x2) tQ tA (reE (fl tA) x0_0) tA (reE (fl tA) x0_1) tA (reE (fl tA) x0_2) tA (reE (fl tA) w) tQ tX (reE (fl tX) x0_0) tX (reE (fl tX) x0_1) tX (reE (fl tX) x0_2) tX (reE (fl tX) x2) fNew (reE (fl fNew) w)).boxes } : St true).tmps = true := by
  simp [slotsOk, slotOkB, slotOk, boxAt, laws_FnExactDirProblems_s3, allF, allL, isTQ, Fl.new, allE_re (p := p3) (c := tA) rfl, allE_re (p := p3) (c := tX) rfl, allE_re (p := p3) (c := fNew) rfl, show p3 tA = true from rfl, show p3 tX = true from rfl, show p3 fNew = true from rfl]
theorem slots4 : slotsOk p4 (laws_FnExactDirProblems_s4 x1 tA (reE (fl tA) x2) tQ tA (reE (fl tA) x0_0) tA (reE (fl tA) x0_1) tA (reE (fl tA) x0_2) tA (reE (fl tA) w) tG (reE (fl tG) w)).boxes [11] 0 (laws_FnExactDirProblems_s4 x1 tA (reE (fl tA) x2) tQ tA (reE (fl tA) x0_0) tA (reE (fl tA) x0_1) tA (reE (fl tA) x0_2) tA (reE (fl tA) w) tG (reE (fl tG) w)).tmps = true := by
  simp [slotsOk, slotOkB, slotOk, laws_FnExactDirProblems_s4, allF, allL, isTQ, allE_re (p := p4) (c := tA) rfl, show p4 tA = true from rfl]
/-- The end. -/
theorem law_c4 (h : Fits x0_0 x0_1 x0_2 x1 x2 w) {W w' : World} {act : Act} {A B : Nat} {w0 : World} {F2 F3 : Fr} {hB0 : B ≤ w0.heap.size} {Fx : Fr} {Ow : Own} {bm : Nat → Nat} (hA : W.heap.size ≤ A) (hAB : A ≤ B) (hB : B ≤ w'.heap.size)
    (hE : isErr ev0 ∧ isErr ev1) (hK : KOk W (KOf ev0 ev1)) (on : OnWay Tryz.prog (fnOf Tryz.prog F.laws_FnExactDirProblems) W (N3 w0 A B F2 F3 hB0 (KOf ev0 ev1)) (laws_FnExactDirProblems_s4 x1 tA (reE (fl tA) x2) tQ tA (reE (fl tA) x0_0) tA (reE (fl tA) x0_1) tA (reE (fl tA) x0_2) tA (reE (fl tA) w) tG (reE (fl tG) w)) act w' Fx Ow bm) :
    (sub body (way 18)).wp Tryz.prog (bodyPost Tryz.prog (fnOf Tryz.prog F.laws_FnExactDirProblems) (Good W)) act w' := by
  by_cases hw : w = []
  · have eqw0 := h.eqw
    have im0 := h.imp
    have mkn : ∀ (c : Fl true) (k : Int), Dd F.laws_markProblemS [.leaf (.sl c []), .leaf (.int .i64 k)] [] = some (.leaf (.int .i64 k), []) := fun c k => dd_told rfl (d_laws_markProblemS_nil k) (by simp [reS, reF, reE]) rfl rfl
    have hdn : ∀ (c : Fl true) (k : Int), Dd F.laws_heldProblemS [.leaf (.sl c []), .leaf (.int .i64 k)] [] = some (.leaf (.int .i64 k), []) := fun c k => dd_told rfl (d_laws_heldProblemS_nil k) (by simp [reS, reF, reE]) rfl rfl
    rw [hw] at on
    simp only [hw, reE] at eqw0 im0
    refine stretch_last (H := Hs) hP (dd_sound rfl hE) hfn hc0 spD nlD on fun J => ?_
    simp only [reE]
    rw [laws_FnExactDirProblems_c4]
    simp -implicitDefEqProofs only [mkn, hdn, Option.bind_some, svLeafK_leaf, svSlK_leaf, svOwnK_own, svAggK_agg, atK_zero, atK_succ, intK_int, strK_str, boolK_bool, slK_sl, List.length_cons, List.length_nil, beq_self_eq_true, guarded_true, h.to0, h.to2, im0, eqw0, show decide ((1 : Int) < 0) = false from rfl, branch_false, bne_self_eq_false, Bool.not_true, lastB_nil]
  · have hpos : 0 < w.length := List.length_pos_iff.2 hw
    have hez : ∀ e ∈ reE (fl tG) w, e.length = 3 := reE_all fun e he => (h.wq e he).len
    obtain ⟨k, F', Ow', bm', R, hk, on'⟩ := turn4 on hA hB hAB [11] (t := 11) (of_decide_eq_true (by kernel_rfl)) (of_decide_eq_true (by kernel_rfl)) (es := reE (fl tG) w) (z := 3) rfl (by rw [reE_length]; exact hpos) hez slots4 hK.lt
    rw [row_eq] at on'
    simp only [tuE_fl (φ := φ4) (σ := fun _ => false) (c := tA) rfl, show φ4 tA = tA from rfl, reE_length] at on'
    rw [reE_length] at hk
    refine stretch_last (H := Hs) hP (dd_sound rfl hE) hfn hc0 spD nlD on' fun J => ?_
    have hm := t_markProblemS_r (k := k) h.wl hk
    have hd := t_heldProblemS_r (n := w.length) (k := k) h.wl
    have hf1 : ([List.replicate k (SV.any (m := true))].all fun (x : List (SV true)) => x.all SV.flat) = true := by
      simp only [List.all_cons, List.all_nil, Bool.and_true]
      rw [List.all_eq_true]; intro x hx; rw [List.eq_of_mem_replicate hx]; rfl
    have hf2 : ([(marked w.length k).map (reS li)].all fun (x : List (SV true)) => x.all SV.flat) = true := by
      simp only [List.all_cons, List.all_nil, Bool.and_true]
      exact map_flat (marked_flat _ _)
    have he : ¬ endProblem w.length 1 < 0 := by
      have := endProblem_le w.length 1 (by omega) (by have := h.wc; simp only [cap] at *; omega)
      omega
    rw [laws_FnExactDirProblems_c4r]
    simp -implicitDefEqProofs only [hf1, hm, hd, Option.bind_some, svLeafK_leaf, svSlK_leaf, svOwnK_own, svAggK_agg, atK_zero, atK_succ, intK_int, strK_str, boolK_bool, slK_sl, List.length_cons, List.length_nil, beq_self_eq_true, guarded_true, headB_cons, lastB_nil, hf2, h.to0, h.to2, h.imp, h.eqw, he, decide_false, branch_false, bne_self_eq_false, Bool.not_true]
/-- The marks. -/
theorem law_c3 (h : Fits x0_0 x0_1 x0_2 x1 x2 w) {W w' : World} {act : Act} {A B : Nat} {F2 : Fr} {Fx : Fr} {Ow : Own} {bm : Nat → Nat} (hA : W.heap.size ≤ A) (hAB : A ≤ B) (hB : B ≤ w'.heap.size)
    (hE : isErr ev0 ∧ isErr ev1) (hK : KOk W (KOf ev0 ev1)) (on : OnWay Tryz.prog (fnOf Tryz.prog F.laws_FnExactDirProblems) W (N2 A B F2 (KOf ev0 ev1)) ({ tmps := (laws_FnExactDirProblems_s3 x1 tA (reE (fl tA) x2) tQ tA (reE (fl tA) x0_0) tA (reE (fl tA) x0_1) tA (reE (fl tA) x0_2) tA (reE (fl tA) w) tQ tX (reE (fl tX) x0_0) tX (reE (fl tX) x0_1) tX (reE (fl tX) x0_2) tX (reE (fl tX) x2) fNew (reE (fl fNew) w)).tmps.set 11 (.own (some T.impl_Problem) (reE (fl fNew) w)), boxes := (laws_FnExactDirProblems_s3 x1 tA (reE (fl tA) x2) tQ tA (reE (fl tA) x0_0) tA (reE (fl tA) x0_1) tA (reE (fl tA) x0_2) tA (reE (fl tA) w) tQ tX (reE (fl tX) x0_0) tX (reE (fl tX) x0_1) tX (reE (fl tX) x0_2) tX (reE (fl tX) x2) fNew (reE (fl fNew) w)).boxes } : St true) act w' Fx Ow bm) :
    (sub body (way 14)).wp Tryz.prog (bodyPost Tryz.prog (fnOf Tryz.prog F.laws_FnExactDirProblems) (Good W)) act w' := by
  have on' := turn3 on hA hB hAB [] slots3 hK.lt
  rw [turn3_eq] at on'
  simp only [show σ3 tA = false from rfl, show σ3 tX = true from rfl, show σ3 fNew = false from rfl, tuE_fl (φ := φ3) (σ := σ3) (c := tA) rfl, tuE_fl (φ := φ3) (σ := σ3) (c := fNew) rfl, tuE_so (φ := φ3) (σ := σ3) (c := tX) rfl, Bool.false_eq_true, if_false, if_true, show φ3 tA = tA from rfl, show φ3 fNew = tG from rfl] at on'
  refine stretch (H := Hs) (s1 := laws_FnExactDirProblems_s4 x1 tA (reE (fl tA) x2) tQ tA (reE (fl tA) x0_0) tA (reE (fl tA) x0_1) tA (reE (fl tA) x0_2) tA (reE (fl tA) w) tG (reE (fl tG) w)) hP (dd_sound rfl hE) hfn hc0 spD on' (fun J => ?_) fun a' w2 F' Ow' bm' on2 far => ?_
  · rw [laws_FnExactDirProblems_c3]
    simp -implicitDefEqProofs only [h.mk0, h.mk2, Option.bind_some, svLeafK_leaf, svSlK_leaf, svOwnK_own, svAggK_agg, atK_zero, atK_succ, intK_int, strK_str, boolK_bool, slK_sl, List.length_cons, List.length_nil, beq_self_eq_true, guarded_true, decide_eq_false h.mn, branch_true, h.eqw, Bool.not_true, branch_false]
    rfl
  · exact law_c4 h hA hAB (Nat.le_trans hB far.size) hE hK on2
/-- The answer. -/
theorem law_c2 (h : Fits x0_0 x0_1 x0_2 x1 x2 w) {W w' : World} {act : Act} {A : Nat} {Fx : Fr} {Ow : Own} {bm : Nat → Nat} (hA : W.heap.size ≤ A) (hB : A ≤ w'.heap.size)
    (hE : isErr ev0 ∧ isErr ev1) (hK : KOk W (KOf ev0 ev1)) (on : OnWay Tryz.prog (fnOf Tryz.prog F.laws_FnExactDirProblems) W (N1 A (KOf ev0 ev1)) ({ tmps := ((laws_FnExactDirProblems_s2 x1 tA (reE (fl tA) x2) tQ tA (reE (fl tA) x0_0) tA (reE (fl tA) x0_1) tA (reE (fl tA) x0_2) tA (reE (fl tA) w) tQ fNew (reE (fl fNew) x0_0) fNew (reE (fl fNew) x0_1) fNew (reE (fl fNew) x0_2) fNew (reE (fl fNew) x2)).tmps.set 9 (.ptr 9 0)), boxes := ((laws_FnExactDirProblems_s2 x1 tA (reE (fl tA) x2) tQ tA (reE (fl tA) x0_0) tA (reE (fl tA) x0_1) tA (reE (fl tA) x0_2) tA (reE (fl tA) w) tQ fNew (reE (fl fNew) x0_0) fNew (reE (fl fNew) x0_1) fNew (reE (fl fNew) x0_2) fNew (reE (fl fNew) x2)).boxes.set 9 (some [.leaf (.sl fNew (reE (fl fNew) x0_0)), .leaf (.sl fNew (reE (fl fNew) x0_1)), .leaf (.sl fNew (reE (fl fNew) x0_2))])) } : St true) act w' Fx Ow bm) :
    (sub body (way 10)).wp Tryz.prog (bodyPost Tryz.prog (fnOf Tryz.prog F.laws_FnExactDirProblems) (Good W)) act w' := by
  have on' := turn2 on [] slots2
  rw [turn2_eq] at on'
  simp only [tuE_fl (φ := φ2) (σ := fun _ => false) (c := tA) rfl, tuE_fl (φ := φ2) (σ := fun _ => false) (c := fNew) rfl, show φ2 tA = tA from rfl, show φ2 fNew = tX from rfl] at on'
  refine stretch (H := Hs) (s1 := { tmps := (laws_FnExactDirProblems_s3 x1 tA (reE (fl tA) x2) tQ tA (reE (fl tA) x0_0) tA (reE (fl tA) x0_1) tA (reE (fl tA) x0_2) tA (reE (fl tA) w) tQ tX (reE (fl tX) x0_0) tX (reE (fl tX) x0_1) tX (reE (fl tX) x0_2) tX (reE (fl tX) x2) fNew (reE (fl fNew) w)).tmps.set 11 (.own (some T.impl_Problem) (reE (fl fNew) w)), boxes := (laws_FnExactDirProblems_s3 x1 tA (reE (fl tA) x2) tQ tA (reE (fl tA) x0_0) tA (reE (fl tA) x0_1) tA (reE (fl tA) x0_2) tA (reE (fl tA) w) tQ tX (reE (fl tX) x0_0) tX (reE (fl tX) x0_1) tX (reE (fl tX) x0_2) tX (reE (fl tX) x2) fNew (reE (fl fNew) w)).boxes }) hP (dd_sound rfl hE) hfn hc0 spC on' (fun J => ?_) fun a' w2 F' Ow' bm' on2 far => ?_
  · rw [laws_FnExactDirProblems_c2]
    simp -implicitDefEqProofs only [h.to0, h.to2, h.imp, h.eq0, h.eq2, Option.bind_some, svLeafK_leaf, svSlK_leaf, svOwnK_own, svAggK_agg, atK_zero, atK_succ, intK_int, strK_str, boolK_bool, slK_sl, List.length_cons, List.length_nil, beq_self_eq_true, guarded_true, h.eqw, Bool.not_true, branch_false]
    rfl
  · exact law_c3 h hA hB far.size hE hK on2
/-- The copies. -/
theorem law_c1 (h : Fits x0_0 x0_1 x0_2 x1 x2 w) {W w' : World} {act : Act} {A : Nat} {Fx : Fr} {Ow : Own} {bm : Nat → Nat} (hA : W.heap.size ≤ A) (hB : A ≤ w'.heap.size)
    (hE : isErr ev0 ∧ isErr ev1) (hK : KOk W (KOf ev0 ev1)) (on : OnWay Tryz.prog (fnOf Tryz.prog F.laws_FnExactDirProblems) W (N1 A (KOf ev0 ev1)) (laws_FnExactDirProblems_s1 x1 tA (reE (fl tA) x2) tQ tA (reE (fl tA) x0_0) tA (reE (fl tA) x0_1) tA (reE (fl tA) x0_2) tA (reE (fl tA) w)) act w' Fx Ow bm) :
    (sub body (way 8)).wp Tryz.prog (bodyPost Tryz.prog (fnOf Tryz.prog F.laws_FnExactDirProblems) (Good W)) act w' := by
  refine stretch (H := Hs) (s1 := { tmps := ((laws_FnExactDirProblems_s2 x1 tA (reE (fl tA) x2) tQ tA (reE (fl tA) x0_0) tA (reE (fl tA) x0_1) tA (reE (fl tA) x0_2) tA (reE (fl tA) w) tQ fNew (reE (fl fNew) x0_0) fNew (reE (fl fNew) x0_1) fNew (reE (fl fNew) x0_2) fNew (reE (fl fNew) x2)).tmps.set 9 (.ptr 9 0)), boxes := ((laws_FnExactDirProblems_s2 x1 tA (reE (fl tA) x2) tQ tA (reE (fl tA) x0_0) tA (reE (fl tA) x0_1) tA (reE (fl tA) x0_2) tA (reE (fl tA) w) tQ fNew (reE (fl fNew) x0_0) fNew (reE (fl fNew) x0_1) fNew (reE (fl fNew) x0_2) fNew (reE (fl fNew) x2)).boxes.set 9 (some [.leaf (.sl fNew (reE (fl fNew) x0_0)), .leaf (.sl fNew (reE (fl fNew) x0_1)), .leaf (.sl fNew (reE (fl fNew) x0_2))])) }) hP (dd_sound rfl hE) hfn hc0 spB on (fun J => ?_) fun a' w2 F' Ow' bm' on2 far => ?_
  · rw [laws_FnExactDirProblems_c1]
    simp -implicitDefEqProofs only [h.to0, h.to2, Option.bind_some, svLeafK_leaf, svSlK_leaf, svOwnK_own, svAggK_agg, atK_zero, atK_succ, intK_int, strK_str, boolK_bool, slK_sl, List.length_cons, List.length_nil, beq_self_eq_true, guarded_true]
    rfl
  · exact law_c2 h hA (Nat.le_trans hB far.size) hE hK on2
/-- From the beginning. -/
theorem law_c0 (sz0 : ∀ (c : Fl true) (n : Int), 0 ≤ n → Dd F.laws_szSchema [.agg [.sl c (reE (fl c) x0_0), .sl c (reE (fl c) x0_1), .sl c (reE (fl c) x0_2)], .leaf (.int .i64 n)] [] = some (.leaf (.int .i64 (szL [.sl fP x0_0, .sl fP x0_1, .sl fP x0_2] n)), [])) (sz2 : ∀ (c : Fl true) (n : Int), 0 ≤ n → Dd F.laws_szDirS [.leaf (.sl c (reE (fl c) x2)), .leaf (.int .i64 n)] [] = some (.leaf (.int .i64 (szF (.sl fP x2) n)), [])) (fits : x1.size ≤ 1048576 → 0 ≤ szL [.sl fP x0_0, .sl fP x0_1, .sl fP x0_2] 1048576 → 0 ≤ szF (.sl fP x2) (szL [.sl fP x0_0, .sl fP x0_1, .sl fP x0_2] 1048576) → Fits x0_0 x0_1 x0_2 x1 x2 w) {W : World} {act : Act} {Fx : Fr} {Ow : Own} {bm : Nat → Nat}
    (hE : isErr ev0 ∧ isErr ev1) (hK : KOk W (KOf ev0 ev1)) (on : OnWay Tryz.prog (fnOf Tryz.prog F.laws_FnExactDirProblems) W (N0 W (KOf ev0 ev1)) (laws_FnExactDirProblems_s0 fOld (reE (fl fOld) x0_0) fOld (reE (fl fOld) x0_1) fOld (reE (fl fOld) x0_2) x1 fOld (reE (fl fOld) x2)) act W Fx Ow bm) :
    (sub body (way 0)).wp Tryz.prog (bodyPost Tryz.prog (fnOf Tryz.prog F.laws_FnExactDirProblems) (Good W)) act W := by
  by_cases hn1 : (x1.size : Int) > 1048576
  · refine stretch_left (H := Hs) hP (dd_sound rfl hE) hfn hc0 spA on fun J => ?_
    rw [laws_FnExactDirProblems_c0]
    simp -implicitDefEqProofs only [Option.bind_some, svLeafK_leaf, svSlK_leaf, svOwnK_own, svAggK_agg, atK_zero, atK_succ, intK_int, strK_str, boolK_bool, slK_sl, List.length_cons, List.length_nil, beq_self_eq_true, guarded_true, decide_eq_true hn1, branch_true, branch_false]
  · by_cases hn0 : szL [.sl fP x0_0, .sl fP x0_1, .sl fP x0_2] 1048576 < 0
    · refine stretch_left (H := Hs) hP (dd_sound rfl hE) hfn hc0 spA on fun J => ?_
      rw [laws_FnExactDirProblems_c0]
      simp -implicitDefEqProofs only [sz0 fOld 1048576 (by omega), Option.bind_some, svLeafK_leaf, svSlK_leaf, svOwnK_own, svAggK_agg, atK_zero, atK_succ, intK_int, strK_str, boolK_bool, slK_sl, List.length_cons, List.length_nil, beq_self_eq_true, guarded_true, decide_eq_false hn1, decide_eq_true hn0, branch_true, branch_false]
    · by_cases hn2 : szF (.sl fP x2) (szL [.sl fP x0_0, .sl fP x0_1, .sl fP x0_2] 1048576) < 0
      · refine stretch_left (H := Hs) hP (dd_sound rfl hE) hfn hc0 spA on fun J => ?_
        rw [laws_FnExactDirProblems_c0]
        simp -implicitDefEqProofs only [sz0 fOld 1048576 (by omega), sz2 fOld (szL [.sl fP x0_0, .sl fP x0_1, .sl fP x0_2] 1048576) (by omega), Option.bind_some, svLeafK_leaf, svSlK_leaf, svOwnK_own, svAggK_agg, atK_zero, atK_succ, intK_int, strK_str, boolK_bool, slK_sl, List.length_cons, List.length_nil, beq_self_eq_true, guarded_true, decide_eq_false hn1, decide_eq_false hn0, decide_eq_true hn2, branch_true, branch_false]
      · have h := fits (by omega) (by omega) (by omega)
        refine stretch (H := Hs) (s1 := { tmps := (((laws_FnExactDirProblems_s1 x1 fOld (reE (fl fOld) x2) tQ fOld (reE (fl fOld) x0_0) fOld (reE (fl fOld) x0_1) fOld (reE (fl fOld) x0_2) fOld (reE (fl fOld) w)).tmps.set 3 (.ptr 3 0)).set 8 (.own (some T.impl_Problem) (reE (fl fOld) w))), boxes := ((laws_FnExactDirProblems_s1 x1 fOld (reE (fl fOld) x2) tQ fOld (reE (fl fOld) x0_0) fOld (reE (fl fOld) x0_1) fOld (reE (fl fOld) x0_2) fOld (reE (fl fOld) w)).boxes.set 3 (some [.leaf (.sl fOld (reE (fl fOld) x0_0)), .leaf (.sl fOld (reE (fl fOld) x0_1)), .leaf (.sl fOld (reE (fl fOld) x0_2))])) }) hP (dd_sound rfl hE) hfn hc0 spA on (fun J => ?_) fun a' w2 F' Ow' bm' on2 far => ?_
        · rw [laws_FnExactDirProblems_c0]
          simp -implicitDefEqProofs only [sz0 fOld 1048576 (by omega), sz2 fOld (szL [.sl fP x0_0, .sl fP x0_1, .sl fP x0_2] 1048576) (by omega), Option.bind_some, svLeafK_leaf, svSlK_leaf, svOwnK_own, svAggK_agg, atK_zero, atK_succ, intK_int, strK_str, boolK_bool, slK_sl, List.length_cons, List.length_nil, beq_self_eq_true, guarded_true, decide_eq_false hn1, decide_eq_false hn0, decide_eq_false hn2, branch_true, branch_false, h.to0, h.to2, h.spc]
          rfl
        · have on3 := turn1 (K := (KOf ev0 ev1)) on2 (fun _ => rfl) []
          rw [turn1_eq] at on3
          simp only [tuE_fl (φ := φ1) (σ := fun _ => false) (c := fOld) rfl, show φ1 fOld = tA from rfl, show φ1 fNew = tA from rfl] at on3
          exact law_c1 h far.size (Nat.le_refl _) hE hK on3
end
end Go.Vs
end
section
open Go Go.Vs Go.Proofs
set_option linter.unusedVariables false
set_option linter.unusedSimpArgs false
namespace Go.Vs
/-! ### Texts and their ends -/
/-- Does a text end so? -/
def ends (s : ByteArray) (c : UInt8) : Bool := decide (0 < s.size) && (s.data.toList.getD (s.size - 1) 0 == c)
def cut (s : ByteArray) : ByteArray := s.extract 0 (s.size - 1)
theorem cut_size (s : ByteArray) : (cut s).size = s.size - 1 := by unfold cut; rw [ByteArray.size_extract]; omega
theorem wrap_sub {n d : Nat} (h : n ≤ maxLen) (hd : d ≤ n) : IntKind.i64.wrap ((n : Int) - (d : Int)) = ((n - d : Nat) : Int) := by
  have hm : maxLen = 9223372036854775807 := rfl
  rw [wrap64 (by omega) (by omega)]; omega
theorem wrap_sub1 {n : Nat} (h : n ≤ maxLen) (hd : 0 < n) : IntKind.i64.wrap ((n : Int) - 1) = ((n - 1 : Nat) : Int) := wrap_sub h (show 1 ≤ n by omega)
theorem tl (s : ByteArray) : s.toList = s.data.toList := by first | exact ByteArray.toList_eq s | exact Go.ByteArray.toList_eq s
theorem size_data (s : ByteArray) : s.data.toList.length = s.size := by rw [Array.length_toList]; rfl
theorem suffix_one (s : ByteArray) (c : UInt8) (h : 0 < s.size) : ((s.extract (s.size - 1) s.size).toList == (ByteArray.mk #[c]).toList) = ends s c := by
  have hl := size_data s
  have e1 : (s.extract (s.size - 1) s.size).toList = [s.data.toList.getD (s.size - 1) 0] := by
    rw [tl, ByteArray.data_extract, Array.toList_extract, List.extract_eq_take_drop]
    have : s.data.toList.drop (s.size - 1) = [s.data.toList.getD (s.size - 1) 0] := by
      rw [List.drop_eq_getElem_cons (by omega), List.drop_of_length_le (by omega)]
      rw [List.getD_eq_getElem?_getD, List.getElem?_eq_getElem (show s.size - 1 < s.data.toList.length by omega)]; rfl
    rw [this]
    have : s.size - (s.size - 1) = 1 := by omega
    rw [this]; rfl
  have e2 : (ByteArray.mk #[c]).toList = [c] := by rw [tl]
  rw [e1, e2]
  unfold ends
  simp -implicitDefEqProofs only [h, decide_true, Bool.true_and]
  cases hx : (s.data.toList.getD (s.size - 1) 0 == c) <;> simp_all
theorem ends_pos {w : ByteArray} {c : UInt8} (he : ends w c = true) : 0 < w.size := by unfold ends at he; simp at he; omega
theorem byte_is (x : UInt8) (c : Nat) (hc : c < 256) : (((x.toNat : Nat) : Int) == (c : Int)) = (x == UInt8.ofNat c) := by
  rw [Bool.eq_iff_iff, beq_iff_eq, beq_iff_eq, ← UInt8.toNat_inj]
  simp -implicitDefEqProofs only [UInt8.toNat_ofNat']
  omega
theorem last_is {w : ByteArray} (c : Nat) (hc : c < 256) (hp : 0 < w.size) (hw : w.size ≤ maxLen) : (((w.data.toList.getD (IntKind.i64.wrap ((w.size : Int) - 1)).toNat 0).toNat : Int) == (c : Int)) = ends w (UInt8.ofNat c) := by
  rw [wrap_sub1 hw hp, Int.toNat_natCast, byte_is _ c hc]; unfold ends; simp -implicitDefEqProofs only [hp, decide_true, Bool.true_and]
theorem grd_hi {w : ByteArray} (hp : 0 < w.size) (hw : w.size ≤ maxLen) : (decide (0 ≤ IntKind.i64.wrap ((w.size : Int) - 1)) && decide ((IntKind.i64.wrap ((w.size : Int) - 1)).toNat ≤ w.size)) = true := by
  rw [wrap_sub1 hw hp, Int.toNat_natCast]; simp
theorem grd_at {w : ByteArray} (hp : 0 < w.size) (hw : w.size ≤ maxLen) : (decide (0 ≤ IntKind.i64.wrap ((w.size : Int) - 1)) && decide (IntKind.i64.wrap ((w.size : Int) - 1) < (w.size : Int))) = true := by
  rw [wrap_sub1 hw hp]; simp; omega
theorem cut_hi {w : ByteArray} (hp : 0 < w.size) (hw : w.size ≤ maxLen) : w.extract 0 (IntKind.i64.wrap ((w.size : Int) - 1)).toNat = cut w := by
  rw [wrap_sub1 hw hp, Int.toNat_natCast]; rfl
theorem emp_is (w : ByteArray) : (w.toList == (ByteArray.mk #[]).toList) = ((w.size : Int) == 0) := by
  have hl := size_data w
  rw [tl, tl]
  show (w.data.toList == []) = _
  cases hx : w.data.toList with
  | nil => rw [hx] at hl; simp at hl; rw [← hl]; rfl
  | cons a r => rw [hx] at hl; simp at hl; rw [← hl]; simp; omega
theorem d_HasSuffix {s : ByteArray} {c : UInt8} (hs : s.size ≤ maxLen) : Dn F.internal_stringslite_HasSuffix [.leaf (.str s), .leaf (.str ⟨#[c]⟩)] [] = some (vbool (ends s c), []) := by
  refine den_of ?_
  rw [run_internal_stringslite_HasSuffix]
  have h1 : (ByteArray.mk #[c]).size = 1 := rfl
  rw [h1]
  by_cases h : 0 < s.size
  · have hw := wrap_sub hs (show 1 ≤ s.size by omega)
    simp -implicitDefEqProofs only [hw, show ((s.size : Nat) : Int) ≥ ((1 : Nat) : Int) by omega, decide_true, beq_self_eq_true, branch_true, Int.natCast_nonneg, Bool.true_and, Bool.and_true, Int.toNat_natCast, Nat.sub_le, Nat.le_refl, guarded_true]
    rw [suffix_one s c h]
  · have h0 : ¬ ((s.size : Nat) : Int) ≥ ((1 : Nat) : Int) := by omega
    simp -implicitDefEqProofs only [h0, decide_false, show ((false : Bool) == true) = false from rfl, branch_false]
    have : ends s c = false := by unfold ends; simp [h]
    rw [this]
theorem d_CutSuffix {s : ByteArray} {c : UInt8} (hs : s.size ≤ maxLen) : Dn F.strings_CutSuffix [.leaf (.str s), .leaf (.str ⟨#[c]⟩)] [] = some (.tup [.leaf (.str (if ends s c then cut s else s)), vbool (ends s c)], []) := by
  have h1 : (ByteArray.mk #[c]).size = 1 := rfl
  have key : Dn F.internal_stringslite_CutSuffix [.leaf (.str s), .leaf (.str ⟨#[c]⟩)] [] = some (.tup [.leaf (.str (if ends s c then cut s else s)), vbool (ends s c)], []) := by
    refine den_of ?_
    rw [run_internal_stringslite_CutSuffix, d_HasSuffix hs, h1, rBool_eq]
    cases he : ends s c with
    | false => simp
    | true =>
      have h := ends_pos he
      have hw := wrap_sub hs (show 1 ≤ s.size by omega)
      simp -implicitDefEqProofs only [hw, Bool.not_true, branch_false, Int.natCast_nonneg, decide_true, Bool.true_and, Int.toNat_natCast, Nat.sub_le, guarded_true, if_true]
      rfl
  refine den_of ?_
  rw [run_strings_CutSuffix, key]
  simp -implicitDefEqProofs only [vBool_eq, vInt_eq, vStr_eq, vSl_eq, rBool_eq, rInt_eq, rStr_eq, rSl_eq, rOwn_eq, rBool0_eq, rInt0_eq, rBoolS_eq, rIntS_eq, rCol_eq, aBool_z, aInt_z, aStr_z, aSl_z, cmb_a, Option.bind_some, svTupK_tup, headK_cons, headB_cons, lastK_nil, lastB_nil, svAggK_agg, svOwnK_own, branch_true, branch_false, guarded_true, beq_self_eq_true, Bool.not_true, Bool.not_false, Bool.and_true, Bool.true_and, bT, bF]
theorem d_strings_HasSuffix {s : ByteArray} {c : UInt8} (hs : s.size ≤ maxLen) : Dn F.strings_HasSuffix [.leaf (.str s), .leaf (.str ⟨#[c]⟩)] [] = some (vbool (ends s c), []) := by
  refine den_of ?_
  rw [run_strings_HasSuffix, d_HasSuffix hs, rBool_eq]
theorem d_impl_Needed {x : R_ss} (hs : x.a1.size ≤ maxLen) : Dn F.impl_Needed [.agg x.l] [] = some (vbool (ends x.a1 33), []) := by
  refine den_of ?_
  rw [run_impl_Needed, d_strings_HasSuffix hs, rBool_eq]
theorem d_spec_Needed {x : R_ss} (hs : x.a1.size ≤ maxLen) : Dn F.spec_Needed [.agg x.l] [] = some (vbool (ends x.a1 33), []) := by
  refine den_of ?_
  rw [run_spec_Needed]
  by_cases h : 0 < x.a1.size
  · have hl := last_is 33 (by omega) h hs
    rw [show ((33 : Nat) : Int) = 33 from rfl] at hl
    simp -implicitDefEqProofs only [grd_at h hs, hl, show ((x.a1.size : Nat) : Int) > 0 by omega, decide_true, beq_self_eq_true, branch_true, guarded_true]
    rfl
  · have h0 : ¬ ((x.a1.size : Nat) : Int) > 0 := by omega
    simp -implicitDefEqProofs only [h0, decide_false, show ((false : Bool) == true) = false from rfl, branch_false]
    have : ends x.a1 33 = false := by unfold ends; simp [h]
    rw [this]
end Go.Vs
end
section
open Go Go.Vs Go.Proofs
set_option linter.unusedVariables false
set_option linter.unusedSimpArgs false
namespace Go.Vs
/-! ### Looking through rows -/
theorem d_spec_InAt {es : List El} {s : ByteArray} (hl : es.length ≤ maxLen) (hq : ∀ e ∈ es, IsInDef e) : Dn F.spec_InAt [vsl es, .leaf (.str s)] [] = some (vint (idxP (at0 s) 0 es), []) := by
  refine den_of ?_
  rw [run_spec_InAt]
  refine find_int (es := es) (A := fun i => spec_InAt_A Dn (spec_InAt_0 es s i)) (by rw [spec_InAt_0_eq]; simp) fun i hi => ?_
  obtain ⟨x, hx, _⟩ := (hq _ (List.getElem_mem hi)).st
  rw [spec_InAt_0_eq]
  simp -implicitDefEqProofs only [Int.ofNat_lt, decide_true, branch_true, Int.natCast_nonneg, Bool.and_true, Int.toNat_natCast, guarded_true, hi, wrap_upL (Nat.lt_of_lt_of_le hi hl), sized_all (fun e he => (hq e he).len), getD_lt hi, hx, R_ss.at_l, R_isee.at_l, R_sisee.at_l, R_se.at_l, R_ssssbiseee.at_l, R_ssesse.at_l, R_sse.at_l, R_is.at_l, R_ibsseeeeebe.at_l, R_eee.at_l, R_iss.at_l, R_issseee.at_l, R_sssbiseee.at_l, R_iseee.at_l, R_ssee.at_l, R_isi.at_l]
  rfl
theorem d_spec_l18Has {es : List El} {s : ByteArray} (hl : es.length ≤ maxLen) (hq : ∀ e ∈ es, IsStr e) : Dn F.spec_l18Has [vsl es, .leaf (.str s)] [] = some (vbool (es.any (at0 s)), []) := by
  refine den_of ?_
  rw [run_spec_l18Has]
  refine any_bool (es := es) (A := fun i => spec_l18Has_A Dn (spec_l18Has_0 es s i)) (by rw [spec_l18Has_0_eq]; simp) fun i hi => ?_
  obtain ⟨u, hu, _⟩ := hq _ (List.getElem_mem hi)
  rw [spec_l18Has_0_eq]
  simp -implicitDefEqProofs only [Int.ofNat_lt, decide_true, branch_true, Int.natCast_nonneg, Bool.and_true, Int.toNat_natCast, guarded_true, hi, wrap_upL (Nat.lt_of_lt_of_le hi hl), sized_all (fun e he => (hq e he).len), getD_lt hi, hu, aBool_z, aInt_z, aStr_z, aSl_z]
  rfl
theorem d_slices_Contains {es : List El} {s : ByteArray} (hl : es.length ≤ maxLen) (hq : ∀ e ∈ es, IsStr e) : Dn F.slices_Contains_S_string_string [vsl es, .leaf (.str s)] [] = some (vbool (es.any (at0 s)), []) := by
  have key : Dn F.slices_Index_S_string_string [vsl es, .leaf (.str s)] [] = some (vint (idxP (at0 s) 0 es), []) := by
    refine den_of ?_
    rw [run_slices_Index_S_string_string]
    refine find_int (es := es) (A := fun i => slices_Index_S_string_string_A Dn (slices_Index_S_string_string_0 es s es.length i)) (by rw [slices_Index_S_string_string_0_eq]; simp) fun i hi => ?_
    obtain ⟨u, hu, _⟩ := hq _ (List.getElem_mem hi)
    rw [slices_Index_S_string_string_0_eq]
    simp -implicitDefEqProofs only [Int.ofNat_lt, decide_true, branch_true, Int.natCast_nonneg, Bool.and_true, Int.toNat_natCast, guarded_true, hi, wrap_upL (Nat.lt_of_lt_of_le hi hl), sized_all (fun e he => (hq e he).len), getD_lt hi, hu, aBool_z, aInt_z, aStr_z, aSl_z, beq_sym s.toList]
    rfl
  refine den_of ?_
  rw [run_slices_Contains_S_string_string, key, rInt_eq, idxP_any _ _ _ (by omega)]
theorem d_impl_InAt {es : List El} {s : ByteArray} (hl : es.length ≤ maxLen) (hq : ∀ e ∈ es, IsInDef e) : Dn F.impl_InAt [vsl es, .leaf (.str s)] [] = some (vint (idxP (at0 s) 0 es), []) := by
  have key : Dn F.slices_IndexFunc_S_impl_InDef_impl_InDef [vsl es, .fn F.impl_InAt_1 [.ptr 0 0]] [[.leaf (.str s)]] = some (vint (idxP (at0 s) 0 es), [[.leaf (.str s)]]) := by
    refine den_of ?_
    rw [run_slices_IndexFunc_S_impl_InDef_impl_InDef_c1p1]
    refine find_int (es := es) (A := fun i => slices_IndexFunc_S_impl_InDef_impl_InDef_c1p1_A Dn (slices_IndexFunc_S_impl_InDef_impl_InDef_c1p1_0 es F.impl_InAt_1 es.length i s)) (by rw [slices_IndexFunc_S_impl_InDef_impl_InDef_c1p1_0_eq]; simp) fun i hi => ?_
    obtain ⟨x, hx, _⟩ := (hq _ (List.getElem_mem hi)).st
    have hc : Dn F.impl_InAt_1 [.agg x.l, .ptr 0 0] [[.leaf (.str s)]] = some (vbool (x.a0.toList == s.toList), [[.leaf (.str s)]]) := den_of (run_impl_InAt_1 ..)
    rw [slices_IndexFunc_S_impl_InDef_impl_InDef_c1p1_0_eq]
    simp -implicitDefEqProofs only [Int.ofNat_lt, decide_true, branch_true, Int.natCast_nonneg, Bool.and_true, Int.toNat_natCast, guarded_true, hi, wrap_upL (Nat.lt_of_lt_of_le hi hl), sized_all (fun e he => (hq e he).len), getD_lt hi, hx, R_ssssbiseee.rd_l, hc, rBoolS_eq]
    rfl
  refine den_of ?_
  rw [run_impl_InAt, key, rIntS_eq]
/-- A thing that has to be handed in. -/
def needs (e : El) : Bool := ends (strAt e 3) 33 && !boolAt e 4
def reqIn (es : List El) : List El := es.flatMap fun e => ifP (needs e) [.str (strAt e 0)]
theorem reqIn_eq (es : List El) : reqIn es = flatI (fun _ e => ifP (needs e) [.str (strAt e 0)]) 0 es := (flatI_const _ _ _).symm
theorem reqIn_len (es : List El) : (reqIn es).length ≤ es.length := by
  rw [reqIn_eq]
  have := flatI_len (g := fun _ e => ifP (needs e) [.str (strAt e 0)]) (c := 1) es 0 fun j hj => ifP_len _ _
  omega
theorem reqIn_all {es : List El} (hq : ∀ e ∈ es, IsInDef e) : ∀ e ∈ reqIn es, IsStr e := by
  intro e he
  unfold reqIn at he
  obtain ⟨x, hx, hm⟩ := List.mem_flatMap.1 he
  obtain ⟨_, rfl⟩ := ifP_mem hm
  obtain ⟨y, rfl, iy⟩ := (hq x hx).st
  exact ⟨y.a0, rfl, iy.p.1⟩
theorem d_spec_RequiredIn {es : List El} (hl : es.length ≤ 1048576) (hq : ∀ e ∈ es, IsInDef e) : Dn F.spec_RequiredIn [vsl es] [] = some (.own (some T.string) (reqIn es), []) := by
  have hml : (1048576 : Nat) ≤ maxLen := by decide
  refine den_of ?_
  rw [run_spec_RequiredIn, reqIn_eq]
  refine app_loop1 (es := es) (g := fun _ e => ifP (needs e) [.str (strAt e 0)]) (c := 1) (N := 4000000) (A := fun out i => spec_RequiredIn_A Dn (spec_RequiredIn_0 es out i)) (fin := fun out => some (.own (some T.string) out, [])) (fun j hj => ifP_len _ _) (fun out _ => by rw [spec_RequiredIn_0_eq]; simp) (fun i hi out ho => ?_) (by omega)
  obtain ⟨x, hx, ix⟩ := (hq _ (List.getElem_mem hi)).st
  have hn := d_spec_Needed (x := ⟨x.a2, x.a3⟩) ix.p.2.2.2.1
  have hw := wrap_upL (Nat.lt_of_lt_of_le hi (Nat.le_trans hl hml))
  rw [spec_RequiredIn_0_eq, hx]
  simp -implicitDefEqProofs only [Int.ofNat_lt, decide_true, branch_true, Int.natCast_nonneg, Bool.and_true, Int.toNat_natCast, guarded_true, hi, sized_all (fun e he => (hq e he).len), getD_lt hi, hx, bindE_eq, R_ss.at_l, R_isee.at_l, R_sisee.at_l, R_se.at_l, R_ssssbiseee.at_l, R_ssesse.at_l, R_sse.at_l, R_is.at_l, R_ibsseeeeebe.at_l, R_eee.at_l, R_iss.at_l, R_issseee.at_l, R_sssbiseee.at_l, R_iseee.at_l, R_ssee.at_l, R_isi.at_l, hn, rBool_eq, bT]
  rw [show needs x.l = (ends x.a3 33 && !x.a4) from rfl, show strAt x.l 0 = x.a0 from rfl]
  cases ends x.a3 33 <;> cases x.a4 <;> simp -implicitDefEqProofs only [branch_true, branch_false, Bool.not_true, Bool.not_false, Bool.and_true, Bool.and_false, Bool.true_and, Bool.false_and, ifP_true, ifP_false, List.append_nil, spec_RequiredIn_1_eq, spec_RequiredIn_2_eq, Int.ofNat_lt, decide_true, branch_true, Int.natCast_nonneg, Bool.and_true, Int.toNat_natCast, guarded_true, hi, sized_all (fun e he => (hq e he).len), getD_lt hi, hx, R_ss.at_l, R_isee.at_l, R_sisee.at_l, R_se.at_l, R_ssssbiseee.at_l, R_ssesse.at_l, R_sse.at_l, R_is.at_l, R_ibsseeeeebe.at_l, R_eee.at_l, R_iss.at_l, R_issseee.at_l, R_sssbiseee.at_l, R_iseee.at_l, R_ssee.at_l, R_isi.at_l, room (z := 16) (show out.length + 1 ≤ 1000000000000 by omega) (by decide), hw]
theorem d_impl_RequiredIn {es : List El} (hl : es.length ≤ 1048576) (hq : ∀ e ∈ es, IsInDef e) : Dn F.impl_RequiredIn [vsl es] [] = some (.own (some T.string) (reqIn es), []) := by
  have hml : (1048576 : Nat) ≤ maxLen := by decide
  refine den_of ?_
  rw [run_impl_RequiredIn, reqIn_eq]
  refine app_loop1 (es := es) (g := fun _ e => ifP (needs e) [.str (strAt e 0)]) (c := 1) (N := 4000000) (A := fun out i => impl_RequiredIn_A Dn (impl_RequiredIn_0 out es es.length i)) (fin := fun out => some (.own (some T.string) out, [])) (fun j hj => ifP_len _ _) (fun out _ => by rw [impl_RequiredIn_0_eq]; simp) (fun i hi out ho => ?_) (by omega)
  obtain ⟨x, hx, ix⟩ := (hq _ (List.getElem_mem hi)).st
  have hn := d_impl_Needed (x := ⟨x.a2, x.a3⟩) ix.p.2.2.2.1
  have hw := wrap_upL (Nat.lt_of_lt_of_le hi (Nat.le_trans hl hml))
  rw [impl_RequiredIn_0_eq, hx]
  simp -implicitDefEqProofs only [Int.ofNat_lt, decide_true, branch_true, Int.natCast_nonneg, Bool.and_true, Int.toNat_natCast, guarded_true, hi, sized_all (fun e he => (hq e he).len), getD_lt hi, hx, R_ssssbiseee.rd_l, hn, rBool_eq, bT]
  rw [show needs x.l = (ends x.a3 33 && !x.a4) from rfl, show strAt x.l 0 = x.a0 from rfl]
  cases ends x.a3 33 <;> cases x.a4 <;> simp -implicitDefEqProofs only [branch_true, branch_false, Bool.not_true, Bool.not_false, Bool.and_true, Bool.and_false, Bool.true_and, Bool.false_and, ifP_true, ifP_false, List.append_nil, impl_RequiredIn_1_eq, impl_RequiredIn_2_eq, room (z := 16) (show out.length + 1 ≤ 1000000000000 by omega) (by decide), guarded_true, hw]
end Go.Vs
end
section
open Go Go.Vs Go.Proofs
set_option linter.unusedVariables false
set_option linter.unusedSimpArgs false
namespace Go.Vs
/-! ### Types by their names -/
def typeP (s : R_eee) (n : ByteArray) : Int := if s.a0.length > 60 then -1 else idxP (at3 n) 0 s.a0
theorem typeP_get {s : R_eee} {n : ByteArray} (hs : IsSchema s.l) (h : ¬ typeP s n < 0) : ∃ (j : Nat) (hj : j < s.a0.length) (y : R_ibsseeeeebe), typeP s n = (j : Int) ∧ s.a0[j] = y.l ∧ IsDef y.l := by
  unfold typeP at h ⊢
  split at h
  · omega
  · rename_i h60
    obtain ⟨j, hj, hi, _⟩ := idxP_get h
    obtain ⟨y, hy, iy⟩ := (hs.p.2.1 _ (List.getElem_mem hj)).st
    exact ⟨j, hj, y, by rw [if_neg h60, hi], hy, iy⟩
theorem typeP_ge {s : R_eee} {n : ByteArray} : typeP s n = -1 ∨ 0 ≤ typeP s n := by
  unfold typeP
  split
  · exact .inl rfl
  · rcases idxP_lt (at3 n) s.a0 0 (by omega) with h | h
    · exact .inl h
    · exact .inr h.1
def noDef : R_ibsseeeeebe := ⟨0, false, nul, nul, [], [], [], [], [], false, []⟩
theorem isNoDef : IsDef noDef.l := show IsDef [.int .i64 0, .bool false, .str nul, .str nul, .sl fP [], .sl fP [], .sl fP [], .sl fP [], .sl fP [], .bool false, .sl fP []] from
  .mk 0 false nul nul [] [] [] [] [] false [] (by decide) (by decide) (by decide) (fun _ h => by cases h) (by decide) (fun _ h => by cases h) (by decide) (fun _ h => by cases h) (by decide) (fun _ h => by cases h) (by decide) (fun _ h => by cases h) (by decide) (fun _ h => by cases h)
def defOf (s : R_eee) (n : ByteArray) : R_ibsseeeeebe := if typeP s n < 0 then noDef else .of (s.a0.getD (typeP s n).toNat [])
theorem isDefOf {s : R_eee} {n : ByteArray} (hs : IsSchema s.l) : IsDef (defOf s n).l := by
  unfold defOf
  split
  · exact isNoDef
  · rename_i h
    obtain ⟨j, hj, y, hi, hy, iy⟩ := typeP_get hs h
    rw [hi, Int.toNat_natCast, getD_lt hj, hy]
    exact iy
theorem defOf_at {s : R_eee} {n : ByteArray} {j : Nat} {hj : j < s.a0.length} {y : R_ibsseeeeebe} (hi : typeP s n = (j : Int)) (hy : s.a0[j] = y.l) : defOf s n = y := by
  unfold defOf
  rw [hi, if_neg (by omega), Int.toNat_natCast, getD_lt hj, hy]
  rfl
def builtP (n : ByteArray) : Bool := n.toList == (ByteArray.mk #[73, 110, 116]).toList || (n.toList == (ByteArray.mk #[70, 108, 111, 97, 116]).toList || (n.toList == (ByteArray.mk #[83, 116, 114, 105, 110, 103]).toList || (n.toList == (ByteArray.mk #[66, 111, 111, 108, 101, 97, 110]).toList || n.toList == (ByteArray.mk #[73, 68]).toList)))
def kindP (s : R_eee) (n : ByteArray) : Int := if typeP s n < 0 then (if builtP n = true then 1 else 0) else (defOf s n).a0
section
variable {s : R_eee} {n a b : ByteArray}
theorem d_spec_TypeAt (hs : IsSchema s.l) : Dn F.spec_TypeAt [.agg s.l, .leaf (.str n)] [] = some (vint (typeP s n), []) := by
  obtain ⟨hl, hq, _⟩ := hs.p
  refine den_of ?_
  rw [run_spec_TypeAt]
  unfold typeP
  by_cases h60 : s.a0.length > 60
  · rw [if_pos h60, spec_TypeAt_0_eq]
    simp -implicitDefEqProofs only [spec_TypeAt_1_eq, bT, show ((s.a0.length : Int) ≤ 60) = False by simp; omega, decide_false, branch_false, branch_same]
  · rw [if_neg h60]
    have h6 : ((s.a0.length : Nat) : Int) ≤ 60 := by omega
    refine find_int (es := s.a0) (A := fun i => spec_TypeAt_A Dn (spec_TypeAt_0 n i s)) (by rw [spec_TypeAt_0_eq]; simp [spec_TypeAt_1_eq]) fun i hi => ?_
    obtain ⟨x, hx, _⟩ := (hq _ (List.getElem_mem hi)).st
    rw [spec_TypeAt_0_eq]
    simp -implicitDefEqProofs only [Int.ofNat_lt, decide_true, branch_true, Int.natCast_nonneg, Bool.and_true, Int.toNat_natCast, guarded_true, hi, h6, bT, spec_TypeAt_1_eq, wrap_upL (Nat.lt_of_lt_of_le hi hl), sized_all (fun e he => (hq e he).len), getD_lt hi, hx, R_ss.at_l, R_isee.at_l, R_sisee.at_l, R_se.at_l, R_ssssbiseee.at_l, R_ssesse.at_l, R_sse.at_l, R_is.at_l, R_ibsseeeeebe.at_l, R_eee.at_l, R_iss.at_l, R_issseee.at_l, R_sssbiseee.at_l, R_iseee.at_l, R_ssee.at_l, R_isi.at_l]
    rfl
theorem d_impl_TypeAt (hs : IsSchema s.l) : Dn F.impl_TypeAt [.agg s.l, .leaf (.str n)] [] = some (vint (typeP s n), []) := by
  obtain ⟨hl, hq, _⟩ := hs.p
  have key : Dn F.slices_IndexFunc_S_impl_Def_impl_Def [vsl s.a0, .fn F.impl_named_1 [.ptr 0 0]] [[.leaf (.str n)]] = some (vint (idxP (at3 n) 0 s.a0), [[.leaf (.str n)]]) := by
    refine den_of ?_
    rw [run_slices_IndexFunc_S_impl_Def_impl_Def_c1p1]
    refine find_int (es := s.a0) (A := fun i => slices_IndexFunc_S_impl_Def_impl_Def_c1p1_A Dn (slices_IndexFunc_S_impl_Def_impl_Def_c1p1_0 s.a0 F.impl_named_1 s.a0.length i n)) (by rw [slices_IndexFunc_S_impl_Def_impl_Def_c1p1_0_eq]; simp) fun i hi => ?_
    obtain ⟨x, hx, _⟩ := (hq _ (List.getElem_mem hi)).st
    have hc : Dn F.impl_named_1 [.agg x.l, .ptr 0 0] [[.leaf (.str n)]] = some (vbool (x.a3.toList == n.toList), [[.leaf (.str n)]]) := den_of (run_impl_named_1 ..)
    rw [slices_IndexFunc_S_impl_Def_impl_Def_c1p1_0_eq]
    simp -implicitDefEqProofs only [Int.ofNat_lt, decide_true, branch_true, Int.natCast_nonneg, Bool.and_true, Int.toNat_natCast, guarded_true, hi, wrap_upL (Nat.lt_of_lt_of_le hi hl), sized_all (fun e he => (hq e he).len), getD_lt hi, hx, R_ibsseeeeebe.rd_l, hc, rBoolS_eq]
    rfl
  have k2 : Dn F.impl_named [vsl s.a0, .leaf (.str n)] [] = some (vint (typeP s n), []) := by
    refine den_of ?_
    rw [run_impl_named, key, rIntS_eq, branch_ite]
    unfold typeP
    by_cases h60 : s.a0.length > 60
    · rw [if_pos h60, if_pos (by simp; omega)]
    · rw [if_neg h60, if_neg (by simp; omega)]
  refine den_of ?_
  rw [run_impl_TypeAt, k2, rInt_eq]
theorem d_impl_typeDef (hs : IsSchema s.l) : Dn F.impl_typeDef [.agg s.l, .leaf (.str n)] [] = some (.tup [.agg (defOf s n).l, vbool (!decide (typeP s n < 0))], []) := by
  refine den_of ?_
  rw [run_impl_typeDef, d_impl_TypeAt hs, rInt_eq]
  by_cases h : typeP s n < 0
  · have : defOf s n = noDef := by unfold defOf; rw [if_pos h]
    rw [this]
    simp -implicitDefEqProofs only [h, decide_true, branch_true]
    rfl
  · obtain ⟨j, hj, y, hi, hy, iy⟩ := typeP_get hs h
    have hn : ¬ ((j : Int) < 0) := by omega
    rw [defOf_at hi hy, hi]
    simp -implicitDefEqProofs only [hn, decide_false, branch_false, Int.ofNat_lt, decide_true, branch_true, Int.natCast_nonneg, Bool.and_true, Int.toNat_natCast, guarded_true, hj, sized_all (fun e he => (hs.p.2.1 e he).len), getD_lt hj, hy, R_ibsseeeeebe.rd_l]
    rfl
theorem d_spec_BuiltIn : Dn F.spec_BuiltIn [.leaf (.str n)] [] = some (vbool (builtP n), []) := by
  refine den_of ?_
  rw [run_spec_BuiltIn]
  unfold builtP
  simp -implicitDefEqProofs only [bF]
  cases n.toList == (ByteArray.mk #[73, 110, 116]).toList <;> cases n.toList == (ByteArray.mk #[70, 108, 111, 97, 116]).toList <;> cases n.toList == (ByteArray.mk #[83, 116, 114, 105, 110, 103]).toList <;> cases n.toList == (ByteArray.mk #[66, 111, 111, 108, 101, 97, 110]).toList <;> rfl

/-- May the one name stand where the other one is? -/
def subN (s : R_eee) (a b : ByteArray) : Bool :=
  if (a.toList == b.toList) = true then true
  else if (defOf s b).a0 = 3 then ((defOf s a).a0 == 2 || (defOf s a).a0 == 3) && (defOf s a).a4.any (at0 b)
  else if (defOf s b).a0 = 4 then (defOf s a).a0 == 2 && (defOf s b).a4.any (at0 a)
  else false

end
end Go.Vs
end
section
open Go Go.Vs Go.Proofs
set_option linter.unusedVariables false
set_option linter.unusedSimpArgs false
namespace Go.Vs
/-! ### Problems -/
def pb (code : Int) (o p : ByteArray) : El := [.int .i64 code, .str o, .str p]
theorem isPb {c : Int} {o p : ByteArray} : IsProblem (pb c o p) := .mk _ _ _
theorem ifPb {q : Bool} {c : Int} {o p : ByteArray} : ∀ e ∈ ifP q (pb c o p), IsProblem e := fun e he => by obtain ⟨_, rfl⟩ := ifP_mem he; exact isPb
theorem app_all {a b : List El} (ha : ∀ e ∈ a, IsProblem e) (hb : ∀ e ∈ b, IsProblem e) : ∀ e ∈ a ++ b, IsProblem e := fun e he => (List.mem_append.1 he).elim (ha e) (hb e)
theorem flat_all {g : Nat → El → List El} {l : List El} {i : Nat} (h : ∀ (j : Nat) (x : El), ∀ e ∈ g j x, IsProblem e) : ∀ e ∈ flatI g i l, IsProblem e := fun e he => by
  obtain ⟨j, hj, hx⟩ := flatI_mem l i he
  exact h _ _ e hx
theorem room1 {out : List El} {z : Nat} (ho : out.length + 1 ≤ 1000000000) (hz : z ≤ 100) : decide ((out.length + 1) * z ≤ maxBytes) = true := room (by omega) hz
theorem d_add {q : Bool} {c : Int} {o p : ByteArray} {out : List El} (ho : out.length + 1 ≤ 1000000000) : Dn F.impl_problems_add [.ptr 0 0, .leaf (.bool q), vint c, .leaf (.str o), .leaf (.str p)] [[.own (some T.impl_Problem) out]] =
    some (.tup [], [[.own (some T.impl_Problem) (out ++ ifP q (pb c o p))]]) := by
  refine den_of ?_
  rw [run_impl_problems_add]
  cases q
  · simp -implicitDefEqProofs only [branch_false, ifP_false, List.append_nil]
  · simp -implicitDefEqProofs only [branch_true, ifP_true, room1 (z := 40) ho (by decide), Bool.and_true, guarded_true]; rfl
theorem d_all {l out : List El} (hl : ∀ e ∈ l, IsProblem e) (ho : out.length + l.length ≤ 1000000000) : Dn F.impl_problems_all [.ptr 0 0, .leaf (.sl fP l)] [[.own (some T.impl_Problem) out]] =
    some (.tup [], [[.own (some T.impl_Problem) (out ++ l)]]) := by
  refine den_of ?_
  rw [run_impl_problems_all]
  simp -implicitDefEqProofs only [room (z := 40) (show out.length + l.length ≤ 1000000000000 by omega) (by decide), sized_all (fun e he => (hl e he).len), Bool.and_self, guarded_true]

/-- Are there too many parts? -/
def bigP (x : R_ibsseeeeebe) : Bool := decide ((x.a4.length : Int) > 100) || (decide ((x.a5.length : Int) > 100) || (decide ((x.a6.length : Int) > 100) || (decide ((x.a7.length : Int) > 100) || x.a5.any fun f => decide (((slAt f 2).length : Int) > 100))))
theorem bigP_not {x : R_ibsseeeeebe} (h : bigP x = false) : x.a4.length ≤ 100 ∧ x.a5.length ≤ 100 ∧ x.a6.length ≤ 100 ∧ x.a7.length ≤ 100 ∧ ∀ f ∈ x.a5, (slAt f 2).length ≤ 100 := by
  unfold bigP at h
  simp -implicitDefEqProofs only [Bool.or_eq_false_iff, decide_eq_false_iff_not, List.any_eq_false, decide_eq_true_eq] at h
  obtain ⟨h1, h2, h3, h4, h5⟩ := h
  exact ⟨by omega, by omega, by omega, by omega, fun f hf => by have := h5 f hf; omega⟩

/-! ### A field against that of an interface -/
def argBad (m : List El) (a : El) : Bool := if idxP (at0 (strAt a 0)) 0 m < 0 then true else !(strAt (m.getD (idxP (at0 (strAt a 0)) 0 m).toNat []) 2 == strAt a 2 && (strAt (m.getD (idxP (at0 (strAt a 0)) 0 m).toNat []) 3 == strAt a 3 && true))
def argA (nm : ByteArray) (mine own : R_ssesse) (a : El) : List El := ifP (argBad mine.a2 a) (pb 11 nm own.a0)
def argB (nm : ByteArray) (own : R_ssesse) (e : El) : List El := ifP (decide (idxP (at0 (strAt e 0)) 0 own.a2 < 0)) (pb 11 nm own.a0)
def argP (nm : ByteArray) (mine own : R_ssesse) : List El := flatI (fun _ => argA nm mine own) 0 own.a2 ++ flatI (fun _ => argB nm own) 0 (reqIn mine.a2)
theorem argP_len (nm : ByteArray) (mine own : R_ssesse) : (argP nm mine own).length ≤ own.a2.length + mine.a2.length := by
  unfold argP
  have h1 := flatI_len (g := fun _ => argA nm mine own) (c := 1) own.a2 0 fun j hj => ifP_len _ _
  have h2 := flatI_len (g := fun _ => argB nm own) (c := 1) (reqIn mine.a2) 0 fun j hj => ifP_len _ _
  have h3 := reqIn_len mine.a2
  rw [List.length_append]; omega
theorem argP_all {nm : ByteArray} {mine own : R_ssesse} : ∀ e ∈ argP nm mine own, IsProblem e := app_all (flat_all fun j x => ifPb) (flat_all fun j x => ifPb)
end Go.Vs
end
section
open Go Go.Vs Go.Proofs
set_option linter.unusedVariables false
set_option linter.unusedSimpArgs false
namespace Go.Vs
/-! ### Whole numbers, as the reference asks -/
theorem d_spec_l03Figure {b : UInt8} : Dn F.spec_l03Figure [.leaf (.int .u8 (b.toNat : Int))] [] = some (vbool (isFig b), []) := by
  refine den_of ?_
  rw [run_spec_l03Figure]
  unfold isFig
  by_cases h : 48 ≤ b.toNat
  · have h1 : ((b.toNat : Nat) : Int) ≥ 48 := by omega
    have h2 : (((b.toNat : Nat) : Int) ≤ 57) = (b.toNat ≤ 57) := by simp; omega
    simp -implicitDefEqProofs only [h, h1, h2, decide_true, bT, branch_true, Bool.true_and]
  · have h1 : ¬ ((b.toNat : Nat) : Int) ≥ 48 := by omega
    simp -implicitDefEqProofs only [h, h1, decide_false, bT, branch_false, Bool.false_and]
theorem byteD {s : ByteArray} {i : Nat} (hi : i < s.data.toList.length) : s.data.toList.getD i 0 = s.data.toList[i] := by
  rw [List.getD_eq_getElem?_getD, List.getElem?_eq_getElem hi]; rfl
theorem d_spec_l03Run {s : ByteArray} (hs : s.size ≤ maxLen) {i : Nat} (hi : i ≤ s.size) : Dn F.spec_l03Run [.leaf (.str s), vint i] [] = some (vint ((i + runB (s.data.toList.drop i) : Nat) : Int), []) := by
  have hn := byteN s
  have key : ∀ i : Nat, i ≤ s.size → spec_l03Run_A Dn (spec_l03Run_0 s i) = some (vint ((i + runB (s.data.toList.drop i) : Nat) : Int), []) := by
    refine upto_ind ?_ ?_
    · rw [spec_l03Run_0_eq, spec_l03Run_1_eq]
      simp -implicitDefEqProofs only [Int.lt_irrefl, decide_false, bT, branch_false, ← hn, List.drop_length, runB, Nat.add_zero]
    · intro i hi ih
      have hi' : i < s.data.toList.length := by omega
      rw [spec_l03Run_0_eq]
      simp -implicitDefEqProofs only [Int.ofNat_lt, decide_true, branch_true, Int.natCast_nonneg, Bool.and_true, Int.toNat_natCast, guarded_true, hi, bT, byteD hi', d_spec_l03Figure, rBool_eq, spec_l03Run_1_eq, wrap_upL (Nat.lt_of_lt_of_le hi hs), ih]
      rw [List.drop_eq_getElem_cons hi', runB_cons]
      cases isFig s.data.toList[i]
      · simp -implicitDefEqProofs only [branch_false, Bool.false_eq_true, if_false, Nat.add_zero]
      · simp -implicitDefEqProofs only [branch_true, if_true]
        rw [show i + 1 + runB (s.data.toList.drop (i + 1)) = i + (runB (s.data.toList.drop (i + 1)) + 1) by omega]
  refine den_of ?_
  rw [run_spec_l03Run]
  exact key i hi
theorem d_spec_l03Int {s : ByteArray} (hs : s.size ≤ maxLen) (h0 : 0 < s.size) {k : Nat} (hk : k = if neg s.data.toList = true then 1 else 0) :
    Dn F.spec_l03Int [.leaf (.str s)] [] = some (vint ((if runB (s.data.toList.drop k) = 0 ∨ ((s.data.toList.drop k).head?.map (·.toNat) = some 48 ∧ 1 < runB (s.data.toList.drop k)) then 0 else k + runB (s.data.toList.drop k) : Nat) : Int), []) := by
  have hn := byteN s
  have hm : maxLen = 9223372036854775807 := rfl
  refine den_of ?_
  rw [run_spec_l03Int]
  have hpos : (0 : Int) < (s.size : Int) := by omega
  have hpos' : (s.size : Int) > 0 := by omega
  cases hl : s.data.toList with
  | nil => rw [hl] at hn; simp at hn; omega
  | cons c r =>
    have hneg : ((((c :: r).getD (Int.toNat 0) 0).toNat : Int) == 45) = neg (c :: r) := by
      show ((c.toNat : Int) == 45) = decide (c.toNat = 45)
      rw [Bool.eq_iff_iff]; simp; omega
    have one : ∀ i : Nat, i = k → spec_l03Int_A Dn (spec_l03Int_1 s i) = some (vint ((if runB ((c :: r).drop k) = 0 ∨ (((c :: r).drop k).head?.map (·.toNat) = some 48 ∧ 1 < runB ((c :: r).drop k)) then 0 else k + runB ((c :: r).drop k) : Nat) : Int), []) := fun i hi => by
      subst hi
      have hi1 : i ≤ s.size := by subst hk; rw [hl] at hn ⊢; simp at hn; split <;> omega
      rw [spec_l03Int_1_eq, d_spec_l03Run hs hi1, rInt_eq, hl]
      simp -implicitDefEqProofs only [spec_l03Int_2_eq, bF, branch_not]
      by_cases hz : runB ((c :: r).drop i) = 0
      · simp -implicitDefEqProofs only [hz, Nat.add_zero, beq_self_eq_true, branch_true, true_or, if_true]
        rfl
      · have hne : (((i + runB ((c :: r).drop i) : Nat) : Int) == (i : Int)) = false := by rw [beq_eq_false_iff_ne]; omega
        have hlt : i < s.size := by
          rw [← hn, hl]
          exact Nat.lt_of_not_le fun h => hz (by rw [List.drop_of_length_le h]; rfl)
        have hlt' : i < (c :: r).length := by rw [← hl, hn]; exact hlt
        have hd : (c :: r).drop i = (c :: r)[i] :: (c :: r).drop (i + 1) := List.drop_eq_getElem_cons hlt'
        have hg : (c :: r).getD i 0 = (c :: r)[i] := by rw [List.getD_eq_getElem?_getD, List.getElem?_eq_getElem hlt']; rfl
        have hle := runB_le ((c :: r).drop i)
        simp -implicitDefEqProofs only [hne, branch_false, Int.ofNat_lt, decide_true, branch_true, Int.natCast_nonneg, Bool.and_true, Int.toNat_natCast, guarded_true, hlt, hg, bT]
        have h48 : ((((c :: r)[i].toNat : Nat) : Int) == 48) = decide ((c :: r)[i].toNat = 48) := by rw [Bool.eq_iff_iff]; simp; omega
        rw [h48, wrap_upL (show i < maxLen by omega)]
        have hh : ((c :: r).drop i).head?.map (·.toNat) = some (c :: r)[i].toNat := by rw [hd]; rfl
        rw [hh]
        by_cases h4 : (c :: r)[i].toNat = 48
        · simp -implicitDefEqProofs only [h4, decide_true, branch_true, hz, false_or, true_and]
          by_cases h1 : 1 < runB ((c :: r).drop i)
          · have : ((i + runB ((c :: r).drop i) : Nat) : Int) > ((i + 1 : Nat) : Int) := by omega
            simp -implicitDefEqProofs only [this, decide_true, branch_true, h1, if_true]
            rfl
          · have : ¬ ((i + runB ((c :: r).drop i) : Nat) : Int) > ((i + 1 : Nat) : Int) := by omega
            simp -implicitDefEqProofs only [this, decide_false, branch_false, h1, if_false]
        · have : ¬ (some (c :: r)[i].toNat = some 48) := by simpa using h4
          simp -implicitDefEqProofs only [h4, decide_false, branch_false, hz, this, false_and, or_self, if_false]
    simp -implicitDefEqProofs only [hpos, hpos', decide_true, bT, branch_true, guarded_true, hneg, spec_l03Int_0_eq]
    rw [hl] at hk
    cases hb : neg (c :: r) with
    | true => rw [hb] at hk; simp -implicitDefEqProofs only [branch_true]; exact one 1 (by simp at hk; exact hk.symm)
    | false => rw [hb] at hk; simp -implicitDefEqProofs only [branch_false]; exact one 0 (by simp at hk; exact hk.symm)
theorem d_spec_IntOk {s : ByteArray} (hs : s.size ≤ maxLen) : Dn F.spec_IntOk [.leaf (.str s)] [] = some (vbool (intB s.data.toList), []) := by
  have hn := byteN s
  refine den_of ?_
  rw [run_spec_IntOk]
  by_cases h0 : 0 < s.size
  · have hne : s.data.toList ≠ [] := fun h => by rw [h] at hn; simp at hn; omega
    rw [d_spec_l03Int hs h0 rfl, rInt_eq, intB_run s.data.toList _ rfl hne, hn]
    have h1 : (s.size : Int) > 0 := by omega
    have hq : ∀ q : Nat, (((q : Nat) : Int) == (s.size : Int)) = decide (q = s.size) := fun q => by rw [Bool.eq_iff_iff]; simp; omega
    have h40 : ((s.size : Int) ≤ 40) = (s.size ≤ 40) := by simp; omega
    simp -implicitDefEqProofs only [h1, h40, hq, decide_true, bT, branch_true]
    cases decide (s.size ≤ 40) <;> simp -implicitDefEqProofs only [branch_true, branch_false, Bool.true_and, Bool.false_and]
  · have hz : s.data.toList = [] := by cases hl : s.data.toList with | nil => rfl | cons c r => rw [hl] at hn; simp at hn; omega
    have h1 : ¬ (s.size : Int) > 0 := by omega
    simp -implicitDefEqProofs only [h1, decide_false, bT, branch_false, branch_same, hz]
    rfl
/-- Is it a whole number of 32 bits? -/
def fits32 (s : ByteArray) : Bool := intB s.data.toList && fitB s.data.toList
theorem d_spec_Fits32 {s : ByteArray} (hs : s.size ≤ maxLen) : Dn F.spec_Fits32 [.leaf (.str s)] [] = some (vbool (fits32 s), []) := by
  have hn := byteN s
  have hm : maxLen = 9223372036854775807 := rfl
  refine den_of ?_
  rw [run_spec_Fits32, d_spec_IntOk hs, rBool_eq]
  unfold fits32
  simp -implicitDefEqProofs only [bF, Bool.not_not, spec_Fits32_0_eq]
  cases hi : intB s.data.toList with
  | false => simp -implicitDefEqProofs only [branch_false, branch_true, Bool.false_and]
  | true =>
    simp -implicitDefEqProofs only [branch_true, Bool.true_and]
    by_cases h11 : 11 < s.size
    · have h1 : (s.size : Int) > 11 := by omega
      simp -implicitDefEqProofs only [h1, decide_true, branch_true, fit_long hi (show 11 < s.data.toList.length by omega)]
    · have h1 : ¬ (s.size : Int) > 11 := by omega
      simp -implicitDefEqProofs only [h1, decide_false, branch_false]
      have hi' := hi
      unfold intB at hi'
      simp -implicitDefEqProofs only [Bool.and_eq_true, decide_eq_true_eq] at hi'
      obtain ⟨_, hne, hall, _⟩ := hi'
      -- the number, letter by letter
      have loop : ∀ (l : List UInt8) (i : Nat) (n : Nat), s.data.toList.drop i = l → l.all isFig = true → i ≤ s.size → (n + 1) * 10 ^ l.length ≤ 1000000000000 →
          spec_Fits32_A Dn (spec_Fits32_1 s n i) = spec_Fits32_A Dn (spec_Fits32_1 s (valA n l) s.size) := by
        intro l
        induction l with
        | nil =>
          intro i n hd _ hi _
          have : s.data.toList.length ≤ i := by
            rcases Nat.lt_or_ge i s.data.toList.length with h | h
            · rw [List.drop_eq_getElem_cons h] at hd; cases hd
            · exact h
          have : i = s.size := by omega
          subst this
          rw [valA_nil]
        | cons c r ih =>
          intro i n hd hf hi hb
          have hlt : i < s.data.toList.length := by
            rcases Nat.lt_or_ge i s.data.toList.length with h | h
            · exact h
            · rw [List.drop_of_length_le h] at hd; cases hd
          have hlt' : i < s.size := by omega
          rw [List.drop_eq_getElem_cons hlt] at hd
          obtain ⟨hc, hr⟩ := List.cons.inj hd
          rw [List.all_cons, Bool.and_eq_true] at hf
          have hcf : 48 ≤ c.toNat ∧ c.toNat ≤ 57 := by simpa [isFig] using hf.1
          have hb' : (addD n c + 1) * 10 ^ r.length ≤ 1000000000000 := by
            rw [List.length_cons, Nat.pow_succ, Nat.mul_comm (10 ^ r.length) 10, ← Nat.mul_assoc] at hb
            have : addD n c + 1 ≤ (n + 1) * 10 := by unfold addD; omega
            exact Nat.le_trans (Nat.mul_le_mul_right _ this) hb
          have hn1 : n + 1 ≤ 1000000000000 := by
            have h1 : 1 ≤ 10 ^ (c :: r).length := Nat.one_le_pow _ _ (by omega)
            have := Nat.mul_le_mul_left (n + 1) h1
            omega
          rw [valA_cons, ← ih (i + 1) (addD n c) hr hf.2 (by omega) hb', spec_Fits32_1_eq]
          have h45 : (((c.toNat : Nat) : Int) != 45) = true := by simp; omega
          have hv : IntKind.i64.wrap (IntKind.i64.wrap (IntKind.i64.wrap ((n : Int) * 10) + IntKind.i64.wrap ((c.toNat : Nat) : Int)) - 48) = ((addD n c : Nat) : Int) := by
            rw [wrap64 (z := (n : Int) * 10) (by omega) (by omega), wrap64 (z := ((c.toNat : Nat) : Int)) (by omega) (by omega), wrap64 (z := (n : Int) * 10 + ((c.toNat : Nat) : Int)) (by omega) (by omega), wrap64 (by omega) (by omega)]
            unfold addD; omega
          simp -implicitDefEqProofs only [Int.ofNat_lt, decide_true, branch_true, Int.natCast_nonneg, Bool.and_true, Int.toNat_natCast, guarded_true, hlt', byteD hlt, hc, h45, hv, spec_Fits32_2_eq, wrap_upL (Nat.lt_of_lt_of_le hlt' hs)]
      have start : spec_Fits32_A Dn (spec_Fits32_1 s 0 0) = spec_Fits32_A Dn (spec_Fits32_1 s (valA 0 (digs s.data.toList)) s.size) := by
        cases hl : s.data.toList with
        | nil => rw [hl] at hne; simp [digs] at hne
        | cons c r =>
          have hlt : 0 < s.data.toList.length := by rw [hl]; simp
          have hlt' : 0 < s.size := by omega
          have hsz : r.length + 1 = s.size := by rw [← hn, hl]; rfl
          rw [hl] at hall
          by_cases hc : c.toNat = 45
          · have hd : digs (c :: r) = r := by simp [digs, hc]
            rw [hd] at hall ⊢
            rw [← loop r 1 0 (by rw [hl]; rfl) hall (by omega) (by
              have : 10 ^ r.length ≤ 10 ^ 10 := Nat.pow_le_pow_right (by omega) (by omega)
              have h10 : (10 : Nat) ^ 10 = 10000000000 := by decide
              omega), spec_Fits32_1_eq]
            have hpos : (0 : Int) < (s.size : Int) := by omega
            have hg : s.data.toList.getD (Int.toNat 0) 0 = c := by rw [hl]; rfl
            have h45 : (((c.toNat : Nat) : Int) != 45) = false := by simp; omega
            have hw : IntKind.i64.wrap ((0 : Int) + 1) = 1 := wrap64 (by omega) (by omega)
            simp -implicitDefEqProofs only [hpos, hg, h45, decide_true, branch_true, branch_false, Int.le_refl, Bool.and_self, guarded_true, spec_Fits32_2_eq, hw]
            rfl
          · have hd : digs (c :: r) = c :: r := by simp [digs, hc]
            rw [hd] at hall ⊢
            have := loop (c :: r) 0 0 (by rw [hl]; rfl) hall (by omega) (by
              have : 10 ^ (c :: r).length ≤ 10 ^ 11 := Nat.pow_le_pow_right (by omega) (by simp; omega)
              have h10 : (10 : Nat) ^ 11 = 100000000000 := by decide
              omega)
            exact this
      rw [start, spec_Fits32_1_eq]
      have hpos' : 0 < s.size := by
        have : s.data.toList ≠ [] := fun h => by rw [h] at hne; simp [digs] at hne
        have := List.length_pos_iff.2 this
        omega
      have hpos : (0 : Int) < (s.size : Int) := by omega
      have hneg : (((s.data.toList.getD (Int.toNat 0) 0).toNat : Int) == 45) = neg s.data.toList := by
        cases hl : s.data.toList with
        | nil => rw [hl] at hne; simp [digs] at hne
        | cons c r =>
          show ((c.toNat : Int) == 45) = decide (c.toNat = 45)
          rw [Bool.eq_iff_iff]; simp; omega
      simp -implicitDefEqProofs only [Int.lt_irrefl, decide_false, branch_false, hpos, decide_true, guarded_true, hneg]
      unfold fitB
      cases neg s.data.toList
      · have : (((valA 0 (digs s.data.toList) : Nat) : Int) ≤ 2147483647) = (valA 0 (digs s.data.toList) ≤ 2147483647) := by simp; omega
        simp -implicitDefEqProofs only [branch_false, Bool.false_eq_true, if_false, this]
      · have : (((valA 0 (digs s.data.toList) : Nat) : Int) ≤ 2147483648) = (valA 0 (digs s.data.toList) ≤ 2147483648) := by simp; omega
        simp -implicitDefEqProofs only [branch_true, if_true, this]
theorem fits32_eq (s : ByteArray) : (intB s.data.toList && f32 s) = fits32 s := by
  unfold fits32 f32
  cases h : intB s.data.toList with
  | false => simp -implicitDefEqProofs only [Bool.false_and]
  | true => rw [parse32 h]
theorem d_impl_Fits32 {s : ByteArray} (hs : s.size ≤ 1048576) : Dn F.impl_Fits32 [.leaf (.str s)] [] = some (vbool (fits32 s), []) := by
  refine den_told (t := fitsT) rfl ?_
  unfold fitsT
  simp -implicitDefEqProofs only []
  rw [if_pos (by omega), fits32_eq]
end Go.Vs
end
section
open Go Go.Vs Go.Proofs
set_option linter.unusedVariables false
set_option linter.unusedSimpArgs false
namespace Go.Vs
/-! ### Wraps -/
def few (t : R_ss) : R_ss := ⟨t.a0, if ends t.a1 33 then cut t.a1 else t.a1⟩
def inn (t : R_ss) : R_ss := ⟨t.a0, if ends (few t).a1 93 then cut (few t).a1 else nul⟩
theorem few_size (t : R_ss) : (few t).a1.size ≤ t.a1.size := by
  unfold few
  show (if ends t.a1 33 = true then cut t.a1 else t.a1).size ≤ _
  split
  · rw [cut_size]; omega
  · exact Nat.le_refl _
theorem inn_size (t : R_ss) : (inn t).a1.size ≤ t.a1.size := by
  have := few_size t
  unfold inn
  show (if ends (few t).a1 93 = true then cut (few t).a1 else nul).size ≤ _
  split
  · rw [cut_size]; omega
  · exact Nat.zero_le _
theorem ends_one {w : ByteArray} {a b : UInt8} (h : ends w a = true) (hab : (a == b) = false) : ends w b = false := by
  unfold ends at h ⊢
  rw [Bool.and_eq_true, beq_iff_eq] at h
  rw [h.2, hab, Bool.and_false]
theorem inn_few {t : R_ss} (h : ends (few t).a1 93 = true) : (inn (few t)).a1.size < t.a1.size := by
  have h1 := few_size t
  have hp := ends_pos h
  have h3 : few (few t) = few t := by
    show (⟨t.a0, if ends (few t).a1 33 = true then cut (few t).a1 else (few t).a1⟩ : R_ss) = few t
    rw [ends_one h (by decide)]
    rfl
  have : (inn (few t)).a1 = cut (few t).a1 := by
    show (if ends (few (few t)).a1 93 = true then cut (few (few t)).a1 else nul) = _
    rw [h3, if_pos h]
  rw [this, cut_size]; omega
theorem d_TrimSuffix {s : ByteArray} {c : UInt8} (hs : s.size ≤ maxLen) : Dn F.strings_TrimSuffix [.leaf (.str s), .leaf (.str ⟨#[c]⟩)] [] = some (.leaf (.str (if ends s c then cut s else s)), []) := by
  have h1 : (ByteArray.mk #[c]).size = 1 := rfl
  have key : Dn F.internal_stringslite_TrimSuffix [.leaf (.str s), .leaf (.str ⟨#[c]⟩)] [] = some (.leaf (.str (if ends s c then cut s else s)), []) := by
    refine den_of ?_
    rw [run_internal_stringslite_TrimSuffix, d_HasSuffix hs, h1, rBool_eq]
    cases he : ends s c with
    | false => simp -implicitDefEqProofs only [branch_false, Bool.false_eq_true, if_false]
    | true =>
      have h := ends_pos he
      have hw := wrap_sub hs (show 1 ≤ s.size by omega)
      simp -implicitDefEqProofs only [hw, branch_true, Int.natCast_nonneg, decide_true, Bool.true_and, Int.toNat_natCast, Nat.sub_le, guarded_true, if_true]
      rfl
  refine den_of ?_
  rw [run_strings_TrimSuffix, key, rStr_eq]
theorem d_impl_Fewer {t : R_ss} (ht : t.a1.size ≤ maxLen) : Dn F.impl_Fewer [.agg t.l] [] = some (.agg (few t).l, []) := by
  refine den_of ?_
  rw [run_impl_Fewer, d_TrimSuffix ht, rStr_eq]
  rfl
theorem d_spec_Fewer {t : R_ss} (ht : t.a1.size ≤ maxLen) : Dn F.spec_Fewer [.agg t.l] [] = some (.agg (few t).l, []) := by
  refine den_of ?_
  rw [run_spec_Fewer, d_spec_Needed ht, rBool_eq]
  unfold few
  cases he : ends t.a1 33 with
  | false => simp -implicitDefEqProofs only [branch_false, spec_Fewer_0_eq, Bool.false_eq_true, if_false]
  | true =>
    have h := ends_pos he
    simp -implicitDefEqProofs only [branch_true, grd_hi h ht, cut_hi h ht, guarded_true, spec_Fewer_0_eq, if_true]
theorem d_impl_Inner {t : R_ss} (ht : t.a1.size ≤ maxLen) : Dn F.impl_Inner [.agg t.l] [] = some (.agg (inn t).l, []) := by
  refine den_of ?_
  rw [run_impl_Inner, d_impl_Fewer ht]
  simp -implicitDefEqProofs only [vBool_eq, vInt_eq, vStr_eq, vSl_eq, rBool_eq, rInt_eq, rStr_eq, rSl_eq, rOwn_eq, rBool0_eq, rInt0_eq, rBoolS_eq, rIntS_eq, rCol_eq, aBool_z, aInt_z, aStr_z, aSl_z, cmb_a, Option.bind_some, svTupK_tup, headK_cons, headB_cons, lastK_nil, lastB_nil, svAggK_agg, svOwnK_own, branch_true, branch_false, guarded_true, beq_self_eq_true, Bool.not_true, Bool.not_false, Bool.and_true, Bool.true_and, bT, bF, R_ss.va_l, d_CutSuffix (c := 93) (Nat.le_trans (few_size t) ht)]
  unfold inn
  cases ends (few t).a1 93 with
  | false => simp -implicitDefEqProofs only [vBool_eq, vInt_eq, vStr_eq, vSl_eq, rBool_eq, rInt_eq, rStr_eq, rSl_eq, rOwn_eq, rBool0_eq, rInt0_eq, rBoolS_eq, rIntS_eq, rCol_eq, aBool_z, aInt_z, aStr_z, aSl_z, cmb_a, Option.bind_some, svTupK_tup, headK_cons, headB_cons, lastK_nil, lastB_nil, svAggK_agg, svOwnK_own, branch_true, branch_false, guarded_true, beq_self_eq_true, Bool.not_true, Bool.not_false, Bool.and_true, Bool.true_and, bT, bF, Bool.false_eq_true, if_false]
  | true => simp -implicitDefEqProofs only [vBool_eq, vInt_eq, vStr_eq, vSl_eq, rBool_eq, rInt_eq, rStr_eq, rSl_eq, rOwn_eq, rBool0_eq, rInt0_eq, rBoolS_eq, rIntS_eq, rCol_eq, aBool_z, aInt_z, aStr_z, aSl_z, cmb_a, Option.bind_some, svTupK_tup, headK_cons, headB_cons, lastK_nil, lastB_nil, svAggK_agg, svOwnK_own, branch_true, branch_false, guarded_true, beq_self_eq_true, Bool.not_true, Bool.not_false, Bool.and_true, Bool.true_and, bT, bF, if_true]
theorem lastS {w : ByteArray} (hw : w.size ≤ maxLen) (c : Nat) (hc : c < 256) {β : Type} (A : Bool → Option β) :
    branch (decide ((w.size : Int) > 0)) (guarded (decide (0 ≤ IntKind.i64.wrap ((w.size : Int) - 1)) && decide (IntKind.i64.wrap ((w.size : Int) - 1) < (w.size : Int))) (A (((w.data.toList.getD (IntKind.i64.wrap ((w.size : Int) - 1)).toNat 0).toNat : Int) == (c : Int)))) (A false) = A (ends w (UInt8.ofNat c)) := by
  by_cases h : 0 < w.size
  · have h1 : ((w.size : Nat) : Int) > 0 := by omega
    simp -implicitDefEqProofs only [h1, decide_true, branch_true, grd_at h hw, guarded_true, last_is c hc h hw]
  · have h1 : ¬ ((w.size : Nat) : Int) > 0 := by omega
    have : ends w (UInt8.ofNat c) = false := by unfold ends; simp [h]
    simp -implicitDefEqProofs only [h1, decide_false, branch_false, this]
theorem d_spec_Inner {t : R_ss} (ht : t.a1.size ≤ maxLen) : Dn F.spec_Inner [.agg t.l] [] = some (.agg (inn t).l, []) := by
  have hf := Nat.le_trans (few_size t) ht
  refine den_of ?_
  rw [run_spec_Inner, d_spec_Fewer ht]
  simp -implicitDefEqProofs only [vBool_eq, vInt_eq, vStr_eq, vSl_eq, rBool_eq, rInt_eq, rStr_eq, rSl_eq, rOwn_eq, rBool0_eq, rInt0_eq, rBoolS_eq, rIntS_eq, rCol_eq, aBool_z, aInt_z, aStr_z, aSl_z, cmb_a, Option.bind_some, svTupK_tup, headK_cons, headB_cons, lastK_nil, lastB_nil, svAggK_agg, svOwnK_own, branch_true, branch_false, guarded_true, beq_self_eq_true, Bool.not_true, Bool.not_false, Bool.and_true, Bool.true_and, bT, bF, R_ss.va_l]
  have h := lastS hf 93 (by omega) (fun b => spec_Inner_A Dn (spec_Inner_0 b (few t)))
  rw [show ((93 : Nat) : Int) = 93 from rfl] at h
  refine h.trans ?_
  show spec_Inner_A Dn (spec_Inner_0 (ends (few t).a1 93) (few t)) = _
  rw [spec_Inner_0_eq]
  unfold inn
  cases he : ends (few t).a1 93 with
  | false => simp -implicitDefEqProofs only [branch_false, Bool.false_eq_true, if_false]; rfl
  | true =>
    have h := ends_pos he
    simp -implicitDefEqProofs only [branch_true, grd_hi h hf, cut_hi h hf, guarded_true, if_true]
    rfl
/-- Does a value fit a type that is built in? -/
def scalP (n : ByteArray) (x : R_isee) : Bool :=
  if (n.toList == (ByteArray.mk #[73, 110, 116]).toList) = true then x.a0 == 2 && fits32 x.a1
  else if (n.toList == (ByteArray.mk #[70, 108, 111, 97, 116]).toList) = true then x.a0 == 2 || x.a0 == 3
  else if (n.toList == (ByteArray.mk #[83, 116, 114, 105, 110, 103]).toList) = true then x.a0 == 4
  else if (n.toList == (ByteArray.mk #[66, 111, 111, 108, 101, 97, 110]).toList) = true then x.a0 == 5 && (x.a1.toList == (ByteArray.mk #[116, 114, 117, 101]).toList || x.a1.toList == (ByteArray.mk #[102, 97, 108, 115, 101]).toList)
  else x.a0 == 2 || x.a0 == 4
theorem d_spec_l19Scalar {n : ByteArray} {x : R_isee} (hs : x.a1.size ≤ maxLen) : Dn F.spec_l19Scalar [.leaf (.str n), .agg x.l] [] = some (vbool (scalP n x), []) := by
  refine den_of ?_
  rw [run_spec_l19Scalar, d_spec_Fits32 hs, rBool_eq]
  unfold scalP
  simp -implicitDefEqProofs only [branch_ite, bT, bF]
  generalize (n.toList == (ByteArray.mk #[73, 110, 116]).toList) = q1
  generalize (n.toList == (ByteArray.mk #[70, 108, 111, 97, 116]).toList) = q2
  generalize (n.toList == (ByteArray.mk #[83, 116, 114, 105, 110, 103]).toList) = q3
  generalize (n.toList == (ByteArray.mk #[66, 111, 111, 108, 101, 97, 110]).toList) = q4
  generalize (x.a1.toList == (ByteArray.mk #[116, 114, 117, 101]).toList) = q5
  generalize (x.a1.toList == (ByteArray.mk #[102, 97, 108, 115, 101]).toList) = q6
  generalize (x.a0 == 2) = r2
  generalize (x.a0 == 3) = r3
  generalize (x.a0 == 4) = r4
  generalize (x.a0 == 5) = r5
  cases q1 <;> cases q2 <;> cases q3 <;> cases q4 <;> cases q5 <;> cases r2 <;> cases r5 <;> rfl
theorem d_impl_fitsBuiltIn {n : ByteArray} {x : R_isee} (hs : x.a1.size ≤ 1048576) : Dn F.impl_fitsBuiltIn [.agg x.l, .leaf (.str n)] [] = some (vbool (scalP n x), []) := by
  refine den_of ?_
  rw [run_impl_fitsBuiltIn, d_impl_Fits32 hs, rBool_eq]
  unfold scalP
  simp -implicitDefEqProofs only [branch_ite, bT, bF]
  generalize (n.toList == (ByteArray.mk #[73, 110, 116]).toList) = q1
  generalize (n.toList == (ByteArray.mk #[70, 108, 111, 97, 116]).toList) = q2
  generalize (n.toList == (ByteArray.mk #[83, 116, 114, 105, 110, 103]).toList) = q3
  generalize (n.toList == (ByteArray.mk #[66, 111, 111, 108, 101, 97, 110]).toList) = q4
  generalize (x.a1.toList == (ByteArray.mk #[116, 114, 117, 101]).toList) = q5
  generalize (x.a1.toList == (ByteArray.mk #[102, 97, 108, 115, 101]).toList) = q6
  generalize (x.a0 == 2) = r2
  generalize (x.a0 == 3) = r3
  generalize (x.a0 == 4) = r4
  generalize (x.a0 == 5) = r5
  cases q1 <;> cases q2 <;> cases q3 <;> cases q4 <;> cases q5 <;> cases r2 <;> cases r5 <;> rfl
theorem d_impl_BuiltIn {n : ByteArray} : Dn F.impl_BuiltIn [.leaf (.str n)] [] = some (vbool (builtP n), []) := by
  refine den_of ?_
  rw [run_impl_BuiltIn]
  unfold builtP
  simp -implicitDefEqProofs only [impl_BuiltIn_0_eq]
  generalize (n.toList == (ByteArray.mk #[73, 110, 116]).toList) = q1
  generalize (n.toList == (ByteArray.mk #[70, 108, 111, 97, 116]).toList) = q2
  generalize (n.toList == (ByteArray.mk #[83, 116, 114, 105, 110, 103]).toList) = q3
  generalize (n.toList == (ByteArray.mk #[66, 111, 111, 108, 101, 97, 110]).toList) = q4
  generalize (n.toList == (ByteArray.mk #[73, 68]).toList) = q5
  cases q1 <;> cases q2 <;> cases q3 <;> cases q4 <;> cases q5 <;> rfl
end Go.Vs
end
section
open Go Go.Vs Go.Proofs
set_option linter.unusedVariables false
set_option linter.unusedSimpArgs false
namespace Go.Vs
/-! ### Does a value fit a type? -/
section
variable {s : R_eee}
open Classical in
/-- What the reference answers. -/
noncomputable def fitsE (s : R_eee) (e : El) (t : R_ss) : Bool := decide (Dn F.spec_Fits [.agg s.l, .agg e, .agg t.l] [] = some (vbool true, []))
/-- Both tell the same. -/
def FitsOk (s : R_eee) (e : El) (t : R_ss) : Prop := Dn F.spec_Fits [.agg s.l, .agg e, .agg t.l] [] = some (vbool (fitsE s e t), []) ∧ Dn F.impl_Fits [.agg s.l, .agg e, .agg t.l] [] = some (vbool (fitsE s e t), [])
theorem fits_of {e : El} {t : R_ss} {b : Bool} (h1 : Dn F.spec_Fits [.agg s.l, .agg e, .agg t.l] [] = some (vbool b, [])) (h2 : Dn F.impl_Fits [.agg s.l, .agg e, .agg t.l] [] = some (vbool b, [])) : FitsOk s e t := by
  have : fitsE s e t = b := by
    unfold fitsE
    rw [h1]
    cases b
    · simp
    · simp
  unfold FitsOk
  rw [this]
  exact ⟨h1, h2⟩
theorem d_fits_any {es : List El} {t : R_ss} (hl : es.length ≤ maxLen) (hq : ∀ e ∈ es, IsValue e) (ht : t.a1.size ≤ maxLen) (H : ∀ e ∈ es, FitsOk s e (inn t)) :
    Dn F.slices_ContainsFunc_S_impl_Value_impl_Value [vsl es, .fn F.impl_Fits_1 [.ptr 0 0, .ptr 1 0]] [[vsl s.a0, vsl s.a1, vsl s.a2], [.leaf (.str t.a0), .leaf (.str t.a1)]] =
      some (vbool (es.any fun e => !fitsE s e (inn t)), [[vsl s.a0, vsl s.a1, vsl s.a2], [.leaf (.str t.a0), .leaf (.str t.a1)]]) := by
  have key : Dn F.slices_IndexFunc_S_impl_Value_impl_Value [vsl es, .fn F.impl_Fits_1 [.ptr 0 0, .ptr 1 0]] [[vsl s.a0, vsl s.a1, vsl s.a2], [.leaf (.str t.a0), .leaf (.str t.a1)]] =
      some (vint (idxP (fun e => !fitsE s e (inn t)) 0 es), [[vsl s.a0, vsl s.a1, vsl s.a2], [.leaf (.str t.a0), .leaf (.str t.a1)]]) := by
    refine den_of ?_
    rw [run_slices_IndexFunc_S_impl_Value_impl_Value_c2p2]
    refine find_int (es := es) (A := fun i => slices_IndexFunc_S_impl_Value_impl_Value_c2p2_A Dn (slices_IndexFunc_S_impl_Value_impl_Value_c2p2_0 es F.impl_Fits_1 es.length i s t)) (by rw [slices_IndexFunc_S_impl_Value_impl_Value_c2p2_0_eq]; simp) fun i hi => ?_
    have hf := H _ (List.getElem_mem hi)
    obtain ⟨x, hx, _⟩ := (hq _ (List.getElem_mem hi)).st
    rw [hx] at hf
    have hc : Dn F.impl_Fits_1 [.agg x.l, .ptr 0 0, .ptr 1 0] [[vsl s.a0, vsl s.a1, vsl s.a2], [.leaf (.str t.a0), .leaf (.str t.a1)]] = some (vbool (!fitsE s x.l (inn t)), [[vsl s.a0, vsl s.a1, vsl s.a2], [.leaf (.str t.a0), .leaf (.str t.a1)]]) := by
      refine den_of ?_
      rw [run_impl_Fits_1]
      have h1 := d_impl_Inner ht
      have h2 := hf.2
      simp -implicitDefEqProofs only [h1, vBool_eq, vInt_eq, vStr_eq, vSl_eq, rBool_eq, rInt_eq, rStr_eq, rSl_eq, rOwn_eq, rBool0_eq, rInt0_eq, rBoolS_eq, rIntS_eq, rCol_eq, aBool_z, aInt_z, aStr_z, aSl_z, cmb_a, Option.bind_some, svTupK_tup, headK_cons, headB_cons, lastK_nil, lastB_nil, svAggK_agg, svOwnK_own, branch_true, branch_false, guarded_true, beq_self_eq_true, Bool.not_true, Bool.not_false, Bool.and_true, Bool.true_and, bT, bF, R_ss.va_l, h2]
    rw [slices_IndexFunc_S_impl_Value_impl_Value_c2p2_0_eq]
    simp -implicitDefEqProofs only [Int.ofNat_lt, decide_true, branch_true, Int.natCast_nonneg, Bool.and_true, Int.toNat_natCast, guarded_true, hi, wrap_upL (Nat.lt_of_lt_of_le hi hl), sized_all (fun e he => (hq e he).len), getD_lt hi, hx, R_isee.rd_l, hc, vBool_eq, vInt_eq, vStr_eq, vSl_eq, rBool_eq, rInt_eq, rStr_eq, rSl_eq, rOwn_eq, rBool0_eq, rInt0_eq, rBoolS_eq, rIntS_eq, rCol_eq, aBool_z, aInt_z, aStr_z, aSl_z, cmb_a, Option.bind_some, svTupK_tup, headK_cons, headB_cons, lastK_nil, lastB_nil, svAggK_agg, svOwnK_own, branch_true, branch_false, guarded_true, beq_self_eq_true, Bool.not_true, Bool.not_false, Bool.and_true, Bool.true_and, bT, bF]
  refine den_of ?_
  rw [run_slices_ContainsFunc_S_impl_Value_impl_Value_c2p2, key]
  simp -implicitDefEqProofs only [vBool_eq, vInt_eq, vStr_eq, vSl_eq, rBool_eq, rInt_eq, rStr_eq, rSl_eq, rOwn_eq, rBool0_eq, rInt0_eq, rBoolS_eq, rIntS_eq, rCol_eq, aBool_z, aInt_z, aStr_z, aSl_z, cmb_a, Option.bind_some, svTupK_tup, headK_cons, headB_cons, lastK_nil, lastB_nil, svAggK_agg, svOwnK_own, branch_true, branch_false, guarded_true, beq_self_eq_true, Bool.not_true, Bool.not_false, Bool.and_true, Bool.true_and, bT, bF, ← idxP_any _ es 0 (by omega)]
theorem d_enum_any {es : List El} {x : R_isee} (hl : es.length ≤ maxLen) (hq : ∀ e ∈ es, IsEnumDef e) :
    Dn F.slices_ContainsFunc_S_impl_EnumDef_impl_EnumDef [vsl es, .fn F.impl_fitsName_1 [.ptr 0 0]] [[vint x.a0, .leaf (.str x.a1), vsl x.a2, vsl x.a3]] = some (vbool (es.any (at0 x.a1)), [[vint x.a0, .leaf (.str x.a1), vsl x.a2, vsl x.a3]]) := by
  have key : Dn F.slices_IndexFunc_S_impl_EnumDef_impl_EnumDef [vsl es, .fn F.impl_fitsName_1 [.ptr 0 0]] [[vint x.a0, .leaf (.str x.a1), vsl x.a2, vsl x.a3]] = some (vint (idxP (at0 x.a1) 0 es), [[vint x.a0, .leaf (.str x.a1), vsl x.a2, vsl x.a3]]) := by
    refine den_of ?_
    rw [run_slices_IndexFunc_S_impl_EnumDef_impl_EnumDef_c1p1]
    refine find_int (es := es) (A := fun i => slices_IndexFunc_S_impl_EnumDef_impl_EnumDef_c1p1_A Dn (slices_IndexFunc_S_impl_EnumDef_impl_EnumDef_c1p1_0 es F.impl_fitsName_1 es.length i x)) (by rw [slices_IndexFunc_S_impl_EnumDef_impl_EnumDef_c1p1_0_eq]; simp) fun i hi => ?_
    obtain ⟨y, hy, _⟩ := (hq _ (List.getElem_mem hi)).st
    have hc : Dn F.impl_fitsName_1 [.agg y.l, .ptr 0 0] [[vint x.a0, .leaf (.str x.a1), vsl x.a2, vsl x.a3]] = some (vbool (y.a0.toList == x.a1.toList), [[vint x.a0, .leaf (.str x.a1), vsl x.a2, vsl x.a3]]) := den_of (run_impl_fitsName_1 ..)
    rw [slices_IndexFunc_S_impl_EnumDef_impl_EnumDef_c1p1_0_eq]
    simp -implicitDefEqProofs only [Int.ofNat_lt, decide_true, branch_true, Int.natCast_nonneg, Bool.and_true, Int.toNat_natCast, guarded_true, hi, wrap_upL (Nat.lt_of_lt_of_le hi hl), sized_all (fun e he => (hq e he).len), getD_lt hi, hy, R_sse.rd_l, hc, vBool_eq, vInt_eq, vStr_eq, vSl_eq, rBool_eq, rInt_eq, rStr_eq, rSl_eq, rOwn_eq, rBool0_eq, rInt0_eq, rBoolS_eq, rIntS_eq, rCol_eq, aBool_z, aInt_z, aStr_z, aSl_z, cmb_a, Option.bind_some, svTupK_tup, headK_cons, headB_cons, lastK_nil, lastB_nil, svAggK_agg, svOwnK_own, branch_true, branch_false, guarded_true, beq_self_eq_true, Bool.not_true, Bool.not_false, Bool.and_true, Bool.true_and, bT, bF]
    rfl
  refine den_of ?_
  rw [run_slices_ContainsFunc_S_impl_EnumDef_impl_EnumDef_c1p1, key]
  simp -implicitDefEqProofs only [vBool_eq, vInt_eq, vStr_eq, vSl_eq, rBool_eq, rInt_eq, rStr_eq, rSl_eq, rOwn_eq, rBool0_eq, rInt0_eq, rBoolS_eq, rIntS_eq, rCol_eq, aBool_z, aInt_z, aStr_z, aSl_z, cmb_a, Option.bind_some, svTupK_tup, headK_cons, headB_cons, lastK_nil, lastB_nil, svAggK_agg, svOwnK_own, branch_true, branch_false, guarded_true, beq_self_eq_true, Bool.not_true, Bool.not_false, Bool.and_true, Bool.true_and, bT, bF, ← idxP_any _ es 0 (by omega)]
theorem d_lack_any {es : List El} {x : R_isee} (hl : es.length ≤ maxLen) (hq : ∀ e ∈ es, IsStr e) (hx : IsValue x.l) :
    Dn F.slices_ContainsFunc_S_string_string [vsl es, .fn F.impl_fitsInput_1 [.ptr 0 0]] [[vint x.a0, .leaf (.str x.a1), vsl x.a2, vsl x.a3]] = some (vbool (es.any fun e => !x.a3.any (at0 (strAt e 0))), [[vint x.a0, .leaf (.str x.a1), vsl x.a2, vsl x.a3]]) := by
  have key : Dn F.slices_IndexFunc_S_string_string [vsl es, .fn F.impl_fitsInput_1 [.ptr 0 0]] [[vint x.a0, .leaf (.str x.a1), vsl x.a2, vsl x.a3]] = some (vint (idxP (fun e => !x.a3.any (at0 (strAt e 0))) 0 es), [[vint x.a0, .leaf (.str x.a1), vsl x.a2, vsl x.a3]]) := by
    refine den_of ?_
    rw [run_slices_IndexFunc_S_string_string_c1p1]
    refine find_int (es := es) (A := fun i => slices_IndexFunc_S_string_string_c1p1_A Dn (slices_IndexFunc_S_string_string_c1p1_0 es F.impl_fitsInput_1 es.length i x)) (by rw [slices_IndexFunc_S_string_string_c1p1_0_eq]; simp) fun i hi => ?_
    obtain ⟨u, hu, _⟩ := hq _ (List.getElem_mem hi)
    have hc : Dn F.impl_fitsInput_1 [.leaf (.str u), .ptr 0 0] [[vint x.a0, .leaf (.str x.a1), vsl x.a2, vsl x.a3]] = some (vbool (!x.a3.any (at0 u)), [[vint x.a0, .leaf (.str x.a1), vsl x.a2, vsl x.a3]]) := by
      refine den_of ?_
      rw [run_impl_fitsInput_1, d_slices_Contains (s := u) hx.p.2.2.2.1 hx.p.2.2.2.2, rBool_eq]
    rw [slices_IndexFunc_S_string_string_c1p1_0_eq]
    simp -implicitDefEqProofs only [Int.ofNat_lt, decide_true, branch_true, Int.natCast_nonneg, Bool.and_true, Int.toNat_natCast, guarded_true, hi, wrap_upL (Nat.lt_of_lt_of_le hi hl), sized_all (fun e he => (hq e he).len), getD_lt hi, hu, aStr_z, hc, vBool_eq, vInt_eq, vStr_eq, vSl_eq, rBool_eq, rInt_eq, rStr_eq, rSl_eq, rOwn_eq, rBool0_eq, rInt0_eq, rBoolS_eq, rIntS_eq, rCol_eq, aBool_z, aInt_z, aStr_z, aSl_z, cmb_a, Option.bind_some, svTupK_tup, headK_cons, headB_cons, lastK_nil, lastB_nil, svAggK_agg, svOwnK_own, branch_true, branch_false, guarded_true, beq_self_eq_true, Bool.not_true, Bool.not_false, Bool.and_true, Bool.true_and, bT, bF]
    rfl
  refine den_of ?_
  rw [run_slices_ContainsFunc_S_string_string_c1p1, key]
  simp -implicitDefEqProofs only [vBool_eq, vInt_eq, vStr_eq, vSl_eq, rBool_eq, rInt_eq, rStr_eq, rSl_eq, rOwn_eq, rBool0_eq, rInt0_eq, rBoolS_eq, rIntS_eq, rCol_eq, aBool_z, aInt_z, aStr_z, aSl_z, cmb_a, Option.bind_some, svTupK_tup, headK_cons, headB_cons, lastK_nil, lastB_nil, svAggK_agg, svOwnK_own, branch_true, branch_false, guarded_true, beq_self_eq_true, Bool.not_true, Bool.not_false, Bool.and_true, Bool.true_and, bT, bF, ← idxP_any _ es 0 (by omega)]
theorem bd_def {n : ByteArray} {B : Nat} (hs : IsSchema s.l) (bs : bdL B s.l) : (defOf s n).a6.length ≤ B ∧ bdE B (defOf s n).a6 := by
  by_cases h : typeP s n < 0
  · have : defOf s n = noDef := by unfold defOf; rw [if_pos h]
    rw [this]
    exact ⟨Nat.zero_le _, trivial⟩
  · obtain ⟨j, hj, y, hi, hy, iy⟩ := typeP_get hs h
    rw [defOf_at hi hy]
    have b0 : bdE B s.a0 := bs.1.2
    have b1 : bdL B y.l := hy ▸ bdE_mem b0 _ (List.getElem_mem hj)
    exact ⟨b1.2.2.2.2.2.2.1.1, b1.2.2.2.2.2.2.1.2⟩
/-- Of what is handed in by name. -/
theorem input_ex {d : R_ibsseeeeebe} {x : R_isee} (hs : IsSchema s.l) (hd : IsDef d.l) (bd : d.a6.length ≤ 1048576) (hx : IsValue x.l) (H : ∀ e ∈ x.a2, ∀ t : R_ss, t.a1.size ≤ maxLen → FitsOk s e t) :
    ∃ b, Dn F.spec_l19Input [.agg s.l, vsl d.a6, .agg x.l] [] = some (vbool b, []) ∧ Dn F.impl_fitsInput [.agg s.l, .agg x.l, .agg d.l] [] = some (vbool b, []) := by
  have hml : (1048576 : Nat) ≤ maxLen := by decide
  obtain ⟨_, l2, q2, l3, q3⟩ := hx.p
  have qd : ∀ e ∈ d.a6, IsInDef e := hd.p.2.2.2.2.2.2.2.1
  have ld : d.a6.length ≤ maxLen := Nat.le_trans bd hml
  have S := run_spec_l19Input Dn s d.a6 x
  have I := run_impl_fitsInput Dn s x d
  suffices h : x.a0 = 8 → x.a3.length = x.a2.length → x.a3.length ≤ 100 → ∃ b, spec_l19Input_A Dn (spec_l19Input_1 d.a6 0 s x) = some (vbool b, []) ∧ impl_fitsInput_A Dn (impl_fitsInput_1 x.a3 x.a3.length 0 s x d) = some (vbool b, []) by
    simp -implicitDefEqProofs only [bF, branch_not] at S I
    by_cases h8 : x.a0 = 8
    · have e8 : (x.a0 != 8) = false := by simp [h8]
      simp -implicitDefEqProofs only [e8, branch_false] at S I
      by_cases hl : x.a3.length = x.a2.length
      · have el : (((x.a3.length : Nat) : Int) != ((x.a2.length : Nat) : Int)) = false := by simp [hl]
        simp -implicitDefEqProofs only [el, branch_false, spec_l19Input_0_eq, impl_fitsInput_0_eq] at S I
        by_cases h100 : x.a3.length ≤ 100
        · have g1 : ¬ ((x.a3.length : Nat) : Int) > 100 := by omega
          have g2 : ¬ ((x.a2.length : Nat) : Int) > 100 := by omega
          simp -implicitDefEqProofs only [g1, g2, decide_false, branch_false] at S I
          obtain ⟨b, k1, k2⟩ := h h8 hl h100
          exact ⟨b, den_of (S.trans k1), den_of (I.trans k2)⟩
        · have g1 : ((x.a3.length : Nat) : Int) > 100 := by omega
          have g2 : ((x.a2.length : Nat) : Int) > 100 := by omega
          simp -implicitDefEqProofs only [g1, g2, decide_true, branch_true] at S I
          exact ⟨false, den_of S, den_of I⟩
      · have el : (((x.a3.length : Nat) : Int) != ((x.a2.length : Nat) : Int)) = true := by simp; omega
        simp -implicitDefEqProofs only [el, branch_true, spec_l19Input_0_eq, impl_fitsInput_0_eq] at S I
        exact ⟨false, den_of S, den_of I⟩
    · have e8 : (x.a0 != 8) = true := by simp [h8]
      simp -implicitDefEqProofs only [e8, branch_true, spec_l19Input_0_eq, impl_fitsInput_0_eq] at S I
      exact ⟨false, den_of S, den_of I⟩
  intro _ hlen _
  clear S I
  have key : ∀ i : Nat, i ≤ x.a3.length → ∃ b, spec_l19Input_A Dn (spec_l19Input_1 d.a6 i s x) = some (vbool b, []) ∧ impl_fitsInput_A Dn (impl_fitsInput_1 x.a3 x.a3.length i s x d) = some (vbool b, []) := by
    refine upto_ind ?_ ?_
    · refine ⟨!(reqIn d.a6).any fun e => !x.a3.any (at0 (strAt e 0)), ?_, ?_⟩
      · rw [spec_l19Input_1_eq]
        simp -implicitDefEqProofs only [Int.lt_irrefl, decide_false, branch_false, d_spec_RequiredIn bd qd, rOwn_eq]
        have := any_loop (es := reqIn d.a6) (p := fun e => !x.a3.any (at0 (strAt e 0))) (A := fun i => spec_l19Input_A Dn (spec_l19Input_3 (reqIn d.a6) i x)) (yes := some (vbool false, [])) (no := some (vbool true, [])) (by rw [spec_l19Input_3_eq]; simp) fun i hi => by
          obtain ⟨u, hu, _⟩ := reqIn_all qd _ (List.getElem_mem hi)
          rw [spec_l19Input_3_eq]
          simp -implicitDefEqProofs only [Int.ofNat_lt, decide_true, branch_true, Int.natCast_nonneg, Bool.and_true, Int.toNat_natCast, guarded_true, hi, wrap_upL (Nat.lt_of_lt_of_le hi (Nat.le_trans (reqIn_len d.a6) ld)), sized_all (fun e he => (reqIn_all qd e he).len), getD_lt hi, hu, aStr_z, d_spec_l18Has (s := u) l3 q3, rBool_eq]
          rfl
        rw [this]
        cases (reqIn d.a6).any fun e => !x.a3.any (at0 (strAt e 0)) <;> rfl
      · rw [impl_fitsInput_1_eq]
        have h1 := d_lack_any (x := x) (Nat.le_trans (reqIn_len d.a6) ld) (reqIn_all qd) hx
        simp -implicitDefEqProofs only [Int.lt_irrefl, decide_false, branch_false, d_impl_RequiredIn bd qd, rOwn_eq, h1, vBool_eq, vInt_eq, vStr_eq, vSl_eq, rBool_eq, rInt_eq, rStr_eq, rSl_eq, rOwn_eq, rBool0_eq, rInt0_eq, rBoolS_eq, rIntS_eq, rCol_eq, aBool_z, aInt_z, aStr_z, aSl_z, cmb_a, Option.bind_some, svTupK_tup, headK_cons, headB_cons, lastK_nil, lastB_nil, svAggK_agg, svOwnK_own, branch_true, branch_false, guarded_true, beq_self_eq_true, Bool.not_true, Bool.not_false, Bool.and_true, Bool.true_and, bT, bF]
    · intro i hi ⟨b, k1, k2⟩
      obtain ⟨u, hu, _⟩ := q3 _ (List.getElem_mem hi)
      have hw := wrap_upL (Nat.lt_of_lt_of_le hi l3)
      have hle : i ≤ x.a3.length := by omega
      have hi2 : i < x.a2.length := by omega
      have S : spec_l19Input_A Dn (spec_l19Input_1 d.a6 i s x) = _ := spec_l19Input_1_eq ..
      have I : impl_fitsInput_A Dn (impl_fitsInput_1 x.a3 x.a3.length i s x d) = _ := impl_fitsInput_1_eq ..
      have z3 : sized 1 x.a3 = true := sized_all (fun e he => (q3 e he).len)
      have z2 : sized 4 x.a2 = true := sized_all (fun e he => (q2 e he).len)
      have zd : sized 10 d.a6 = true := sized_all (fun e he => (qd e he).len)
      have sS : ∀ b', spec_l19Input_A Dn (spec_l19Input_2 d.a6 i b' s x) = some (vbool (if b' = true then false else b), []) := fun b' => by
        rw [spec_l19Input_2_eq]
        cases b' <;> simp -implicitDefEqProofs only [branch_true, branch_false, hw, k1, if_true, Bool.false_eq_true, if_false]
      have sI : ∀ b', impl_fitsInput_A Dn (impl_fitsInput_2 x.a3 x.a3.length i b' s x d) = some (vbool (if b' = true then false else b), []) := fun b' => by
        rw [impl_fitsInput_2_eq]
        cases b' <;> simp -implicitDefEqProofs only [branch_true, branch_false, hw, k2, if_true, Bool.false_eq_true, if_false]
      have qt : ∀ e ∈ x.a3.take i, IsStr e := fun e he => q3 e (List.mem_of_mem_take he)
      have lt : (x.a3.take i).length ≤ maxLen := by rw [List.length_take]; omega
      simp -implicitDefEqProofs only [Int.ofNat_lt, decide_true, branch_true, Int.natCast_nonneg, Bool.and_true, Int.toNat_natCast, guarded_true, hi, z3, getD_lt hi, hu, aStr_z, d_spec_InAt (s := u) ld qd, d_impl_InAt (s := u) ld qd, rInt_eq, bF, hle, List.drop_zero, d_spec_l18Has (s := u) lt qt, d_slices_Contains (s := u) lt qt, rBool_eq, sS, sI] at S I
      rw [S, I]
      by_cases hn : idxP (at0 u) 0 d.a6 < 0
      · simp -implicitDefEqProofs only [hn, decide_true, Bool.not_true, branch_false]
        exact ⟨_, rfl, rfl⟩
      · obtain ⟨j, hj, hij, _⟩ := idxP_get hn
        obtain ⟨y, hy, iy⟩ := (qd _ (List.getElem_mem hj)).st
        have nj : ¬ ((j : Nat) : Int) < 0 := by omega
        simp -implicitDefEqProofs only [hij, nj, decide_false, Bool.not_false, branch_true]
        cases (x.a3.take i).any (at0 u) with
        | true => simp -implicitDefEqProofs only [Bool.not_true, branch_false]; exact ⟨_, rfl, rfl⟩
        | false =>
          obtain ⟨v, hv, iv⟩ := (q2 _ (List.getElem_mem hi2)).st
          have hf := H _ (List.getElem_mem hi2) ⟨y.a2, y.a3⟩ iy.p.2.2.2.1
          rw [hv] at hf
          have h1 := hf.1
          have h2 := hf.2
          simp -implicitDefEqProofs only [Bool.not_false, branch_true, Int.ofNat_lt, decide_true, branch_true, Int.natCast_nonneg, Bool.and_true, Int.toNat_natCast, guarded_true, hi2, z2, getD_lt hi2, hv, R_isee.rd_l, hj, zd, getD_lt hj, hy, bindE_eq, R_ss.at_l, R_isee.at_l, R_sisee.at_l, R_se.at_l, R_ssssbiseee.at_l, R_ssesse.at_l, R_sse.at_l, R_is.at_l, R_ibsseeeeebe.at_l, R_eee.at_l, R_iss.at_l, R_issseee.at_l, R_sssbiseee.at_l, R_iseee.at_l, R_ssee.at_l, R_isi.at_l, h1, h2, rBool_eq, sS, sI]
          exact ⟨_, rfl, rfl⟩
  exact key 0 (Nat.zero_le _)

end
end Go.Vs
end
section
open Go Go.Vs Go.Proofs
set_option linter.unusedVariables false
set_option linter.unusedSimpArgs false
namespace Go.Vs
/-! ### Fits: the reference and the program tell the same -/
section
variable {s : R_eee}
theorem d_isNull {x : R_isee} : Dn F.impl_isNull [.agg x.l] [] = some (vbool (x.a0 == 5 && (x.a1.toList == (ByteArray.mk #[110, 117, 108, 108]).toList)), []) := by
  refine den_of ?_
  rw [run_impl_isNull]
  cases (x.a0 == 5) <;> simp -implicitDefEqProofs only [bT, branch_true, branch_false, Bool.true_and, Bool.false_and]
/-- Of a type that is a name. -/
theorem name_ex {x : R_isee} {n : ByteArray} (hs : IsSchema s.l) (bs : bdL 1048576 s.l) (hx : IsValue x.l) (bx : x.a1.size ≤ 1048576) (H : ∀ e ∈ x.a2, ∀ t : R_ss, t.a1.size ≤ maxLen → FitsOk s e t) (w : ByteArray) (hw : w.size = 0) :
    ∃ b, spec_Fits_A Dn (spec_Fits_1 false s x ⟨n, w⟩) = some (vbool b, []) ∧ Dn F.impl_fitsName [.agg s.l, .agg x.l, .leaf (.str n)] [] = some (vbool b, []) := by
  have hml : (1048576 : Nat) ≤ maxLen := by decide
  have S := spec_Fits_1_eq Dn false s x ⟨n, w⟩
  have I := run_impl_fitsName Dn s x n
  have w0 : ¬ ((w.size : Nat) : Int) > 0 := by omega
  have id := (isDefOf (n := n) hs)
  have ce := d_enum_any (x := x) id.p.2.2.2.2.2.2.2.2.1 id.p.2.2.2.2.2.2.2.2.2.1
  simp -implicitDefEqProofs only [branch_false, w0, decide_false, d_spec_TypeAt hs, rInt_eq, d_spec_BuiltIn, rBool_eq, d_spec_l19Scalar (n := n) hx.p.1] at S
  simp -implicitDefEqProofs only [d_impl_typeDef hs, vBool_eq, vInt_eq, vStr_eq, vSl_eq, rBool_eq, rInt_eq, rStr_eq, rSl_eq, rOwn_eq, rBool0_eq, rInt0_eq, rBoolS_eq, rIntS_eq, rCol_eq, aBool_z, aInt_z, aStr_z, aSl_z, cmb_a, Option.bind_some, svTupK_tup, headK_cons, headB_cons, lastK_nil, lastB_nil, svAggK_agg, svOwnK_own, branch_true, branch_false, guarded_true, beq_self_eq_true, Bool.not_true, Bool.not_false, Bool.and_true, Bool.true_and, bT, bF, R_ibsseeeeebe.va_l, d_impl_BuiltIn, d_impl_fitsBuiltIn (n := n) bx, ce] at I
  rw [S]
  by_cases h : typeP s n < 0
  · simp -implicitDefEqProofs only [h, decide_true, branch_true, Bool.not_true, branch_false, Bool.not_false] at I ⊢
    cases hb : builtP n with
    | false => simp -implicitDefEqProofs only [hb, bT, branch_false] at I ⊢; exact ⟨_, rfl, den_of I⟩
    | true => simp -implicitDefEqProofs only [hb, bT, branch_true] at I ⊢; exact ⟨_, rfl, den_of I⟩
  · obtain ⟨j, hj, y, hi, hy, iy⟩ := typeP_get hs h
    have hd := defOf_at hi hy
    rw [hd] at I id
    have nj : ¬ ((j : Nat) : Int) < 0 := by omega
    have hbd := bd_def (n := n) hs bs
    rw [hd] at hbd
    obtain ⟨bi, k1, k2⟩ := input_ex hs iy hbd.1 hx H
    simp -implicitDefEqProofs only [h, hi, nj, decide_false, branch_false, Bool.not_false, branch_true, Bool.not_true, Int.ofNat_lt, decide_true, branch_true, Int.natCast_nonneg, Bool.and_true, Int.toNat_natCast, guarded_true, hj, sized_all (fun e he => (hs.p.2.1 e he).len), getD_lt hj, hy, R_ibsseeeeebe.rd_l, k1, k2, rBool_eq] at I ⊢
    cases h1 : (y.a0 == 1) with
    | true => simp -implicitDefEqProofs only [h1, branch_true] at I ⊢; exact ⟨_, rfl, den_of I⟩
    | false =>
      simp -implicitDefEqProofs only [h1, branch_false] at I ⊢
      cases h5 : (y.a0 == 5) with
      | true =>
        simp -implicitDefEqProofs only [h5, branch_true] at I ⊢
        obtain ⟨_, _, _, _, _, _, _, _, l7, q7, _⟩ := iy.p
        have := any_loop (es := y.a7) (p := fun e => x.a0 == 6 && at0 x.a1 e) (A := fun i => spec_Fits_A Dn (spec_Fits_3 i x y)) (yes := some (vbool true, [])) (no := some (vbool false, [])) (by rw [spec_Fits_3_eq]; simp [spec_Fits_4_eq]) fun i hi => by
          obtain ⟨z, hz, _⟩ := (q7 _ (List.getElem_mem hi)).st
          rw [spec_Fits_3_eq]
          simp -implicitDefEqProofs only [Int.ofNat_lt, decide_true, branch_true, Int.natCast_nonneg, Bool.and_true, Int.toNat_natCast, guarded_true, hi, bT, wrap_upL (Nat.lt_of_lt_of_le hi l7), sized_all (fun e he => (q7 e he).len), getD_lt hi, hz, R_ss.at_l, R_isee.at_l, R_sisee.at_l, R_se.at_l, R_ssssbiseee.at_l, R_ssesse.at_l, R_sse.at_l, R_is.at_l, R_ibsseeeeebe.at_l, R_eee.at_l, R_iss.at_l, R_issseee.at_l, R_sssbiseee.at_l, R_iseee.at_l, R_ssee.at_l, R_isi.at_l, spec_Fits_5_eq]
          cases (x.a0 == 6) <;> simp -implicitDefEqProofs only [branch_true, branch_false, Bool.true_and, Bool.false_and] <;> rfl
        rw [this]
        cases h6 : (x.a0 == 6) with
        | true =>
          simp -implicitDefEqProofs only [h6, bT, branch_true] at I
          simp -implicitDefEqProofs only [Bool.true_and]
          refine ⟨y.a7.any (at0 x.a1), ?_, den_of I⟩
          cases y.a7.any (at0 x.a1) <;> rfl
        | false =>
          simp -implicitDefEqProofs only [h6, bT, branch_false] at I
          refine ⟨false, ?_, den_of I⟩
          simp
      | false =>
        simp -implicitDefEqProofs only [h5, branch_false] at I ⊢
        cases h6 : (y.a0 == 6) with
        | true => simp -implicitDefEqProofs only [h6, branch_true] at I ⊢; exact ⟨_, rfl, den_of I⟩
        | false => simp -implicitDefEqProofs only [h6, branch_false, spec_Fits_4_eq] at I ⊢; exact ⟨_, rfl, den_of I⟩
theorem fits_ok (hs : IsSchema s.l) (bs : bdL 1048576 s.l) : ∀ e, IsValue e → bdL 1048576 e → ∀ t : R_ss, t.a1.size ≤ maxLen → FitsOk s e t := by
  intro e he
  induction he with
  | mk i0 s1 e2 e3 h1 h2 q2 h3 q3 ih =>
    intro be
    have hx : IsValue (R_isee.l ⟨i0, s1, e2, e3⟩) := .mk i0 s1 e2 e3 h1 h2 q2 h3 q3
    obtain ⟨_, b1, b2, _⟩ := be
    have H : ∀ e ∈ e2, ∀ t : R_ss, t.a1.size ≤ maxLen → FitsOk s e t := fun e he => ih e he (bdE_mem b2.2 e he)
    generalize hxx : (⟨i0, s1, e2, e3⟩ : R_isee) = x at hx
    have ex : [.int .i64 i0, .str s1, .sl fP e2, .sl fP e3] = x.l := by rw [← hxx]; rfl
    have b1 : x.a1.size ≤ 1048576 := by rw [← hxx]; exact b1
    have H : ∀ e ∈ x.a2, ∀ t : R_ss, t.a1.size ≤ maxLen → FitsOk s e t := by rw [← hxx]; exact H
    rw [ex]
    clear ex hxx b2 ih q2 q3 h1 h2 h3
    intro t
    induction hk : t.a1.size using Nat.strongRecOn generalizing t with
    | ind k ih =>
      intro ht
      subst hk
      have S := run_spec_Fits Dn s x t
      have I := run_impl_Fits Dn s x t
      have hf := Nat.le_trans (few_size t) ht
      have hn1 := d_spec_Needed ht
      have hn2 := d_impl_Needed ht
      have hf1 := d_spec_Fewer ht
      have hf2 := d_impl_Fewer ht
      simp -implicitDefEqProofs only [d_isNull, hn2, hf2, vBool_eq, vInt_eq, vStr_eq, vSl_eq, rBool_eq, rInt_eq, rStr_eq, rSl_eq, rOwn_eq, rBool0_eq, rInt0_eq, rBoolS_eq, rIntS_eq, rCol_eq, aBool_z, aInt_z, aStr_z, aSl_z, cmb_a, Option.bind_some, svTupK_tup, headK_cons, headB_cons, lastK_nil, lastB_nil, svAggK_agg, svOwnK_own, branch_true, branch_false, guarded_true, beq_self_eq_true, Bool.not_true, Bool.not_false, Bool.and_true, Bool.true_and, bT, bF, R_ss.va_l, d_strings_HasSuffix (c := 93) hf, emp_is] at I
      simp -implicitDefEqProofs only [spec_Fits_0_eq, hn1, hf1, vBool_eq, vInt_eq, vStr_eq, vSl_eq, rBool_eq, rInt_eq, rStr_eq, rSl_eq, rOwn_eq, rBool0_eq, rInt0_eq, rBoolS_eq, rIntS_eq, rCol_eq, aBool_z, aInt_z, aStr_z, aSl_z, cmb_a, Option.bind_some, svTupK_tup, headK_cons, headB_cons, lastK_nil, lastB_nil, svAggK_agg, svOwnK_own, branch_true, branch_false, guarded_true, beq_self_eq_true, Bool.not_true, Bool.not_false, Bool.and_true, Bool.true_and, bT, bF, R_ss.va_l] at S
      cases a1 : (x.a0 == 1) with
      | true => simp -implicitDefEqProofs only [a1, branch_true] at S I; exact fits_of (den_of S) (den_of I)
      | false =>
        simp -implicitDefEqProofs only [a1, branch_false] at S I
        have hN : ∀ q : Bool, q = (x.a0 == 5 && (x.a1.toList == (ByteArray.mk #[110, 117, 108, 108]).toList)) → q = true → FitsOk s x.l t := fun q hq hq' => by
          rw [hq'] at hq
          have h2 : (x.a0 == 5) = true ∧ (x.a1.toList == (ByteArray.mk #[110, 117, 108, 108]).toList) = true := by
            rw [← Bool.and_eq_true]; exact hq.symm
          simp -implicitDefEqProofs only [h2.1, h2.2, branch_true, Bool.and_self] at S I
          exact fits_of (den_of S) (den_of I)
        cases hnul : (x.a0 == 5 && (x.a1.toList == (ByteArray.mk #[110, 117, 108, 108]).toList)) with
        | true => exact hN _ hnul.symm rfl
        | false =>
          have S1 : run2V Tryz.prog Dn Hs limR F.spec_Fits [.agg s.l, .agg x.l, .agg t.l] [] = spec_Fits_A Dn (spec_Fits_1 (ends (few t).a1 93) s x (few t)) := by
            have l := lastS hf 93 (by omega) (fun b => spec_Fits_A Dn (spec_Fits_1 b s x (few t)))
            rw [show ((93 : Nat) : Int) = 93 from rfl] at l
            rw [S]
            cases h5 : (x.a0 == 5) with
            | false => simp -implicitDefEqProofs only [branch_false]; exact l
            | true =>
              rw [h5, Bool.true_and] at hnul
              simp -implicitDefEqProofs only [branch_true, hnul, branch_false]; exact l
          simp -implicitDefEqProofs only [hnul, branch_false] at I
          cases he : ends (few t).a1 93 with
          | true =>
            have hlt := inn_few he
            have hin := Nat.le_trans (Nat.le_of_lt hlt) ht
            rw [he, spec_Fits_1_eq] at S1
            simp -implicitDefEqProofs only [branch_true, d_spec_Inner hf, vBool_eq, vInt_eq, vStr_eq, vSl_eq, rBool_eq, rInt_eq, rStr_eq, rSl_eq, rOwn_eq, rBool0_eq, rInt0_eq, rBoolS_eq, rIntS_eq, rCol_eq, aBool_z, aInt_z, aStr_z, aSl_z, cmb_a, Option.bind_some, svTupK_tup, headK_cons, headB_cons, lastK_nil, lastB_nil, svAggK_agg, svOwnK_own, branch_true, branch_false, guarded_true, beq_self_eq_true, Bool.not_true, Bool.not_false, Bool.and_true, Bool.true_and, bT, bF, R_ss.va_l] at S1
            simp -implicitDefEqProofs only [he, branch_true, d_impl_Inner hf, vBool_eq, vInt_eq, vStr_eq, vSl_eq, rBool_eq, rInt_eq, rStr_eq, rSl_eq, rOwn_eq, rBool0_eq, rInt0_eq, rBoolS_eq, rIntS_eq, rCol_eq, aBool_z, aInt_z, aStr_z, aSl_z, cmb_a, Option.bind_some, svTupK_tup, headK_cons, headB_cons, lastK_nil, lastB_nil, svAggK_agg, svOwnK_own, branch_true, branch_false, guarded_true, beq_self_eq_true, Bool.not_true, Bool.not_false, Bool.and_true, Bool.true_and, bT, bF, R_ss.va_l] at I
            cases h7 : (x.a0 != 7) with
            | true =>
              have hr := ih _ hlt (inn (few t)) rfl hin
              have r1 := hr.1
              have r2 := hr.2
              simp -implicitDefEqProofs only [h7, branch_true, r1, rBool_eq] at S1
              simp -implicitDefEqProofs only [h7, branch_true, r2, rBool_eq] at I
              exact fits_of (den_of S1) (den_of I)
            | false =>
              obtain ⟨_, l2, q2, _⟩ := hx.p
              have hl := d_fits_any (s := s) (t := few t) l2 q2 hf fun e he => H e he _ hin
              simp -implicitDefEqProofs only [h7, branch_false] at S1
              simp -implicitDefEqProofs only [h7, branch_false, hl, vBool_eq, vInt_eq, vStr_eq, vSl_eq, rBool_eq, rInt_eq, rStr_eq, rSl_eq, rOwn_eq, rBool0_eq, rInt0_eq, rBoolS_eq, rIntS_eq, rCol_eq, aBool_z, aInt_z, aStr_z, aSl_z, cmb_a, Option.bind_some, svTupK_tup, headK_cons, headB_cons, lastK_nil, lastB_nil, svAggK_agg, svOwnK_own, branch_true, branch_false, guarded_true, beq_self_eq_true, Bool.not_true, Bool.not_false, Bool.and_true, Bool.true_and, bT, bF] at I
              have := any_loop (es := x.a2) (p := fun e => !fitsE s e (inn (few t))) (A := fun i => spec_Fits_A Dn (spec_Fits_2 i s x (inn (few t)))) (yes := some (vbool false, [])) (no := some (vbool true, [])) (by rw [spec_Fits_2_eq]; simp) fun i hi => by
                have hf := H _ (List.getElem_mem hi) (inn (few t)) hin
                obtain ⟨y, hy, _⟩ := (q2 _ (List.getElem_mem hi)).st
                rw [hy] at hf
                have r1 := hf.1
                rw [spec_Fits_2_eq]
                simp -implicitDefEqProofs only [Int.ofNat_lt, decide_true, branch_true, Int.natCast_nonneg, Bool.and_true, Int.toNat_natCast, guarded_true, hi, wrap_upL (Nat.lt_of_lt_of_le hi l2), sized_all (fun e he => (q2 e he).len), getD_lt hi, hy, R_isee.rd_l, r1, rBool_eq]
              rw [this] at S1
              refine fits_of (den_of (S1.trans ?_)) (den_of I)
              cases x.a2.any fun e => !fitsE s e (inn (few t)) <;> rfl
          | false =>
            rw [he] at S1
            simp -implicitDefEqProofs only [he, branch_false] at I
            by_cases h0 : (few t).a1.size = 0
            · obtain ⟨b, k1, k2⟩ := name_ex (n := (few t).a0) hs bs hx b1 H (few t).a1 h0
              have e0 : ((((few t).a1.size : Nat) : Int) == 0) = true := by rw [beq_iff_eq]; omega
              simp -implicitDefEqProofs only [e0, Bool.not_true, branch_false, k2, rBool_eq] at I
              exact fits_of (den_of (S1.trans k1)) (den_of I)
            · have e0 : ((((few t).a1.size : Nat) : Int) == 0) = false := by rw [beq_eq_false_iff_ne]; omega
              have g0 : (((few t).a1.size : Nat) : Int) > 0 := by omega
              rw [spec_Fits_1_eq] at S1
              simp -implicitDefEqProofs only [e0, Bool.not_false, branch_true] at I
              simp -implicitDefEqProofs only [g0, decide_true, branch_false, branch_true] at S1
              exact fits_of (den_of S1) (den_of I)
theorem d_spec_Fits {x : R_isee} {t : R_ss} (hs : IsSchema s.l) (bs : bdL 1048576 s.l) (hx : IsValue x.l) (bx : bdL 1048576 x.l) (ht : t.a1.size ≤ maxLen) : Dn F.spec_Fits [.agg s.l, .agg x.l, .agg t.l] [] = some (vbool (fitsE s x.l t), []) := (fits_ok hs bs _ hx bx t ht).1
theorem d_impl_Fits {x : R_isee} {t : R_ss} (hs : IsSchema s.l) (bs : bdL 1048576 s.l) (hx : IsValue x.l) (bx : bdL 1048576 x.l) (ht : t.a1.size ≤ maxLen) : Dn F.impl_Fits [.agg s.l, .agg x.l, .agg t.l] [] = some (vbool (fitsE s x.l t), []) := (fits_ok hs bs _ hx bx t ht).2
end
end Go.Vs
end
section
open Go Go.Vs Go.Proofs
set_option linter.unusedVariables false
set_option linter.unusedSimpArgs false
namespace Go.Vs
/-! ### What is wrong with things handed in -/
end Go.Vs
end
section
open Go Go.Vs Go.Proofs
set_option linter.unusedVariables false
set_option linter.unusedSimpArgs false
namespace Go.Vs
/-! ### What is handed in -/
theorem d_impl_hasArg {es : List El} {s : ByteArray} (hl : es.length ≤ maxLen) (hq : ∀ e ∈ es, IsArg e) : Dn F.impl_hasArg [vsl es, .leaf (.str s)] [] = some (vbool (es.any (at0 s)), []) := by
  have key : Dn F.slices_IndexFunc_S_impl_Arg_impl_Arg [vsl es, .fn F.impl_hasArg_1 [.ptr 0 0]] [[.leaf (.str s)]] = some (vint (idxP (at0 s) 0 es), [[.leaf (.str s)]]) := by
    refine den_of ?_
    rw [run_slices_IndexFunc_S_impl_Arg_impl_Arg_c1p1]
    refine find_int (es := es) (A := fun i => slices_IndexFunc_S_impl_Arg_impl_Arg_c1p1_A Dn (slices_IndexFunc_S_impl_Arg_impl_Arg_c1p1_0 es F.impl_hasArg_1 es.length i s)) (by rw [slices_IndexFunc_S_impl_Arg_impl_Arg_c1p1_0_eq]; simp) fun i hi => ?_
    obtain ⟨x, hx, _⟩ := (hq _ (List.getElem_mem hi)).st
    have hc : Dn F.impl_hasArg_1 [.agg x.l, .ptr 0 0] [[.leaf (.str s)]] = some (vbool (x.a0.toList == s.toList), [[.leaf (.str s)]]) := den_of (run_impl_hasArg_1 ..)
    rw [slices_IndexFunc_S_impl_Arg_impl_Arg_c1p1_0_eq]
    simp -implicitDefEqProofs only [Int.ofNat_lt, decide_true, branch_true, Int.natCast_nonneg, Bool.and_true, Int.toNat_natCast, guarded_true, hi, wrap_upL (Nat.lt_of_lt_of_le hi hl), sized_all (fun e he => (hq e he).len), getD_lt hi, hx, R_sisee.rd_l, hc, rBoolS_eq]
    rfl
  have k2 : Dn F.slices_ContainsFunc_S_impl_Arg_impl_Arg [vsl es, .fn F.impl_hasArg_1 [.ptr 0 0]] [[.leaf (.str s)]] = some (vbool (es.any (at0 s)), [[.leaf (.str s)]]) := by
    refine den_of ?_
    rw [run_slices_ContainsFunc_S_impl_Arg_impl_Arg_c1p1, key, rIntS_eq, idxP_any _ _ _ (by omega)]
  refine den_of ?_
  rw [run_impl_hasArg, k2, rBoolS_eq]
def nms (es : List El) : List El := es.map fun e => [.str (strAt e 0)]
theorem nms_any {es : List El} {s : ByteArray} : (nms es).any (at0 s) = es.any (at0 s) := by unfold nms; rw [List.any_map]; rfl
theorem nms_len {es : List El} : (nms es).length = es.length := List.length_map ..
theorem nms_all {es : List El} (hq : ∀ e ∈ es, IsArg e) : ∀ e ∈ nms es, IsStr e := by
  intro e he
  obtain ⟨x, hx, rfl⟩ := List.mem_map.1 he
  obtain ⟨y, rfl, iy⟩ := (hq x hx).st
  exact ⟨y.a0, rfl, iy.p.1⟩
theorem nms_take {es : List El} {i : Nat} (hi : i < es.length) : nms (es.take i) ++ [[.str (strAt es[i] 0)]] = nms (es.take (i + 1)) := by
  unfold nms; rw [List.take_succ_eq_append_getElem hi, List.map_append]; rfl
section
variable {s : R_eee} {o : ByteArray} {list args : List El}
/-- Is it known, and does it not fit? -/
noncomputable def argUn (s : R_eee) (list : List El) (x : R_sisee) : Bool :=
  if idxP (at0 x.a0) 0 list < 0 then false else !fitsE s (R_isee.l ⟨x.a1, x.a2, x.a3, x.a4⟩) ⟨strAt (list.getD (idxP (at0 x.a0) 0 list).toNat []) 2, strAt (list.getD (idxP (at0 x.a0) 0 list).toNat []) 3⟩
noncomputable def argOne (s : R_eee) (o : ByteArray) (list args : List El) (i : Nat) (e : El) : List El :=
  ifP ((args.take i).any (at0 (strAt e 0))) (pb 27 o (strAt e 0)) ++ (ifP (decide (idxP (at0 (strAt e 0)) 0 list < 0)) (pb 26 o (strAt e 0)) ++ ifP (argUn s list (.of e)) (pb 28 o (strAt e 0)))
def argNeed (o : ByteArray) (args : List El) (e : El) : List El := ifP (!args.any (at0 (strAt e 0))) (pb 29 o (strAt e 0))
noncomputable def argsP (s : R_eee) (o : ByteArray) (list args : List El) : List El :=
  if (decide ((args.length : Int) > 100) || decide ((list.length : Int) > 100)) = true then [pb 5 o nul] else flatI (argOne s o list args) 0 args ++ flatI (fun _ => argNeed o args) 0 (reqIn list)
theorem argOne_len {i : Nat} {e : El} : (argOne s o list args i e).length ≤ 3 := by
  unfold argOne
  have h1 := ifP_len ((args.take i).any (at0 (strAt e 0))) (pb 27 o (strAt e 0))
  have h2 := ifP_len (decide (idxP (at0 (strAt e 0)) 0 list < 0)) (pb 26 o (strAt e 0))
  have h3 := ifP_len (argUn s list (.of e)) (pb 28 o (strAt e 0))
  rw [List.length_append, List.length_append]; omega
theorem argsP_len : (argsP s o list args).length ≤ 400 := by
  unfold argsP
  split
  · simp
  · rename_i h
    simp -implicitDefEqProofs only [Bool.or_eq_true, decide_eq_true_eq] at h
    have h1 := flatI_len (g := argOne s o list args) (c := 3) args 0 fun j hj => argOne_len
    have h2 := flatI_len (g := fun _ => argNeed o args) (c := 1) (reqIn list) 0 fun j hj => ifP_len _ _
    have h3 := reqIn_len list
    rw [List.length_append]; omega
theorem argsP_all : ∀ e ∈ argsP s o list args, IsProblem e := by
  unfold argsP
  split
  · intro e he; rw [List.mem_singleton.1 he]; exact isPb
  · exact app_all (flat_all fun j x => app_all ifPb (app_all ifPb ifPb)) (flat_all fun j x => ifPb)
theorem bd_arg {x : R_sisee} {B : Nat} (h : bdL B x.l) : bdL B (R_isee.l ⟨x.a1, x.a2, x.a3, x.a4⟩) := by
  obtain ⟨_, h1, h2, h3, h4, _⟩ := h
  exact ⟨h1, h2, h3, h4, trivial⟩
theorem is_arg {x : R_sisee} (h : IsArg x.l) : IsValue (R_isee.l ⟨x.a1, x.a2, x.a3, x.a4⟩) := by
  obtain ⟨_, h2, h3, q3, h4, q4⟩ := h.p
  exact .mk _ _ _ _ h2 h3 q3 h4 q4
theorem d_spec_ArgProblems (hs : IsSchema s.l) (bs : bdL 1048576 s.l) (ll : list.length ≤ 1048576) (ql : ∀ e ∈ list, IsInDef e) (la : args.length ≤ maxLen) (qa : ∀ e ∈ args, IsArg e) (ba : bdE 1048576 args) :
    Dn F.spec_ArgProblems [.agg s.l, .leaf (.str o), vsl list, vsl args] [] = some (.own (some T.impl_Problem) (argsP s o list args), []) := by
  have hml : (1048576 : Nat) ≤ maxLen := by decide
  refine den_of ?_
  rw [run_spec_ArgProblems]
  have e0 : ∀ p q : Bool, branch (p == false) (spec_ArgProblems_A Dn (spec_ArgProblems_0 o list args q s)) (spec_ArgProblems_A Dn (spec_ArgProblems_0 o list args true s)) = spec_ArgProblems_A Dn (spec_ArgProblems_0 o list args (p || q) s) := fun p q => by
    cases p
    · rw [show (false == false) = true from rfl, branch_true, Bool.false_or]
    · rw [show (true == false) = false from rfl, branch_false, Bool.true_or]
  rw [e0, spec_ArgProblems_0_eq]
  unfold argsP
  cases hb : decide ((args.length : Int) > 100) || decide ((list.length : Int) > 100)
  · rw [if_neg (by decide), branch_false]
    simp -implicitDefEqProofs only [Bool.or_eq_false_iff, decide_eq_false_iff_not] at hb
    refine app_loop1 (es := args) (g := argOne s o list args) (c := 3) (N := 1000) (A := fun out i => spec_ArgProblems_A Dn (spec_ArgProblems_1 o list args out (nms (args.take i.toNat)) i s))
      (fin := fun out => some (.own (some T.impl_Problem) (out ++ flatI (fun _ => argNeed o args) 0 (reqIn list)), [])) (fun j hj => argOne_len) (fun out1 ho1 => ?_) (fun i hi out1 ho1 => ?_) (by omega)
    · rw [spec_ArgProblems_1_eq]
      have lreq := reqIn_len list
      simp -implicitDefEqProofs only [Int.lt_irrefl, decide_false, branch_false, d_spec_RequiredIn ll ql, rOwn_eq, Int.toNat_natCast, List.take_length]
      refine app_loop0 (es := reqIn list) (g := fun _ => argNeed o args) (c := 1) (N := 5000000) (A := fun out i => spec_ArgProblems_A Dn (spec_ArgProblems_3 o out (nms args) (reqIn list) i))
        (fin := fun out => some (.own (some T.impl_Problem) out, [])) (fun j hj => ifP_len _ _) (fun out2 ho2 => by rw [spec_ArgProblems_3_eq]; simp) (fun i hi out2 ho2 => ?_) (by omega)
      obtain ⟨u, hu, _⟩ := reqIn_all ql _ (List.getElem_mem hi)
      have hw := wrap_upL (Nat.lt_of_lt_of_le hi (Nat.le_trans lreq (Nat.le_trans ll hml)))
      rw [spec_ArgProblems_3_eq, hu]
      simp -implicitDefEqProofs only [Int.ofNat_lt, decide_true, branch_true, Int.natCast_nonneg, Bool.and_true, Int.toNat_natCast, guarded_true, hi, sized_all (fun e he => (reqIn_all ql e he).len), getD_lt hi, hu, aStr_z, d_spec_l18Has (s := u) (es := nms args) (by rw [nms_len]; exact la) (nms_all qa), rBool_eq, nms_any]
      unfold argNeed
      rw [show strAt [Leaf.str u] 0 = u from rfl]
      cases args.any (at0 u) <;> simp -implicitDefEqProofs only [Bool.not_true, Bool.not_false, branch_true, branch_false, ifP_true, ifP_false, List.append_nil, room1 (z := 40) (show out2.length + 1 ≤ 1000000000 by omega) (by decide), Bool.and_true, guarded_true, spec_ArgProblems_5_eq, hw] <;> rfl
    · obtain ⟨a, ha, ia⟩ := (qa _ (List.getElem_mem hi)).st
      have bx : bdL 1048576 a.l := ha ▸ bdE_mem ba _ (List.getElem_mem hi)
      have hw := wrap_upL (Nat.lt_of_lt_of_le hi la)
      have ln : (nms (args.take i)).length ≤ 100 := by rw [nms_len, List.length_take]; omega
      have hn := d_spec_l18Has (s := a.a0) (es := nms (args.take i)) (by simp -implicitDefEqProofs only [maxLen]; omega) (nms_all fun e he => qa e (List.mem_of_mem_take he))
      rw [nms_any] at hn
      have nt := nms_take hi
      rw [ha] at nt
      have s4 : ∀ q : List El, spec_ArgProblems_A Dn (spec_ArgProblems_4 o list args q (nms (args.take i)) i s a) = spec_ArgProblems_A Dn (spec_ArgProblems_1 o list args q (nms (args.take (i + 1))) ((i + 1 : Nat) : Int) s) := fun q => by
        rw [spec_ArgProblems_4_eq, room (z := 16) (n := (nms (args.take i)).length) (k := 1) (by omega) (by decide), Bool.and_true, guarded_true, hw, ← nt]; rfl
      have s2 : ∀ q : List El, q.length ≤ 1000 → spec_ArgProblems_A Dn (spec_ArgProblems_2 o list args q (nms (args.take i)) i s a) = spec_ArgProblems_A Dn (spec_ArgProblems_1 o list args (q ++ ifP (decide (idxP (at0 a.a0) 0 list < 0)) (pb 26 o a.a0) ++ ifP (argUn s list a) (pb 28 o a.a0)) (nms (args.take (i + 1))) ((i + 1 : Nat) : Int) s) := fun q hq => by
        rw [spec_ArgProblems_2_eq, d_spec_InAt (s := a.a0) (Nat.le_trans ll hml) ql, rInt_eq]
        unfold argUn
        by_cases h : idxP (at0 a.a0) 0 list < 0
        · simp -implicitDefEqProofs only [h, decide_true, branch_true, if_true, ifP_true, ifP_false, List.append_nil, room1 (z := 40) (show q.length + 1 ≤ 1000000000 by omega) (by decide), Bool.and_true, guarded_true, s4]; rfl
        · obtain ⟨j, hj, hi2, _⟩ := idxP_get h
          obtain ⟨y, hy, iy⟩ := (ql _ (List.getElem_mem hj)).st
          have hf := d_spec_Fits (x := ⟨a.a1, a.a2, a.a3, a.a4⟩) (t := ⟨y.a2, y.a3⟩) hs bs (is_arg ia) (bd_arg bx) iy.p.2.2.2.1
          have hn : ¬ ((j : Int) < 0) := by omega
          rw [hi2]
          simp -implicitDefEqProofs only [hn, decide_false, branch_false, if_false, ifP_false, List.append_nil, Int.ofNat_lt, decide_true, branch_true, Int.natCast_nonneg, Bool.and_true, Int.toNat_natCast, guarded_true, hj, sized_all (fun e he => (ql e he).len), getD_lt hj, hy, bindE_eq, R_ss.at_l, R_isee.at_l, R_sisee.at_l, R_se.at_l, R_ssssbiseee.at_l, R_ssesse.at_l, R_sse.at_l, R_is.at_l, R_ibsseeeeebe.at_l, R_eee.at_l, R_iss.at_l, R_issseee.at_l, R_sssbiseee.at_l, R_iseee.at_l, R_ssee.at_l, R_isi.at_l, hf, rBool_eq]
          rw [show strAt y.l 2 = y.a2 from rfl, show strAt y.l 3 = y.a3 from rfl]
          cases fitsE s (R_isee.l ⟨a.a1, a.a2, a.a3, a.a4⟩) ⟨y.a2, y.a3⟩ <;> simp -implicitDefEqProofs only [Bool.not_true, Bool.not_false, branch_true, branch_false, ifP_true, ifP_false, List.append_nil, room1 (z := 40) (show q.length + 1 ≤ 1000000000 by omega) (by decide), Bool.and_true, guarded_true, s4] <;> rfl
      rw [spec_ArgProblems_1_eq, ha]
      unfold argOne
      rw [show strAt a.l 0 = a.a0 from rfl, R_sisee.of_l, ← List.append_assoc, ← List.append_assoc]
      have e1 := s2 (out1 ++ ifP ((args.take i).any (at0 a.a0)) (pb 27 o a.a0)) (by have := ifP_len ((args.take i).any (at0 a.a0)) (pb 27 o a.a0); rw [List.length_append]; omega)
      rw [Int.toNat_natCast, Int.toNat_natCast, ← e1]
      simp -implicitDefEqProofs only [Int.ofNat_lt, decide_true, branch_true, Int.natCast_nonneg, Bool.and_true, Int.toNat_natCast, guarded_true, hi, sized_all (fun e he => (qa e he).len), getD_lt hi, ha, R_sisee.rd_l, hn, rBool_eq]
      cases (args.take i).any (at0 a.a0) <;> simp -implicitDefEqProofs only [branch_true, branch_false, ifP_true, ifP_false, List.append_nil, room1 (z := 40) (show out1.length + 1 ≤ 1000000000 by omega) (by decide), Bool.and_true, guarded_true] <;> rfl
  · rw [if_pos rfl, branch_true]; rfl
theorem d_impl_ArgProblems (hs : IsSchema s.l) (bs : bdL 1048576 s.l) (ll : list.length ≤ 1048576) (ql : ∀ e ∈ list, IsInDef e) (la : args.length ≤ maxLen) (qa : ∀ e ∈ args, IsArg e) (ba : bdE 1048576 args) :
    Dn F.impl_ArgProblems [.agg s.l, .leaf (.str o), vsl list, vsl args] [] = some (.own (some T.impl_Problem) (argsP s o list args), []) := by
  have hml : (1048576 : Nat) ≤ maxLen := by decide
  refine den_of ?_
  rw [run_impl_ArgProblems]
  have e0 : ∀ p q : Bool, branch (p == false) (impl_ArgProblems_A Dn (impl_ArgProblems_0 o list args q s)) (impl_ArgProblems_A Dn (impl_ArgProblems_0 o list args true s)) = impl_ArgProblems_A Dn (impl_ArgProblems_0 o list args (p || q) s) := fun p q => by
    cases p
    · rw [show (false == false) = true from rfl, branch_true, Bool.false_or]
    · rw [show (true == false) = false from rfl, branch_false, Bool.true_or]
  rw [e0, impl_ArgProblems_0_eq]
  unfold argsP
  cases hb : decide ((args.length : Int) > 100) || decide ((list.length : Int) > 100)
  · rw [if_neg (by decide), branch_false]
    simp -implicitDefEqProofs only [Bool.or_eq_false_iff, decide_eq_false_iff_not] at hb
    refine app_loop1 (es := args) (g := argOne s o list args) (c := 3) (N := 1000) (A := fun out i => impl_ArgProblems_A Dn (impl_ArgProblems_1 o list args args args.length i s out))
      (fin := fun out => some (.own (some T.impl_Problem) (out ++ flatI (fun _ => argNeed o args) 0 (reqIn list)), [])) (fun j hj => argOne_len) (fun out1 ho1 => ?_) (fun i hi out1 ho1 => ?_) (by omega)
    · rw [impl_ArgProblems_1_eq]
      have lreq := reqIn_len list
      simp -implicitDefEqProofs only [Int.lt_irrefl, decide_false, branch_false, d_impl_RequiredIn ll ql, rOwn_eq]
      refine app_loop0 (es := reqIn list) (g := fun _ => argNeed o args) (c := 1) (N := 5000000) (A := fun out i => impl_ArgProblems_A Dn (impl_ArgProblems_3 o args (reqIn list) (reqIn list).length i out))
        (fin := fun out => some (.own (some T.impl_Problem) out, [])) (fun j hj => ifP_len _ _) (fun out2 ho2 => by rw [impl_ArgProblems_3_eq]; simp) (fun i hi out2 ho2 => ?_) (by omega)
      obtain ⟨u, hu, _⟩ := reqIn_all ql _ (List.getElem_mem hi)
      have hw := wrap_upL (Nat.lt_of_lt_of_le hi (Nat.le_trans lreq (Nat.le_trans ll hml)))
      rw [impl_ArgProblems_3_eq, hu]
      simp -implicitDefEqProofs only [Int.ofNat_lt, decide_true, branch_true, Int.natCast_nonneg, Bool.and_true, Int.toNat_natCast, guarded_true, hi, sized_all (fun e he => (reqIn_all ql e he).len), getD_lt hi, hu, aStr_z, d_impl_hasArg (s := u) la qa, rBool_eq, d_add (out := out2) (show out2.length + 1 ≤ 1000000000 by omega), rCol_eq, hw]
      rfl
    · obtain ⟨a, ha, ia⟩ := (qa _ (List.getElem_mem hi)).st
      have bx : bdL 1048576 a.l := ha ▸ bdE_mem ba _ (List.getElem_mem hi)
      have hw := wrap_upL (Nat.lt_of_lt_of_le hi la)
      have hle : i ≤ args.length := by omega
      have hh := d_impl_hasArg (s := a.a0) (es := args.take i) (by rw [List.length_take]; omega) (fun e he => qa e (List.mem_of_mem_take he))
      have add : ∀ (q : Bool) (c : Int) (z : List El), z.length ≤ 100000 → Dn F.impl_problems_add [.ptr 0 0, .leaf (.bool q), vint c, .leaf (.str o), .leaf (.str a.a0)] [[.own (some T.impl_Problem) z]] = some (.tup [], [[.own (some T.impl_Problem) (z ++ ifP q (pb c o a.a0))]]) := fun q c z hz => d_add (by omega)
      have l1 := ifP_len ((args.take i).any (at0 a.a0)) (pb 27 o a.a0)
      have a1 := add ((args.take i).any (at0 a.a0)) 27 out1 (by omega)
      have a2 := fun q => add q 26 (out1 ++ ifP ((args.take i).any (at0 a.a0)) (pb 27 o a.a0)) (by rw [List.length_append]; omega)
      have a3 := fun q q' => add q 28 (out1 ++ ifP ((args.take i).any (at0 a.a0)) (pb 27 o a.a0) ++ ifP q' (pb 26 o a.a0)) (by have := ifP_len q' (pb 26 o a.a0); rw [List.length_append, List.length_append]; omega)
      rw [impl_ArgProblems_1_eq, ha]
      unfold argOne argUn
      rw [show strAt a.l 0 = a.a0 from rfl, R_sisee.of_l, ← List.append_assoc, ← List.append_assoc]
      simp -implicitDefEqProofs only [Int.ofNat_lt, decide_true, branch_true, Int.natCast_nonneg, Bool.and_true, Int.toNat_natCast, guarded_true, hi, sized_all (fun e he => (qa e he).len), getD_lt hi, ha, R_sisee.rd_l, hle, List.drop_zero, hh, rBool_eq, a1, rCol_eq, d_impl_InAt (s := a.a0) (Nat.le_trans ll hml) ql, rInt_eq, a2, bT]
      by_cases h : idxP (at0 a.a0) 0 list < 0
      · have h' : ¬ idxP (at0 a.a0) 0 list ≥ 0 := by omega
        simp -implicitDefEqProofs only [h, h', decide_true, decide_false, branch_false, a3, rCol_eq, impl_ArgProblems_2_eq, hw, if_true]
      · obtain ⟨j, hj, hi2, _⟩ := idxP_get h
        obtain ⟨y, hy, iy⟩ := (ql _ (List.getElem_mem hj)).st
        have hf := d_impl_Fits (x := ⟨a.a1, a.a2, a.a3, a.a4⟩) (t := ⟨y.a2, y.a3⟩) hs bs (is_arg ia) (bd_arg bx) iy.p.2.2.2.1
        have hn : ¬ ((j : Int) < 0) := by omega
        have hg : ((j : Int) ≥ 0) := by omega
        have hmx : (if 0 < (j : Int) then (j : Int) else 0) = (j : Int) := by split <;> omega
        rw [hi2]
        simp -implicitDefEqProofs only [hn, hg, decide_true, decide_false, branch_true, if_true, if_false, hmx, Int.ofNat_lt, decide_true, branch_true, Int.natCast_nonneg, Bool.and_true, Int.toNat_natCast, guarded_true, hj, sized_all (fun e he => (ql e he).len), getD_lt hj, hy, bindE_eq, R_ss.at_l, R_isee.at_l, R_sisee.at_l, R_se.at_l, R_ssssbiseee.at_l, R_ssesse.at_l, R_sse.at_l, R_is.at_l, R_ibsseeeeebe.at_l, R_eee.at_l, R_iss.at_l, R_issseee.at_l, R_sssbiseee.at_l, R_iseee.at_l, R_ssee.at_l, R_isi.at_l, hf, rBool_eq, a3, rCol_eq, impl_ArgProblems_2_eq, hw]
        rfl
  · rw [if_pos rfl, branch_true]
    simp -implicitDefEqProofs only [d_add (q := true) (c := 5) (o := o) (p := ByteArray.mk #[]) (out := []) (by simp), rCol_eq]
    rfl
end
end Go.Vs
end
