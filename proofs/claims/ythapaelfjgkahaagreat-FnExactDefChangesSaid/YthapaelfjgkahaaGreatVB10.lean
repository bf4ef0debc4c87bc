/- What the program's functions compute, read off their text by the shadow runner (DTy, DTf, VsShape, DTx); no condition. -/
import Derived.Test.YthapaelfjgkahaaGreatRows
import Derived.Test.YthapaelfjgkahaaGreatVB9
section
open Go Go.Vs Go.Proofs
set_option linter.unusedVariables false
set_option linter.unusedSimpArgs false
set_option maxRecDepth 100000
namespace Go.Vs
noncomputable abbrev body : Code := bodyOf Tryz.prog F.laws_FnExactDefChanges
theorem hc0 : (fnOf Tryz.prog F.laws_FnExactDefChanges).body = some body := by kernel_rfl
theorem hfn : Tryz.prog.funcs[F.laws_FnExactDefChanges]? = some (fnOf Tryz.prog F.laws_FnExactDefChanges) := by kernel_rfl
theorem spA : spine (0 + (6 + 1)) body = true := by kernel_rfl
theorem spB : spine (7 + (1 + 1)) body = true := by kernel_rfl
theorem spC : spine (9 + (3 + 1)) body = true := by kernel_rfl
theorem spD : spine (13 + (3 + 1)) body = true := by kernel_rfl
theorem nlD : noLoop (sub body (way 17)) = true := by kernel_rfl
/-- What the functions answer at these arguments. -/
structure Fits (x0_0 : Int) (x0_1 : Bool) (x0_2 : ByteArray) (x0_3 : ByteArray) (x0_4 : List (List (Leaf false))) (x0_5 : List (List (Leaf false))) (x0_6 : List (List (Leaf false))) (x0_7 : List (List (Leaf false))) (x0_8 : List (List (Leaf false))) (x0_9 : Bool) (x0_10 : List (List (Leaf false))) (x1_0 : Int) (x1_1 : Bool) (x1_2 : ByteArray) (x1_3 : ByteArray) (x1_4 : List (List (Leaf false))) (x1_5 : List (List (Leaf false))) (x1_6 : List (List (Leaf false))) (x1_7 : List (List (Leaf false))) (x1_8 : List (List (Leaf false))) (x1_9 : Bool) (x1_10 : List (List (Leaf false))) (w : List (List (Leaf false))) : Prop where
  wl : w.length ≤ maxLen
  wc : (w.length : Int) * 3 + 1 ≤ cap
  wq : ∀ e ∈ w, IsChange e
  spc : ∀ c0 c1 : Fl true, Dd F.spec_DefChanges [.agg [.int .i64 x0_0, .bool x0_1, .str x0_2, .str x0_3, .sl c0 (reE (fl c0) x0_4), .sl c0 (reE (fl c0) x0_5), .sl c0 (reE (fl c0) x0_6), .sl c0 (reE (fl c0) x0_7), .sl c0 (reE (fl c0) x0_8), .bool x0_9, .sl c0 (reE (fl c0) x0_10)], .agg [.int .i64 x1_0, .bool x1_1, .str x1_2, .str x1_3, .sl c1 (reE (fl c1) x1_4), .sl c1 (reE (fl c1) x1_5), .sl c1 (reE (fl c1) x1_6), .sl c1 (reE (fl c1) x1_7), .sl c1 (reE (fl c1) x1_8), .bool x1_9, .sl c1 (reE (fl c1) x1_10)]] [] = some (.own (some T.impl_Change) (reE (fl fOld) w), [])
  imp : ∀ c0 c1 : Fl true, Dd F.impl_DefChanges [.agg [.int .i64 x0_0, .bool x0_1, .str x0_2, .str x0_3, .sl c0 (reE (fl c0) x0_4), .sl c0 (reE (fl c0) x0_5), .sl c0 (reE (fl c0) x0_6), .sl c0 (reE (fl c0) x0_7), .sl c0 (reE (fl c0) x0_8), .bool x0_9, .sl c0 (reE (fl c0) x0_10)], .agg [.int .i64 x1_0, .bool x1_1, .str x1_2, .str x1_3, .sl c1 (reE (fl c1) x1_4), .sl c1 (reE (fl c1) x1_5), .sl c1 (reE (fl c1) x1_6), .sl c1 (reE (fl c1) x1_7), .sl c1 (reE (fl c1) x1_8), .bool x1_9, .sl c1 (reE (fl c1) x1_10)]] [] = some (.leaf (.sl fNew (reE (fl fNew) w)), [])
  mn : ¬ msL [.int .i64 x1_0, .bool x1_1, .str x1_2, .str x1_3, .sl fP x1_4, .sl fP x1_5, .sl fP x1_6, .sl fP x1_7, .sl fP x1_8, .bool x1_9, .sl fP x1_10] (msL [.int .i64 x0_0, .bool x0_1, .str x0_2, .str x0_3, .sl fP x0_4, .sl fP x0_5, .sl fP x0_6, .sl fP x0_7, .sl fP x0_8, .bool x0_9, .sl fP x0_10] (1)) < 0
  to0 : ∀ c : Fl true, Dd F.laws_toDef [.agg [.int .i64 x0_0, .bool x0_1, .str x0_2, .str x0_3, .sl c (reE (fl c) x0_4), .sl c (reE (fl c) x0_5), .sl c (reE (fl c) x0_6), .sl c (reE (fl c) x0_7), .sl c (reE (fl c) x0_8), .bool x0_9, .sl c (reE (fl c) x0_10)]] [] = some (.agg [.int .i64 x0_0, .bool x0_1, .str x0_2, .str x0_3, .sl fNew (reE (fl fNew) x0_4), .sl fNew (reE (fl fNew) x0_5), .sl fNew (reE (fl fNew) x0_6), .sl fNew (reE (fl fNew) x0_7), .sl fNew (reE (fl fNew) x0_8), .bool x0_9, .sl fNew (reE (fl fNew) x0_10)], [])
  eq0 : ∀ c c' : Fl true, Dd F.laws_eqDef [.agg [.int .i64 x0_0, .bool x0_1, .str x0_2, .str x0_3, .sl c (reE (fl c) x0_4), .sl c (reE (fl c) x0_5), .sl c (reE (fl c) x0_6), .sl c (reE (fl c) x0_7), .sl c (reE (fl c) x0_8), .bool x0_9, .sl c (reE (fl c) x0_10)], .agg [.int .i64 x0_0, .bool x0_1, .str x0_2, .str x0_3, .sl c' (reE (fl c') x0_4), .sl c' (reE (fl c') x0_5), .sl c' (reE (fl c') x0_6), .sl c' (reE (fl c') x0_7), .sl c' (reE (fl c') x0_8), .bool x0_9, .sl c' (reE (fl c') x0_10)]] [] = some (.leaf (.bool true), [])
  mk0 : ∀ k : Int, Dd F.laws_markDef [.agg [.int .i64 x0_0, .bool x0_1, .str x0_2, .str x0_3, .sl fSoft (soE x0_4), .sl fSoft (soE x0_5), .sl fSoft (soE x0_6), .sl fSoft (soE x0_7), .sl fSoft (soE x0_8), .bool x0_9, .sl fSoft (soE x0_10)], .leaf (.int .i64 k)] [] = some (.leaf (.int .i64 (msL [.int .i64 x0_0, .bool x0_1, .str x0_2, .str x0_3, .sl fP x0_4, .sl fP x0_5, .sl fP x0_6, .sl fP x0_7, .sl fP x0_8, .bool x0_9, .sl fP x0_10] (k))), [])
  to1 : ∀ c : Fl true, Dd F.laws_toDef [.agg [.int .i64 x1_0, .bool x1_1, .str x1_2, .str x1_3, .sl c (reE (fl c) x1_4), .sl c (reE (fl c) x1_5), .sl c (reE (fl c) x1_6), .sl c (reE (fl c) x1_7), .sl c (reE (fl c) x1_8), .bool x1_9, .sl c (reE (fl c) x1_10)]] [] = some (.agg [.int .i64 x1_0, .bool x1_1, .str x1_2, .str x1_3, .sl fNew (reE (fl fNew) x1_4), .sl fNew (reE (fl fNew) x1_5), .sl fNew (reE (fl fNew) x1_6), .sl fNew (reE (fl fNew) x1_7), .sl fNew (reE (fl fNew) x1_8), .bool x1_9, .sl fNew (reE (fl fNew) x1_10)], [])
  eq1 : ∀ c c' : Fl true, Dd F.laws_eqDef [.agg [.int .i64 x1_0, .bool x1_1, .str x1_2, .str x1_3, .sl c (reE (fl c) x1_4), .sl c (reE (fl c) x1_5), .sl c (reE (fl c) x1_6), .sl c (reE (fl c) x1_7), .sl c (reE (fl c) x1_8), .bool x1_9, .sl c (reE (fl c) x1_10)], .agg [.int .i64 x1_0, .bool x1_1, .str x1_2, .str x1_3, .sl c' (reE (fl c') x1_4), .sl c' (reE (fl c') x1_5), .sl c' (reE (fl c') x1_6), .sl c' (reE (fl c') x1_7), .sl c' (reE (fl c') x1_8), .bool x1_9, .sl c' (reE (fl c') x1_10)]] [] = some (.leaf (.bool true), [])
  mk1 : ∀ k : Int, Dd F.laws_markDef [.agg [.int .i64 x1_0, .bool x1_1, .str x1_2, .str x1_3, .sl fSoft (soE x1_4), .sl fSoft (soE x1_5), .sl fSoft (soE x1_6), .sl fSoft (soE x1_7), .sl fSoft (soE x1_8), .bool x1_9, .sl fSoft (soE x1_10)], .leaf (.int .i64 k)] [] = some (.leaf (.int .i64 (msL [.int .i64 x1_0, .bool x1_1, .str x1_2, .str x1_3, .sl fP x1_4, .sl fP x1_5, .sl fP x1_6, .sl fP x1_7, .sl fP x1_8, .bool x1_9, .sl fP x1_10] (k))), [])
section
variable {x0_0 : Int} {x0_1 : Bool} {x0_2 : ByteArray} {x0_3 : ByteArray} {x0_4 : List (List (Leaf false))} {x0_5 : List (List (Leaf false))} {x0_6 : List (List (Leaf false))} {x0_7 : List (List (Leaf false))} {x0_8 : List (List (Leaf false))} {x0_9 : Bool} {x0_10 : List (List (Leaf false))} {x1_0 : Int} {x1_1 : Bool} {x1_2 : ByteArray} {x1_3 : ByteArray} {x1_4 : List (List (Leaf false))} {x1_5 : List (List (Leaf false))} {x1_6 : List (List (Leaf false))} {x1_7 : List (List (Leaf false))} {x1_8 : List (List (Leaf false))} {x1_9 : Bool} {x1_10 : List (List (Leaf false))} {w : List (List (Leaf false))}
theorem Fits.eqw (h : Fits x0_0 x0_1 x0_2 x0_3 x0_4 x0_5 x0_6 x0_7 x0_8 x0_9 x0_10 x1_0 x1_1 x1_2 x1_3 x1_4 x1_5 x1_6 x1_7 x1_8 x1_9 x1_10 w) (c c' : Fl true) : Dd F.laws_eqChangeS [.leaf (.sl c (reE (fl c) w)), .leaf (.sl c' (reE (fl c') w))] [] = some (.leaf (.bool true), []) :=
  dd_told rfl (d_laws_eqChangeS h.wl h.wq) (by rw [List.map_cons, List.map_cons, reS_sl, reS_sl]; rfl) rfl rfl
theorem turn1_eq : Vs.turn φ1 (fun _ => false) [] ({ tmps := ((((laws_FnExactDefChanges_s1 tQ x0_0 x0_1 x0_2 x0_3 fOld (reE (fl fOld) x0_4) fOld (reE (fl fOld) x0_5) fOld (reE (fl fOld) x0_6) fOld (reE (fl fOld) x0_7) fOld (reE (fl fOld) x0_8) x0_9 fOld (reE (fl fOld) x0_10) tQ x1_0 x1_1 x1_2 x1_3 fOld (reE (fl fOld) x1_4) fOld (reE (fl fOld) x1_5) fOld (reE (fl fOld) x1_6) fOld (reE (fl fOld) x1_7) fOld (reE (fl fOld) x1_8) x1_9 fOld (reE (fl fOld) x1_10) fOld (reE (fl fOld) w)).tmps.set 2 (.ptr 2 0)).set 3 (.ptr 3 0)).set 6 (.own (some T.impl_Change) (reE (fl fOld) w))), boxes := (((laws_FnExactDefChanges_s1 tQ x0_0 x0_1 x0_2 x0_3 fOld (reE (fl fOld) x0_4) fOld (reE (fl fOld) x0_5) fOld (reE (fl fOld) x0_6) fOld (reE (fl fOld) x0_7) fOld (reE (fl fOld) x0_8) x0_9 fOld (reE (fl fOld) x0_10) tQ x1_0 x1_1 x1_2 x1_3 fOld (reE (fl fOld) x1_4) fOld (reE (fl fOld) x1_5) fOld (reE (fl fOld) x1_6) fOld (reE (fl fOld) x1_7) fOld (reE (fl fOld) x1_8) x1_9 fOld (reE (fl fOld) x1_10) fOld (reE (fl fOld) w)).boxes.set 2 (some [.leaf (.int .i64 x0_0), .leaf (.bool x0_1), .leaf (.str x0_2), .leaf (.str x0_3), .leaf (.sl fOld (reE (fl fOld) x0_4)), .leaf (.sl fOld (reE (fl fOld) x0_5)), .leaf (.sl fOld (reE (fl fOld) x0_6)), .leaf (.sl fOld (reE (fl fOld) x0_7)), .leaf (.sl fOld (reE (fl fOld) x0_8)), .leaf (.bool x0_9), .leaf (.sl fOld (reE (fl fOld) x0_10))])).set 3 (some [.leaf (.int .i64 x1_0), .leaf (.bool x1_1), .leaf (.str x1_2), .leaf (.str x1_3), .leaf (.sl fOld (reE (fl fOld) x1_4)), .leaf (.sl fOld (reE (fl fOld) x1_5)), .leaf (.sl fOld (reE (fl fOld) x1_6)), .leaf (.sl fOld (reE (fl fOld) x1_7)), .leaf (.sl fOld (reE (fl fOld) x1_8)), .leaf (.bool x1_9), .leaf (.sl fOld (reE (fl fOld) x1_10))])) } : St true) = laws_FnExactDefChanges_s1 tQ x0_0 x0_1 x0_2 x0_3 (φ1 fOld) (tuE φ1 (fun _ => false) false (reE (fl fOld) x0_4)) (φ1 fOld) (tuE φ1 (fun _ => false) false (reE (fl fOld) x0_5)) (φ1 fOld) (tuE φ1 (fun _ => false) false (reE (fl fOld) x0_6)) (φ1 fOld) (tuE φ1 (fun _ => false) false (reE (fl fOld) x0_7)) (φ1 fOld) (tuE φ1 (fun _ => false) false (reE (fl fOld) x0_8)) x0_9 (φ1 fOld) (tuE φ1 (fun _ => false) false (reE (fl fOld) x0_10)) tQ x1_0 x1_1 x1_2 x1_3 (φ1 fOld) (tuE φ1 (fun _ => false) false (reE (fl fOld) x1_4)) (φ1 fOld) (tuE φ1 (fun _ => false) false (reE (fl fOld) x1_5)) (φ1 fOld) (tuE φ1 (fun _ => false) false (reE (fl fOld) x1_6)) (φ1 fOld) (tuE φ1 (fun _ => false) false (reE (fl fOld) x1_7)) (φ1 fOld) (tuE φ1 (fun _ => false) false (reE (fl fOld) x1_8)) x1_9 (φ1 fOld) (tuE φ1 (fun _ => false) false (reE (fl fOld) x1_10)) (φ1 fNew) (tuE φ1 (fun _ => false) false (reE (fl fOld) w)) := by
  kernel_rfl
theorem turn2_eq : Vs.turn φ2 (fun _ => false) [] ({ tmps := (((laws_FnExactDefChanges_s2 tQ x0_0 x0_1 x0_2 x0_3 tA (reE (fl tA) x0_4) tA (reE (fl tA) x0_5) tA (reE (fl tA) x0_6) tA (reE (fl tA) x0_7) tA (reE (fl tA) x0_8) x0_9 tA (reE (fl tA) x0_10) tQ x1_0 x1_1 x1_2 x1_3 tA (reE (fl tA) x1_4) tA (reE (fl tA) x1_5) tA (reE (fl tA) x1_6) tA (reE (fl tA) x1_7) tA (reE (fl tA) x1_8) x1_9 tA (reE (fl tA) x1_10) tA (reE (fl tA) w) tQ x0_0 x0_1 x0_2 x0_3 fNew (reE (fl fNew) x0_4) fNew (reE (fl fNew) x0_5) fNew (reE (fl fNew) x0_6) fNew (reE (fl fNew) x0_7) fNew (reE (fl fNew) x0_8) x0_9 fNew (reE (fl fNew) x0_10) tQ x1_0 x1_1 x1_2 x1_3 fNew (reE (fl fNew) x1_4) fNew (reE (fl fNew) x1_5) fNew (reE (fl fNew) x1_6) fNew (reE (fl fNew) x1_7) fNew (reE (fl fNew) x1_8) x1_9 fNew (reE (fl fNew) x1_10)).tmps.set 7 (.ptr 7 0)).set 8 (.ptr 8 0)), boxes := (((laws_FnExactDefChanges_s2 tQ x0_0 x0_1 x0_2 x0_3 tA (reE (fl tA) x0_4) tA (reE (fl tA) x0_5) tA (reE (fl tA) x0_6) tA (reE (fl tA) x0_7) tA (reE (fl tA) x0_8) x0_9 tA (reE (fl tA) x0_10) tQ x1_0 x1_1 x1_2 x1_3 tA (reE (fl tA) x1_4) tA (reE (fl tA) x1_5) tA (reE (fl tA) x1_6) tA (reE (fl tA) x1_7) tA (reE (fl tA) x1_8) x1_9 tA (reE (fl tA) x1_10) tA (reE (fl tA) w) tQ x0_0 x0_1 x0_2 x0_3 fNew (reE (fl fNew) x0_4) fNew (reE (fl fNew) x0_5) fNew (reE (fl fNew) x0_6) fNew (reE (fl fNew) x0_7) fNew (reE (fl fNew) x0_8) x0_9 fNew (reE (fl fNew) x0_10) tQ x1_0 x1_1 x1_2 x1_3 fNew (reE (fl fNew) x1_4) fNew (reE (fl fNew) x1_5) fNew (reE (fl fNew) x1_6) fNew (reE (fl fNew) x1_7) fNew (reE (fl fNew) x1_8) x1_9 fNew (reE (fl fNew) x1_10)).boxes.set 7 (some [.leaf (.int .i64 x0_0), .leaf (.bool x0_1), .leaf (.str x0_2), .leaf (.str x0_3), .leaf (.sl fNew (reE (fl fNew) x0_4)), .leaf (.sl fNew (reE (fl fNew) x0_5)), .leaf (.sl fNew (reE (fl fNew) x0_6)), .leaf (.sl fNew (reE (fl fNew) x0_7)), .leaf (.sl fNew (reE (fl fNew) x0_8)), .leaf (.bool x0_9), .leaf (.sl fNew (reE (fl fNew) x0_10))])).set 8 (some [.leaf (.int .i64 x1_0), .leaf (.bool x1_1), .leaf (.str x1_2), .leaf (.str x1_3), .leaf (.sl fNew (reE (fl fNew) x1_4)), .leaf (.sl fNew (reE (fl fNew) x1_5)), .leaf (.sl fNew (reE (fl fNew) x1_6)), .leaf (.sl fNew (reE (fl fNew) x1_7)), .leaf (.sl fNew (reE (fl fNew) x1_8)), .leaf (.bool x1_9), .leaf (.sl fNew (reE (fl fNew) x1_10))])) } : St true) = laws_FnExactDefChanges_s2 tQ x0_0 x0_1 x0_2 x0_3 (φ2 tA) (tuE φ2 (fun _ => false) false (reE (fl tA) x0_4)) (φ2 tA) (tuE φ2 (fun _ => false) false (reE (fl tA) x0_5)) (φ2 tA) (tuE φ2 (fun _ => false) false (reE (fl tA) x0_6)) (φ2 tA) (tuE φ2 (fun _ => false) false (reE (fl tA) x0_7)) (φ2 tA) (tuE φ2 (fun _ => false) false (reE (fl tA) x0_8)) x0_9 (φ2 tA) (tuE φ2 (fun _ => false) false (reE (fl tA) x0_10)) tQ x1_0 x1_1 x1_2 x1_3 (φ2 tA) (tuE φ2 (fun _ => false) false (reE (fl tA) x1_4)) (φ2 tA) (tuE φ2 (fun _ => false) false (reE (fl tA) x1_5)) (φ2 tA) (tuE φ2 (fun _ => false) false (reE (fl tA) x1_6)) (φ2 tA) (tuE φ2 (fun _ => false) false (reE (fl tA) x1_7)) (φ2 tA) (tuE φ2 (fun _ => false) false (reE (fl tA) x1_8)) x1_9 (φ2 tA) (tuE φ2 (fun _ => false) false (reE (fl tA) x1_10)) (φ2 tA) (tuE φ2 (fun _ => false) false (reE (fl tA) w)) tQ x0_0 x0_1 x0_2 x0_3 (φ2 fNew) (tuE φ2 (fun _ => false) false (reE (fl fNew) x0_4)) (φ2 fNew) (tuE φ2 (fun _ => false) false (reE (fl fNew) x0_5)) (φ2 fNew) (tuE φ2 (fun _ => false) false (reE (fl fNew) x0_6)) (φ2 fNew) (tuE φ2 (fun _ => false) false (reE (fl fNew) x0_7)) (φ2 fNew) (tuE φ2 (fun _ => false) false (reE (fl fNew) x0_8)) x0_9 (φ2 fNew) (tuE φ2 (fun _ => false) false (reE (fl fNew) x0_10)) tQ x1_0 x1_1 x1_2 x1_3 (φ2 fNew) (tuE φ2 (fun _ => false) false (reE (fl fNew) x1_4)) (φ2 fNew) (tuE φ2 (fun _ => false) false (reE (fl fNew) x1_5)) (φ2 fNew) (tuE φ2 (fun _ => false) false (reE (fl fNew) x1_6)) (φ2 fNew) (tuE φ2 (fun _ => false) false (reE (fl fNew) x1_7)) (φ2 fNew) (tuE φ2 (fun _ => false) false (reE (fl fNew) x1_8)) x1_9 (φ2 fNew) (tuE φ2 (fun _ => false) false (reE (fl fNew) x1_10)) := by
  kernel_rfl
theorem turn3_eq : Vs.turn φ3 σ3 [] (laws_FnExactDefChanges_s3 tQ x0_0 x0_1 x0_2 x0_3 tA (reE (fl tA) x0_4) tA (reE (fl tA) x0_5) tA (reE (fl tA) x0_6) tA (reE (fl tA) x0_7) tA (reE (fl tA) x0_8) x0_9 tA (reE (fl tA) x0_10) tQ x1_0 x1_1 x1_2 x1_3 tA (reE (fl tA) x1_4) tA (reE (fl tA) x1_5) tA (reE (fl tA) x1_6) tA (reE (fl tA) x1_7) tA (reE (fl tA) x1_8) x1_9 tA (reE (fl tA) x1_10) tA (reE (fl tA) w) tQ x0_0 x0_1 x0_2 x0_3 tX (reE (fl tX) x0_4) tX (reE (fl tX) x0_5) tX (reE (fl tX) x0_6) tX (reE (fl tX) x0_7) tX (reE (fl tX) x0_8) x0_9 tX (reE (fl tX) x0_10) tQ x1_0 x1_1 x1_2 x1_3 tX (reE (fl tX) x1_4) tX (reE (fl tX) x1_5) tX (reE (fl tX) x1_6) tX (reE (fl tX) x1_7) tX (reE (fl tX) x1_8) x1_9 tX (reE (fl tX) x1_10) fNew (reE (fl fNew) w)) = laws_FnExactDefChanges_s3 tQ x0_0 x0_1 x0_2 x0_3 (if σ3 tA then fSoft else φ3 tA) (tuE φ3 σ3 (σ3 tA) (reE (fl tA) x0_4)) (if σ3 tA then fSoft else φ3 tA) (tuE φ3 σ3 (σ3 tA) (reE (fl tA) x0_5)) (if σ3 tA then fSoft else φ3 tA) (tuE φ3 σ3 (σ3 tA) (reE (fl tA) x0_6)) (if σ3 tA then fSoft else φ3 tA) (tuE φ3 σ3 (σ3 tA) (reE (fl tA) x0_7)) (if σ3 tA then fSoft else φ3 tA) (tuE φ3 σ3 (σ3 tA) (reE (fl tA) x0_8)) x0_9 (if σ3 tA then fSoft else φ3 tA) (tuE φ3 σ3 (σ3 tA) (reE (fl tA) x0_10)) tQ x1_0 x1_1 x1_2 x1_3 (if σ3 tA then fSoft else φ3 tA) (tuE φ3 σ3 (σ3 tA) (reE (fl tA) x1_4)) (if σ3 tA then fSoft else φ3 tA) (tuE φ3 σ3 (σ3 tA) (reE (fl tA) x1_5)) (if σ3 tA then fSoft else φ3 tA) (tuE φ3 σ3 (σ3 tA) (reE (fl tA) x1_6)) (if σ3 tA then fSoft else φ3 tA) (tuE φ3 σ3 (σ3 tA) (reE (fl tA) x1_7)) (if σ3 tA then fSoft else φ3 tA) (tuE φ3 σ3 (σ3 tA) (reE (fl tA) x1_8)) x1_9 (if σ3 tA then fSoft else φ3 tA) (tuE φ3 σ3 (σ3 tA) (reE (fl tA) x1_10)) (if σ3 tA then fSoft else φ3 tA) (tuE φ3 σ3 (σ3 tA) (reE (fl tA) w)) tQ x0_0 x0_1 x0_2 x0_3 (if σ3 tX then fSoft else φ3 tX) (tuE φ3 σ3 (σ3 tX) (reE (fl tX) x0_4)) (if σ3 tX then fSoft else φ3 tX) (tuE φ3 σ3 (σ3 tX) (reE (fl tX) x0_5)) (if σ3 tX then fSoft else φ3 tX) (tuE φ3 σ3 (σ3 tX) (reE (fl tX) x0_6)) (if σ3 tX then fSoft else φ3 tX) (tuE φ3 σ3 (σ3 tX) (reE (fl tX) x0_7)) (if σ3 tX then fSoft else φ3 tX) (tuE φ3 σ3 (σ3 tX) (reE (fl tX) x0_8)) x0_9 (if σ3 tX then fSoft else φ3 tX) (tuE φ3 σ3 (σ3 tX) (reE (fl tX) x0_10)) tQ x1_0 x1_1 x1_2 x1_3 (if σ3 tX then fSoft else φ3 tX) (tuE φ3 σ3 (σ3 tX) (reE (fl tX) x1_4)) (if σ3 tX then fSoft else φ3 tX) (tuE φ3 σ3 (σ3 tX) (reE (fl tX) x1_5)) (if σ3 tX then fSoft else φ3 tX) (tuE φ3 σ3 (σ3 tX) (reE (fl tX) x1_6)) (if σ3 tX then fSoft else φ3 tX) (tuE φ3 σ3 (σ3 tX) (reE (fl tX) x1_7)) (if σ3 tX then fSoft else φ3 tX) (tuE φ3 σ3 (σ3 tX) (reE (fl tX) x1_8)) x1_9 (if σ3 tX then fSoft else φ3 tX) (tuE φ3 σ3 (σ3 tX) (reE (fl tX) x1_10)) (if σ3 fNew then fSoft else φ3 fNew) (tuE φ3 σ3 (σ3 fNew) (reE (fl fNew) w)) := by
  kernel_rfl
theorem row_eq (n k : Nat) : rowSt (Vs.turn φ4 (fun _ => false) [9] (laws_FnExactDefChanges_s4 tQ x0_0 x0_1 x0_2 x0_3 tA (reE (fl tA) x0_4) tA (reE (fl tA) x0_5) tA (reE (fl tA) x0_6) tA (reE (fl tA) x0_7) tA (reE (fl tA) x0_8) x0_9 tA (reE (fl tA) x0_10) tQ x1_0 x1_1 x1_2 x1_3 tA (reE (fl tA) x1_4) tA (reE (fl tA) x1_5) tA (reE (fl tA) x1_6) tA (reE (fl tA) x1_7) tA (reE (fl tA) x1_8) x1_9 tA (reE (fl tA) x1_10) tA (reE (fl tA) w) tG (reE (fl tG) w))) 9 3 n k = laws_FnExactDefChanges_s4r tQ x0_0 x0_1 x0_2 x0_3 (φ4 tA) (tuE φ4 (fun _ => false) false (reE (fl tA) x0_4)) (φ4 tA) (tuE φ4 (fun _ => false) false (reE (fl tA) x0_5)) (φ4 tA) (tuE φ4 (fun _ => false) false (reE (fl tA) x0_6)) (φ4 tA) (tuE φ4 (fun _ => false) false (reE (fl tA) x0_7)) (φ4 tA) (tuE φ4 (fun _ => false) false (reE (fl tA) x0_8)) x0_9 (φ4 tA) (tuE φ4 (fun _ => false) false (reE (fl tA) x0_10)) tQ x1_0 x1_1 x1_2 x1_3 (φ4 tA) (tuE φ4 (fun _ => false) false (reE (fl tA) x1_4)) (φ4 tA) (tuE φ4 (fun _ => false) false (reE (fl tA) x1_5)) (φ4 tA) (tuE φ4 (fun _ => false) false (reE (fl tA) x1_6)) (φ4 tA) (tuE φ4 (fun _ => false) false (reE (fl tA) x1_7)) (φ4 tA) (tuE φ4 (fun _ => false) false (reE (fl tA) x1_8)) x1_9 (φ4 tA) (tuE φ4 (fun _ => false) false (reE (fl tA) x1_10)) (φ4 tA) (tuE φ4 (fun _ => false) false (reE (fl tA) w)) n (List.replicate k .any) := by
  kernel_rfl
theorem slots2 : slotsOk p2 ({ tmps := (((laws_FnExactDefChanges_s2 tQ x0_0 x0_1 x0_2 x0_3 tA (reE (fl tA) x0_4) tA (reE (fl tA) x0_5) tA (reE (fl tA) x0_6) tA (reE (fl tA) x0_7) tA (reE (fl tA) x0_8) x0_9 tA (reE (fl tA) x0_10) tQ x1_0 x1_1 x1_2 x1_3 tA (reE (fl tA) x1_4) tA (reE (fl tA) x1_5) tA (reE (fl tA) x1_6) tA (reE (fl tA) x1_7) tA (reE (fl tA) x1_8) x1_9 tA (reE (fl tA) x1_10) tA (reE (fl tA) w) tQ x0_0 x0_1 x0_2 x0_3 fNew (reE (fl fNew) x0_4) fNew (reE (fl fNew) x0_5) fNew (reE (fl fNew) x0_6) fNew (reE (fl fNew) x0_7) fNew (reE (fl fNew) x0_8) x0_9 fNew (reE (fl fNew) x0_10) tQ x1_0 x1_1 x1_2 x1_3 fNew (reE (fl fNew) x1_4) fNew (reE (fl fNew) x1_5) fNew (reE (fl fNew) x1_6) fNew (reE (fl fNew) x1_7) fNew (reE (fl fNew) x1_8) x1_9 fNew (reE (fl fNew) x1_10)).tmps.set 7 (.ptr 7 0)).set 8 (.ptr 8 0)), boxes := (((laws_FnExactDefChanges_s2 tQ x0_0 x0_1 x0_2 x0_3 tA (reE (fl tA) x0_4) tA (reE (fl tA) x0_5) tA (reE (fl tA) x0_6) tA (reE (fl tA) x0_7) tA (reE (fl tA) x0_8) x0_9 tA (reE (fl tA) x0_10) tQ x1_0 x1_1 x1_2 x1_3 tA (reE (fl tA) x1_4) tA (reE (fl tA) x1_5) tA (reE (fl tA) x1_6) tA (reE (fl tA) x1_7) tA (reE (fl tA) x1_8) x1_9 tA (reE (fl tA) x1_10) tA (reE (fl tA) w) tQ x0_0 x0_1 x0_2 x0_3 fNew (reE (fl fNew) x0_4) fNew (reE (fl fNew) x0_5) fNew (reE (fl fNew) x0_6) fNew (reE (fl fNew) x0_7) fNew (reE (fl fNew) x0_8) x0_9 fNew (reE (fl fNew) x0_10) tQ x1_0 x1_1 x1_2 x1_3 fNew (reE (fl fNew) x1_4) fNew (reE (fl fNew) x1_5) fNew (reE (fl fNew) x1_6) fNew (reE (fl fNew) x1_7) fNew (reE (fl fNew) x1_8) x1_9 fNew (reE (fl fNew) x1_10)).boxes.set 7 (some [.leaf (.int .i64 x0_0), .leaf (.bool x0_1), .leaf (.str x0_2), .leaf (.str x0_3), .leaf (.sl fNew (reE (fl fNew) x0_4)), .leaf (.sl fNew (reE (fl fNew) x0_5)), .leaf (.sl fNew (reE (fl fNew) x0_6)), .leaf (.sl fNew (reE (fl fNew) x0_7)), .leaf (.sl fNew (reE (fl fNew) x0_8)), .leaf (.bool x0_9), .leaf (.sl fNew (reE (fl fNew) x0_10))])).set 8 (some [.leaf (.int .i64 x1_0), .leaf (.bool x1_1), .leaf (.str x1_2), .leaf (.str x1_3), .leaf (.sl fNew (reE (fl fNew) x1_4)), .leaf (.sl fNew (reE (fl fNew) x1_5)), .leaf (.sl fNew (reE (fl fNew) x1_6)), .leaf (.sl fNew (reE (fl fNew) x1_7)), .leaf (.sl fNew (reE (fl fNew) x1_8)), .leaf (.bool x1_9), .leaf (.sl fNew (reE (fl fNew) x1_10))])) } : St true).boxes [] 0 ({ tmps := (((laws_FnExactDefChanges_s2 tQ x0_0 x0_1 x0_2 x0_3 tA (reE (fl tA) x0_4) tA (reE (fl tA) x0_5) tA (reE (fl tA) x0_6) tA (reE (fl tA) x0_7) tA (reE (fl tA) x0_8) x0_9 tA (reE (fl tA) x0_10) tQ x1_0 x1_1 x1_2 x1_3 tA (reE (fl tA) x1_4) tA (reE (fl tA) x1_5) tA (reE (fl tA) x1_6) tA (reE (fl tA) x1_7) tA (reE (fl tA) x1_8) x1_9 tA (reE (fl tA) x1_10) tA (reE (fl tA) w) tQ x0_0 x0_1 x0_2 x0_3 fNew (reE (fl fNew) x0_4) fNew (reE (fl fNew) x0_5) fNew (reE (fl fNew) x0_6) fNew (reE (fl fNew) x0_7) fNew (reE (fl fNew) x0_8) x0_9 fNew (reE (fl fNew) x0_10) tQ x1_0 x1_1 x1_2 x1_3 fNew (reE (fl fNew) x1_4) fNew (reE (fl fNew) x1_5) fNew (reE (fl fNew) x1_6) fNew (reE (fl fNew) x1_7) fNew (reE (fl fNew) x1_8) x1_9 fNew (reE (fl fNew) x1_10)).tmps.set 7 (.ptr 7 0)).set 8 (.ptr 8 0)), boxes := (((laws_FnExactDefChanges_s2 tQ x0_0 x0_1 x0_2 x0_3 tA (reE (fl tA) x0_4) tA (reE (fl tA) x0_5) tA (reE (fl tA) x0_6) tA (reE (fl tA) x0_7) tA (reE (fl tA) x0_8) x0_9 tA (reE (fl tA) x0_10) tQ x1_0 x1_1 x1_2 x1_3 tA (reE (fl tA) x1_4) tA (reE (fl tA) x1_5) tA (reE (fl tA) x1_6) tA (reE (fl tA) x1_7) tA (reE (fl tA) x1_8) x1_9 tA (reE (fl tA) x1_10) tA (reE (fl tA) w) tQ x0_0 x0_1 x0_2 x0_3 fNew (reE (fl fNew) x0_4) fNew (reE (fl fNew) x0_5) fNew (reE (fl fNew) x0_6) fNew (reE (fl fNew) x0_7) fNew (reE (fl fNew) x0_8) x0_9 fNew (reE (fl fNew) x0_10) tQ x1_0 x1_1 x1_2 x1_3 fNew (reE (fl fNew) x1_4) fNew (reE (fl fNew) x1_5) fNew (reE (fl fNew) x1_6) fNew (reE (fl fNew) x1_7) fNew (reE (fl fNew) x1_8) x1_9 fNew (reE (fl fNew) x1_10)).boxes.set 7 (some [.leaf (.int .i64 x0_0), .leaf (.bool x0_1), .leaf (.str x0_2), .leaf (.str x0_3), .leaf (.sl fNew (reE (fl fNew) x0_4)), .leaf (.sl fNew (reE (fl fNew) x0_5)), .leaf (.sl fNew (reE (fl fNew) x0_6)), .leaf (.sl fNew (reE (fl fNew) x0_7)), .leaf (.sl fNew (reE (fl fNew) x0_8)), .leaf (.bool x0_9), .leaf (.sl fNew (reE (fl fNew) x0_10))])).set 8 (some [.leaf (.int .i64 x1_0), .leaf (.bool x1_1), .leaf (.str x1_2), .leaf (.str x1_3), .leaf (.sl fNew (reE (fl fNew) x1_4)), .leaf (.sl fNew (reE (fl fNew) x1_5)), .leaf (.sl fNew (reE (fl fNew) x1_6)), .leaf (.sl fNew (reE (fl fNew) x1_7)), .leaf (.sl fNew (reE (fl fNew) x1_8)), .leaf (.bool x1_9), .leaf (.sl fNew (reE (fl fNew) x1_10))])) } : St true).tmps = true := by
  simp [slotsOk, slotOkB, slotOk, boxAt, asLeaves, asLeaf, laws_FnExactDefChanges_s2, allF, allL, isTQ, allE_re (p := p2) (c := tA) rfl, allE_re (p := p2) (c := fNew) rfl, show p2 tA = true from rfl, show p2 fNew = true from rfl]
theorem slots3 : slotsOk p3 (laws_FnExactDefChanges_s3 tQ x0_0 x0_1 x0_2 x0_3 tA (reE (fl tA) x0_4) tA (reE (fl tA) x0_5) tA (reE (fl tA) x0_6) tA (reE (fl tA) x0_7) tA (reE (fl tA) x0_8) x0_9 tA (reE (fl tA) x0_10) tQ x1_0 x1_1 x1_2 x1_3 tA (reE (fl tA) x1_4) tA (reE (fl tA) x1_5) tA (reE (fl tA) x1_6) tA (reE (fl tA) x1_7) tA (reE (fl tA) x1_8) x1_9 tA (reE (fl tA) x1_10) tA (reE (fl tA) w) tQ x0_0 x0_1 x0_2 x0_3 tX (reE (fl tX) x0_4) tX (reE (fl tX) x0_5) tX (reE (fl tX) x0_6) tX (reE (fl tX) x0_7) tX (reE (fl tX) x0_8) x0_9 tX (reE (fl tX) x0_10) tQ x1_0 x1_1 x1_2 x1_3 tX (reE (fl tX) x1_4) tX (reE (fl tX) x1_5) tX (reE (fl tX) x1_6) tX (reE (fl tX) x1_7) tX (reE (fl tX) x1_8) x1_9 tX (reE (fl tX) x1_10) fNew (reE (fl fNew) w)).boxes [] 0 (laws_FnExactDefChanges_s3 tQ x0_0 x0_1 x0_2 x0_3 tA (reE (fl tA) x0_4) tA (reE (fl tA) x0_5) tA (reE (fl tA) x0_6) tA (reE (fl tA) x0_7) tA (reE (fl tA) x0_8) x0_9 tA (reE (fl tA) x0_10) tQ x1_0 x1_1 x1_2 x1_3 tA (reE (fl tA) x1_4) tA (reE (fl tA) x1_5) tA (reE (fl tA) x1_6) tA (reE (fl tA) x1_7) tA (reE (fl tA) x1_8) x1_9 tA (reE (fl tA) x1_10) tA (reE (fl tA) w) tQ x0_0 x0_1 x0_2 x0_3 tX (reE (fl tX) x0_4) tX (reE (fl tX) x0_5) tX (reE (fl tX) x0_6) tX (reE (fl tX) x0_7) tX (reE (fl tX) x0_8) x0_9 tX (reE (fl tX) x0_10) tQ x1_0 x1_1 x1_2 x1_3 tX (reE (fl tX) x1_4) tX (reE (fl tX) x1_5) tX (reE (fl tX) x1_6) tX (reE (fl tX) x1_7) tX (reE (fl tX) x1_8) x1_9 tX (reE (fl tX) x1_10) fNew (reE (fl fNew) w)).tmps = true := by
  simp [slotsOk, slotOkB, slotOk, laws_FnExactDefChanges_s3, allF, allL, isTQ, allE_re (p := p3) (c := tA) rfl, allE_re (p := p3) (c := tX) rfl, allE_re (p := p3) (c := fNew) rfl, show p3 tA = true from rfl, show p3 tX = true from rfl, show p3 fNew = true from rfl]
theorem slots4 : slotsOk p4 (laws_FnExactDefChanges_s4 tQ x0_0 x0_1 x0_2 x0_3 tA (reE (fl tA) x0_4) tA (reE (fl tA) x0_5) tA (reE (fl tA) x0_6) tA (reE (fl tA) x0_7) tA (reE (fl tA) x0_8) x0_9 tA (reE (fl tA) x0_10) tQ x1_0 x1_1 x1_2 x1_3 tA (reE (fl tA) x1_4) tA (reE (fl tA) x1_5) tA (reE (fl tA) x1_6) tA (reE (fl tA) x1_7) tA (reE (fl tA) x1_8) x1_9 tA (reE (fl tA) x1_10) tA (reE (fl tA) w) tG (reE (fl tG) w)).boxes [9] 0 (laws_FnExactDefChanges_s4 tQ x0_0 x0_1 x0_2 x0_3 tA (reE (fl tA) x0_4) tA (reE (fl tA) x0_5) tA (reE (fl tA) x0_6) tA (reE (fl tA) x0_7) tA (reE (fl tA) x0_8) x0_9 tA (reE (fl tA) x0_10) tQ x1_0 x1_1 x1_2 x1_3 tA (reE (fl tA) x1_4) tA (reE (fl tA) x1_5) tA (reE (fl tA) x1_6) tA (reE (fl tA) x1_7) tA (reE (fl tA) x1_8) x1_9 tA (reE (fl tA) x1_10) tA (reE (fl tA) w) tG (reE (fl tG) w)).tmps = true := by
  simp [slotsOk, slotOkB, slotOk, laws_FnExactDefChanges_s4, allF, allL, isTQ, allE_re (p := p4) (c := tA) rfl, show p4 tA = true from rfl]
/-- The end. -/
theorem law_c4 (h : Fits x0_0 x0_1 x0_2 x0_3 x0_4 x0_5 x0_6 x0_7 x0_8 x0_9 x0_10 x1_0 x1_1 x1_2 x1_3 x1_4 x1_5 x1_6 x1_7 x1_8 x1_9 x1_10 w) {W w' : World} {act : Act} {A B : Nat} {w0 : World} {F2 F3 : Fr} {hB0 : B ≤ w0.heap.size} {Fx : Fr} {Ow : Own} {bm : Nat → Nat} (hA : W.heap.size ≤ A) (hAB : A ≤ B) (hB : B ≤ w'.heap.size)
    (on : OnWay Tryz.prog (fnOf Tryz.prog F.laws_FnExactDefChanges) W (N3 w0 A B F2 F3 hB0) (laws_FnExactDefChanges_s4 tQ x0_0 x0_1 x0_2 x0_3 tA (reE (fl tA) x0_4) tA (reE (fl tA) x0_5) tA (reE (fl tA) x0_6) tA (reE (fl tA) x0_7) tA (reE (fl tA) x0_8) x0_9 tA (reE (fl tA) x0_10) tQ x1_0 x1_1 x1_2 x1_3 tA (reE (fl tA) x1_4) tA (reE (fl tA) x1_5) tA (reE (fl tA) x1_6) tA (reE (fl tA) x1_7) tA (reE (fl tA) x1_8) x1_9 tA (reE (fl tA) x1_10) tA (reE (fl tA) w) tG (reE (fl tG) w)) act w' Fx Ow bm) :
    (sub body (way 17)).wp Tryz.prog (bodyPost Tryz.prog (fnOf Tryz.prog F.laws_FnExactDefChanges) (Good W)) act w' := by
  by_cases hw : w = []
  · have eqw0 := h.eqw
    have im0 := h.imp
    have mkn : ∀ (c : Fl true) (k : Int), Dd F.laws_markChangeS [.leaf (.sl c []), .leaf (.int .i64 k)] [] = some (.leaf (.int .i64 k), []) := fun c k => dd_told rfl (d_laws_markChangeS_nil k) (by simp [reS, reF, reE]) rfl rfl
    have hdn : ∀ (c : Fl true) (k : Int), Dd F.laws_heldChangeS [.leaf (.sl c []), .leaf (.int .i64 k)] [] = some (.leaf (.int .i64 k), []) := fun c k => dd_told rfl (d_laws_heldChangeS_nil k) (by simp [reS, reF, reE]) rfl rfl
    rw [hw] at on
    simp only [hw, reE] at eqw0 im0
    refine stretch_last (H := Hs) hP dd_sound hfn hc0 spD nlD on fun J => ?_
    simp only [reE]
    rw [laws_FnExactDefChanges_c4]
    simp -implicitDefEqProofs only [mkn, hdn, Option.bind_some, svLeafK_leaf, svSlK_leaf, svOwnK_own, svAggK_agg, atK_zero, atK_succ, intK_int, strK_str, boolK_bool, slK_sl, List.length_cons, List.length_nil, beq_self_eq_true, guarded_true, h.to0, h.to1, im0, eqw0, show decide ((1 : Int) < 0) = false from rfl, branch_false, bne_self_eq_false, Bool.not_true, lastB_nil]
  · have hpos : 0 < w.length := List.length_pos_iff.2 hw
    have hez : ∀ e ∈ reE (fl tG) w, e.length = 3 := reE_all fun e he => (h.wq e he).len
    obtain ⟨k, F', Ow', bm', R, hk, on'⟩ := turn4 on hA hB hAB [9] (t := 9) (of_decide_eq_true (by kernel_rfl)) (of_decide_eq_true (by kernel_rfl)) (es := reE (fl tG) w) (z := 3) rfl (by rw [reE_length]; exact hpos) hez slots4
    rw [row_eq] at on'
    simp only [tuE_fl (φ := φ4) (σ := fun _ => false) (c := tA) rfl, show φ4 tA = tA from rfl, reE_length] at on'
    rw [reE_length] at hk
    refine stretch_last (H := Hs) hP dd_sound hfn hc0 spD nlD on' fun J => ?_
    have hm := t_markChangeS_r (k := k) h.wl hk
    have hd := t_heldChangeS_r (n := w.length) (k := k) h.wl
    have hf1 : ([List.replicate k (SV.any (m := true))].all fun (x : List (SV true)) => x.all SV.flat) = true := by
      simp only [List.all_cons, List.all_nil, Bool.and_true]
      rw [List.all_eq_true]; intro x hx; rw [List.eq_of_mem_replicate hx]; rfl
    have hf2 : ([(marked w.length k).map (reS li)].all fun (x : List (SV true)) => x.all SV.flat) = true := by
      simp only [List.all_cons, List.all_nil, Bool.and_true]
      exact map_flat (marked_flat _ _)
    have he : ¬ endChange w.length 1 < 0 := by
      have := endChange_le w.length 1 (by omega) (by have := h.wc; simp only [cap] at *; omega)
      omega
    rw [laws_FnExactDefChanges_c4r]
    simp -implicitDefEqProofs only [hf1, hm, hd, Option.bind_some, svLeafK_leaf, svSlK_leaf, svOwnK_own, svAggK_agg, atK_zero, atK_succ, intK_int, strK_str, boolK_bool, slK_sl, List.length_cons, List.length_nil, beq_self_eq_true, guarded_true, headB_cons, lastB_nil, hf2, h.to0, h.to1, h.imp, h.eqw, he, decide_false, branch_false, bne_self_eq_false, Bool.not_true]
/-- The marks. -/
theorem law_c3 (h : Fits x0_0 x0_1 x0_2 x0_3 x0_4 x0_5 x0_6 x0_7 x0_8 x0_9 x0_10 x1_0 x1_1 x1_2 x1_3 x1_4 x1_5 x1_6 x1_7 x1_8 x1_9 x1_10 w) {W w' : World} {act : Act} {A B : Nat} {F2 : Fr} {Fx : Fr} {Ow : Own} {bm : Nat → Nat} (hA : W.heap.size ≤ A) (hAB : A ≤ B) (hB : B ≤ w'.heap.size)
    (on : OnWay Tryz.prog (fnOf Tryz.prog F.laws_FnExactDefChanges) W (N2 A B F2) (laws_FnExactDefChanges_s3 tQ x0_0 x0_1 x0_2 x0_3 tA (reE (fl tA) x0_4) tA (reE (fl tA) x0_5) tA (reE (fl tA) x0_6) tA (reE (fl tA) x0_7) tA (reE (fl tA) x0_8) x0_9 tA (reE (fl tA) x0_10) tQ x1_0 x1_1 x1_2 x1_3 tA (reE (fl tA) x1_4) tA (reE (fl tA) x1_5) tA (reE (fl tA) x1_6) tA (reE (fl tA) x1_7) tA (reE (fl tA) x1_8) x1_9 tA (reE (fl tA) x1_10) tA (reE (fl tA) w) tQ x0_0 x0_1 x0_2 x0_3 tX (reE (fl tX) x0_4) tX (reE (fl tX) x0_5) tX (reE (fl tX) x0_6) tX (reE (fl tX) x0_7) tX (reE (fl tX) x0_8) x0_9 tX (reE (fl tX) x0_10) tQ x1_0 x1_1 x1_2 x1_3 tX (reE (fl tX) x1_4) tX (reE (fl tX) x1_5) tX (reE (fl tX) x1_6) tX (reE (fl tX) x1_7) tX (reE (fl tX) x1_8) x1_9 tX (reE (fl tX) x1_10) fNew (reE (fl fNew) w)) act w' Fx Ow bm) :
    (sub body (way 13)).wp Tryz.prog (bodyPost Tryz.prog (fnOf Tryz.prog F.laws_FnExactDefChanges) (Good W)) act w' := by
  have on' := turn3 on hA hB hAB [] slots3
  rw [turn3_eq] at on'
  simp only [show σ3 tA = false from rfl, show σ3 tX = true from rfl, show σ3 fNew = false from rfl, tuE_fl (φ := φ3) (σ := σ3) (c := tA) rfl, tuE_fl (φ := φ3) (σ := σ3) (c := fNew) rfl, tuE_so (φ := φ3) (σ := σ3) (c := tX) rfl, Bool.false_eq_true, if_false, if_true, show φ3 tA = tA from rfl, show φ3 fNew = tG from rfl] at on'
  refine stretch (H := Hs) (s1 := laws_FnExactDefChanges_s4 tQ x0_0 x0_1 x0_2 x0_3 tA (reE (fl tA) x0_4) tA (reE (fl tA) x0_5) tA (reE (fl tA) x0_6) tA (reE (fl tA) x0_7) tA (reE (fl tA) x0_8) x0_9 tA (reE (fl tA) x0_10) tQ x1_0 x1_1 x1_2 x1_3 tA (reE (fl tA) x1_4) tA (reE (fl tA) x1_5) tA (reE (fl tA) x1_6) tA (reE (fl tA) x1_7) tA (reE (fl tA) x1_8) x1_9 tA (reE (fl tA) x1_10) tA (reE (fl tA) w) tG (reE (fl tG) w)) hP dd_sound hfn hc0 spD on' (fun J => ?_) fun a' w2 F' Ow' bm' on2 far => ?_
  · rw [laws_FnExactDefChanges_c3]
    simp -implicitDefEqProofs only [h.mk0, h.mk1, Option.bind_some, svLeafK_leaf, svSlK_leaf, svOwnK_own, svAggK_agg, atK_zero, atK_succ, intK_int, strK_str, boolK_bool, slK_sl, List.length_cons, List.length_nil, beq_self_eq_true, guarded_true, decide_eq_false h.mn, branch_true, h.eqw, Bool.not_true, branch_false]
    rfl
  · exact law_c4 h hA hAB (Nat.le_trans hB far.size) on2
/-- The answer. -/
theorem law_c2 (h : Fits x0_0 x0_1 x0_2 x0_3 x0_4 x0_5 x0_6 x0_7 x0_8 x0_9 x0_10 x1_0 x1_1 x1_2 x1_3 x1_4 x1_5 x1_6 x1_7 x1_8 x1_9 x1_10 w) {W w' : World} {act : Act} {A : Nat} {Fx : Fr} {Ow : Own} {bm : Nat → Nat} (hA : W.heap.size ≤ A) (hB : A ≤ w'.heap.size)
    (on : OnWay Tryz.prog (fnOf Tryz.prog F.laws_FnExactDefChanges) W (N1 A) ({ tmps := (((laws_FnExactDefChanges_s2 tQ x0_0 x0_1 x0_2 x0_3 tA (reE (fl tA) x0_4) tA (reE (fl tA) x0_5) tA (reE (fl tA) x0_6) tA (reE (fl tA) x0_7) tA (reE (fl tA) x0_8) x0_9 tA (reE (fl tA) x0_10) tQ x1_0 x1_1 x1_2 x1_3 tA (reE (fl tA) x1_4) tA (reE (fl tA) x1_5) tA (reE (fl tA) x1_6) tA (reE (fl tA) x1_7) tA (reE (fl tA) x1_8) x1_9 tA (reE (fl tA) x1_10) tA (reE (fl tA) w) tQ x0_0 x0_1 x0_2 x0_3 fNew (reE (fl fNew) x0_4) fNew (reE (fl fNew) x0_5) fNew (reE (fl fNew) x0_6) fNew (reE (fl fNew) x0_7) fNew (reE (fl fNew) x0_8) x0_9 fNew (reE (fl fNew) x0_10) tQ x1_0 x1_1 x1_2 x1_3 fNew (reE (fl fNew) x1_4) fNew (reE (fl fNew) x1_5) fNew (reE (fl fNew) x1_6) fNew (reE (fl fNew) x1_7) fNew (reE (fl fNew) x1_8) x1_9 fNew (reE (fl fNew) x1_10)).tmps.set 7 (.ptr 7 0)).set 8 (.ptr 8 0)), boxes := (((laws_FnExactDefChanges_s2 tQ x0_0 x0_1 x0_2 x0_3 tA (reE (fl tA) x0_4) tA (reE (fl tA) x0_5) tA (reE (fl tA) x0_6) tA (reE (fl tA) x0_7) tA (reE (fl tA) x0_8) x0_9 tA (reE (fl tA) x0_10) tQ x1_0 x1_1 x1_2 x1_3 tA (reE (fl tA) x1_4) tA (reE (fl tA) x1_5) tA (reE (fl tA) x1_6) tA (reE (fl tA) x1_7) tA (reE (fl tA) x1_8) x1_9 tA (reE (fl tA) x1_10) tA (reE (fl tA) w) tQ x0_0 x0_1 x0_2 x0_3 fNew (reE (fl fNew) x0_4) fNew (reE (fl fNew) x0_5) fNew (reE (fl fNew) x0_6) fNew (reE (fl fNew) x0_7) fNew (reE (fl fNew) x0_8) x0_9 fNew (reE (fl fNew) x0_10) tQ x1_0 x1_1 x1_2 x1_3 fNew (reE (fl fNew) x1_4) fNew (reE (fl fNew) x1_5) fNew (reE (fl fNew) x1_6) fNew (reE (fl fNew) x1_7) fNew (reE (fl fNew) x1_8) x1_9 fNew (reE (fl fNew) x1_10)).boxes.set 7 (some [.leaf (.int .i64 x0_0), .leaf (.bool x0_1), .leaf (.str x0_2), .leaf (.str x0_3), .leaf (.sl fNew (reE (fl fNew) x0_4)), .leaf (.sl fNew (reE (fl fNew) x0_5)), .leaf (.sl fNew (reE (fl fNew) x0_6)), .leaf (.sl fNew (reE (fl fNew) x0_7)), .leaf (.sl fNew (reE (fl fNew) x0_8)), .leaf (.bool x0_9), .leaf (.sl fNew (reE (fl fNew) x0_10))])).set 8 (some [.leaf (.int .i64 x1_0), .leaf (.bool x1_1), .leaf (.str x1_2), .leaf (.str x1_3), .leaf (.sl fNew (reE (fl fNew) x1_4)), .leaf (.sl fNew (reE (fl fNew) x1_5)), .leaf (.sl fNew (reE (fl fNew) x1_6)), .leaf (.sl fNew (reE (fl fNew) x1_7)), .leaf (.sl fNew (reE (fl fNew) x1_8)), .leaf (.bool x1_9), .leaf (.sl fNew (reE (fl fNew) x1_10))])) } : St true) act w' Fx Ow bm) :
    (sub body (way 9)).wp Tryz.prog (bodyPost Tryz.prog (fnOf Tryz.prog F.laws_FnExactDefChanges) (Good W)) act w' := by
  have on' := turn2 on [] slots2
  rw [turn2_eq] at on'
  simp only [tuE_fl (φ := φ2) (σ := fun _ => false) (c := tA) rfl, tuE_fl (φ := φ2) (σ := fun _ => false) (c := fNew) rfl, show φ2 tA = tA from rfl, show φ2 fNew = tX from rfl] at on'
  refine stretch (H := Hs) (s1 := laws_FnExactDefChanges_s3 tQ x0_0 x0_1 x0_2 x0_3 tA (reE (fl tA) x0_4) tA (reE (fl tA) x0_5) tA (reE (fl tA) x0_6) tA (reE (fl tA) x0_7) tA (reE (fl tA) x0_8) x0_9 tA (reE (fl tA) x0_10) tQ x1_0 x1_1 x1_2 x1_3 tA (reE (fl tA) x1_4) tA (reE (fl tA) x1_5) tA (reE (fl tA) x1_6) tA (reE (fl tA) x1_7) tA (reE (fl tA) x1_8) x1_9 tA (reE (fl tA) x1_10) tA (reE (fl tA) w) tQ x0_0 x0_1 x0_2 x0_3 tX (reE (fl tX) x0_4) tX (reE (fl tX) x0_5) tX (reE (fl tX) x0_6) tX (reE (fl tX) x0_7) tX (reE (fl tX) x0_8) x0_9 tX (reE (fl tX) x0_10) tQ x1_0 x1_1 x1_2 x1_3 tX (reE (fl tX) x1_4) tX (reE (fl tX) x1_5) tX (reE (fl tX) x1_6) tX (reE (fl tX) x1_7) tX (reE (fl tX) x1_8) x1_9 tX (reE (fl tX) x1_10) fNew (reE (fl fNew) w)) hP dd_sound hfn hc0 spC on' (fun J => ?_) fun a' w2 F' Ow' bm' on2 far => ?_
  · rw [laws_FnExactDefChanges_c2]
    simp -implicitDefEqProofs only [h.to0, h.to1, h.imp, h.eq0, h.eq1, Option.bind_some, svLeafK_leaf, svSlK_leaf, svOwnK_own, svAggK_agg, atK_zero, atK_succ, intK_int, strK_str, boolK_bool, slK_sl, List.length_cons, List.length_nil, beq_self_eq_true, guarded_true, h.eqw, Bool.not_true, branch_false]
    rfl
  · exact law_c3 h hA hB far.size on2
/-- The copies. -/
theorem law_c1 (h : Fits x0_0 x0_1 x0_2 x0_3 x0_4 x0_5 x0_6 x0_7 x0_8 x0_9 x0_10 x1_0 x1_1 x1_2 x1_3 x1_4 x1_5 x1_6 x1_7 x1_8 x1_9 x1_10 w) {W w' : World} {act : Act} {A : Nat} {Fx : Fr} {Ow : Own} {bm : Nat → Nat} (hA : W.heap.size ≤ A) (hB : A ≤ w'.heap.size)
    (on : OnWay Tryz.prog (fnOf Tryz.prog F.laws_FnExactDefChanges) W (N1 A) (laws_FnExactDefChanges_s1 tQ x0_0 x0_1 x0_2 x0_3 tA (reE (fl tA) x0_4) tA (reE (fl tA) x0_5) tA (reE (fl tA) x0_6) tA (reE (fl tA) x0_7) tA (reE (fl tA) x0_8) x0_9 tA (reE (fl tA) x0_10) tQ x1_0 x1_1 x1_2 x1_3 tA (reE (fl tA) x1_4) tA (reE (fl tA) x1_5) tA (reE (fl tA) x1_6) tA (reE (fl tA) x1_7) tA (reE (fl tA) x1_8) x1_9 tA (reE (fl tA) x1_10) tA (reE (fl tA) w)) act w' Fx Ow bm) :
    (sub body (way 7)).wp Tryz.prog (bodyPost Tryz.prog (fnOf Tryz.prog F.laws_FnExactDefChanges) (Good W)) act w' := by
  refine stretch (H := Hs) (s1 := { tmps := (((laws_FnExactDefChanges_s2 tQ x0_0 x0_1 x0_2 x0_3 tA (reE (fl tA) x0_4) tA (reE (fl tA) x0_5) tA (reE (fl tA) x0_6) tA (reE (fl tA) x0_7) tA (reE (fl tA) x0_8) x0_9 tA (reE (fl tA) x0_10) tQ x1_0 x1_1 x1_2 x1_3 tA (reE (fl tA) x1_4) tA (reE (fl tA) x1_5) tA (reE (fl tA) x1_6) tA (reE (fl tA) x1_7) tA (reE (fl tA) x1_8) x1_9 tA (reE (fl tA) x1_10) tA (reE (fl tA) w) tQ x0_0 x0_1 x0_2 x0_3 fNew (reE (fl fNew) x0_4) fNew (reE (fl fNew) x0_5) fNew (reE (fl fNew) x0_6) fNew (reE (fl fNew) x0_7) fNew (reE (fl fNew) x0_8) x0_9 fNew (reE (fl fNew) x0_10) tQ x1_0 x1_1 x1_2 x1_3 fNew (reE (fl fNew) x1_4) fNew (reE (fl fNew) x1_5) fNew (reE (fl fNew) x1_6) fNew (reE (fl fNew) x1_7) fNew (reE (fl fNew) x1_8) x1_9 fNew (reE (fl fNew) x1_10)).tmps.set 7 (.ptr 7 0)).set 8 (.ptr 8 0)), boxes := (((laws_FnExactDefChanges_s2 tQ x0_0 x0_1 x0_2 x0_3 tA (reE (fl tA) x0_4) tA (reE (fl tA) x0_5) tA (reE (fl tA) x0_6) tA (reE (fl tA) x0_7) tA (reE (fl tA) x0_8) x0_9 tA (reE (fl tA) x0_10) tQ x1_0 x1_1 x1_2 x1_3 tA (reE (fl tA) x1_4) tA (reE (fl tA) x1_5) tA (reE (fl tA) x1_6) tA (reE (fl tA) x1_7) tA (reE (fl tA) x1_8) x1_9 tA (reE (fl tA) x1_10) tA (reE (fl tA) w) tQ x0_0 x0_1 x0_2 x0_3 fNew (reE (fl fNew) x0_4) fNew (reE (fl fNew) x0_5) fNew (reE (fl fNew) x0_6) fNew (reE (fl fNew) x0_7) fNew (reE (fl fNew) x0_8) x0_9 fNew (reE (fl fNew) x0_10) tQ x1_0 x1_1 x1_2 x1_3 fNew (reE (fl fNew) x1_4) fNew (reE (fl fNew) x1_5) fNew (reE (fl fNew) x1_6) fNew (reE (fl fNew) x1_7) fNew (reE (fl fNew) x1_8) x1_9 fNew (reE (fl fNew) x1_10)).boxes.set 7 (some [.leaf (.int .i64 x0_0), .leaf (.bool x0_1), .leaf (.str x0_2), .leaf (.str x0_3), .leaf (.sl fNew (reE (fl fNew) x0_4)), .leaf (.sl fNew (reE (fl fNew) x0_5)), .leaf (.sl fNew (reE (fl fNew) x0_6)), .leaf (.sl fNew (reE (fl fNew) x0_7)), .leaf (.sl fNew (reE (fl fNew) x0_8)), .leaf (.bool x0_9), .leaf (.sl fNew (reE (fl fNew) x0_10))])).set 8 (some [.leaf (.int .i64 x1_0), .leaf (.bool x1_1), .leaf (.str x1_2), .leaf (.str x1_3), .leaf (.sl fNew (reE (fl fNew) x1_4)), .leaf (.sl fNew (reE (fl fNew) x1_5)), .leaf (.sl fNew (reE (fl fNew) x1_6)), .leaf (.sl fNew (reE (fl fNew) x1_7)), .leaf (.sl fNew (reE (fl fNew) x1_8)), .leaf (.bool x1_9), .leaf (.sl fNew (reE (fl fNew) x1_10))])) }) hP dd_sound hfn hc0 spB on (fun J => ?_) fun a' w2 F' Ow' bm' on2 far => ?_
  · rw [laws_FnExactDefChanges_c1]
    simp -implicitDefEqProofs only [h.to0, h.to1, Option.bind_some, svLeafK_leaf, svSlK_leaf, svOwnK_own, svAggK_agg, atK_zero, atK_succ, intK_int, strK_str, boolK_bool, slK_sl, List.length_cons, List.length_nil, beq_self_eq_true, guarded_true]
    rfl
  · exact law_c2 h hA (Nat.le_trans hB far.size) on2
/-- From the beginning. -/
theorem law_c0 (sz0 : ∀ (c : Fl true) (n : Int), 0 ≤ n → Dd F.laws_szDef [.agg [.int .i64 x0_0, .bool x0_1, .str x0_2, .str x0_3, .sl c (reE (fl c) x0_4), .sl c (reE (fl c) x0_5), .sl c (reE (fl c) x0_6), .sl c (reE (fl c) x0_7), .sl c (reE (fl c) x0_8), .bool x0_9, .sl c (reE (fl c) x0_10)], .leaf (.int .i64 n)] [] = some (.leaf (.int .i64 (szL [.int .i64 x0_0, .bool x0_1, .str x0_2, .str x0_3, .sl fP x0_4, .sl fP x0_5, .sl fP x0_6, .sl fP x0_7, .sl fP x0_8, .bool x0_9, .sl fP x0_10] n)), [])) (sz1 : ∀ (c : Fl true) (n : Int), 0 ≤ n → Dd F.laws_szDef [.agg [.int .i64 x1_0, .bool x1_1, .str x1_2, .str x1_3, .sl c (reE (fl c) x1_4), .sl c (reE (fl c) x1_5), .sl c (reE (fl c) x1_6), .sl c (reE (fl c) x1_7), .sl c (reE (fl c) x1_8), .bool x1_9, .sl c (reE (fl c) x1_10)], .leaf (.int .i64 n)] [] = some (.leaf (.int .i64 (szL [.int .i64 x1_0, .bool x1_1, .str x1_2, .str x1_3, .sl fP x1_4, .sl fP x1_5, .sl fP x1_6, .sl fP x1_7, .sl fP x1_8, .bool x1_9, .sl fP x1_10] n)), [])) (fits : 0 ≤ szL [.int .i64 x0_0, .bool x0_1, .str x0_2, .str x0_3, .sl fP x0_4, .sl fP x0_5, .sl fP x0_6, .sl fP x0_7, .sl fP x0_8, .bool x0_9, .sl fP x0_10] 1048576 → 0 ≤ szL [.int .i64 x1_0, .bool x1_1, .str x1_2, .str x1_3, .sl fP x1_4, .sl fP x1_5, .sl fP x1_6, .sl fP x1_7, .sl fP x1_8, .bool x1_9, .sl fP x1_10] (szL [.int .i64 x0_0, .bool x0_1, .str x0_2, .str x0_3, .sl fP x0_4, .sl fP x0_5, .sl fP x0_6, .sl fP x0_7, .sl fP x0_8, .bool x0_9, .sl fP x0_10] 1048576) → Fits x0_0 x0_1 x0_2 x0_3 x0_4 x0_5 x0_6 x0_7 x0_8 x0_9 x0_10 x1_0 x1_1 x1_2 x1_3 x1_4 x1_5 x1_6 x1_7 x1_8 x1_9 x1_10 w) {W : World} {act : Act} {Fx : Fr} {Ow : Own} {bm : Nat → Nat}
    (on : OnWay Tryz.prog (fnOf Tryz.prog F.laws_FnExactDefChanges) W (N0 W) (laws_FnExactDefChanges_s0 x0_0 x0_1 x0_2 x0_3 fOld (reE (fl fOld) x0_4) fOld (reE (fl fOld) x0_5) fOld (reE (fl fOld) x0_6) fOld (reE (fl fOld) x0_7) fOld (reE (fl fOld) x0_8) x0_9 fOld (reE (fl fOld) x0_10) x1_0 x1_1 x1_2 x1_3 fOld (reE (fl fOld) x1_4) fOld (reE (fl fOld) x1_5) fOld (reE (fl fOld) x1_6) fOld (reE (fl fOld) x1_7) fOld (reE (fl fOld) x1_8) x1_9 fOld (reE (fl fOld) x1_10)) act W Fx Ow bm) :
    (sub body (way 0)).wp Tryz.prog (bodyPost Tryz.prog (fnOf Tryz.prog F.laws_FnExactDefChanges) (Good W)) act W := by
  by_cases hn0 : szL [.int .i64 x0_0, .bool x0_1, .str x0_2, .str x0_3, .sl fP x0_4, .sl fP x0_5, .sl fP x0_6, .sl fP x0_7, .sl fP x0_8, .bool x0_9, .sl fP x0_10] 1048576 < 0
  · refine stretch_left (H := Hs) hP dd_sound hfn hc0 spA on fun J => ?_
    rw [laws_FnExactDefChanges_c0]
    simp -implicitDefEqProofs only [sz0 fOld 1048576 (by omega), Option.bind_some, svLeafK_leaf, svSlK_leaf, svOwnK_own, svAggK_agg, atK_zero, atK_succ, intK_int, strK_str, boolK_bool, slK_sl, List.length_cons, List.length_nil, beq_self_eq_true, guarded_true, decide_eq_true hn0, branch_true, branch_false]
  · by_cases hn1 : szL [.int .i64 x1_0, .bool x1_1, .str x1_2, .str x1_3, .sl fP x1_4, .sl fP x1_5, .sl fP x1_6, .sl fP x1_7, .sl fP x1_8, .bool x1_9, .sl fP x1_10] (szL [.int .i64 x0_0, .bool x0_1, .str x0_2, .str x0_3, .sl fP x0_4, .sl fP x0_5, .sl fP x0_6, .sl fP x0_7, .sl fP x0_8, .bool x0_9, .sl fP x0_10] 1048576) < 0
    · refine stretch_left (H := Hs) hP dd_sound hfn hc0 spA on fun J => ?_
      rw [laws_FnExactDefChanges_c0]
      simp -implicitDefEqProofs only [sz0 fOld 1048576 (by omega), sz1 fOld (szL [.int .i64 x0_0, .bool x0_1, .str x0_2, .str x0_3, .sl fP x0_4, .sl fP x0_5, .sl fP x0_6, .sl fP x0_7, .sl fP x0_8, .bool x0_9, .sl fP x0_10] 1048576) (by omega), Option.bind_some, svLeafK_leaf, svSlK_leaf, svOwnK_own, svAggK_agg, atK_zero, atK_succ, intK_int, strK_str, boolK_bool, slK_sl, List.length_cons, List.length_nil, beq_self_eq_true, guarded_true, decide_eq_false hn0, decide_eq_true hn1, branch_true, branch_false]
    · have h := fits (by omega) (by omega)
      refine stretch (H := Hs) (s1 := { tmps := ((((laws_FnExactDefChanges_s1 tQ x0_0 x0_1 x0_2 x0_3 fOld (reE (fl fOld) x0_4) fOld (reE (fl fOld) x0_5) fOld (reE (fl fOld) x0_6) fOld (reE (fl fOld) x0_7) fOld (reE (fl fOld) x0_8) x0_9 fOld (reE (fl fOld) x0_10) tQ x1_0 x1_1 x1_2 x1_3 fOld (reE (fl fOld) x1_4) fOld (reE (fl fOld) x1_5) fOld (reE (fl fOld) x1_6) fOld (reE (fl fOld) x1_7) fOld (reE (fl fOld) x1_8) x1_9 fOld (reE (fl fOld) x1_10) fOld (reE (fl fOld) w)).tmps.set 2 (.ptr 2 0)).set 3 (.ptr 3 0)).set 6 (.own (some T.impl_Change) (reE (fl fOld) w))), boxes := (((laws_FnExactDefChanges_s1 tQ x0_0 x0_1 x0_2 x0_3 fOld (reE (fl fOld) x0_4) fOld (reE (fl fOld) x0_5) fOld (reE (fl fOld) x0_6) fOld (reE (fl fOld) x0_7) fOld (reE (fl fOld) x0_8) x0_9 fOld (reE (fl fOld) x0_10) tQ x1_0 x1_1 x1_2 x1_3 fOld (reE (fl fOld) x1_4) fOld (reE (fl fOld) x1_5) fOld (reE (fl fOld) x1_6) fOld (reE (fl fOld) x1_7) fOld (reE (fl fOld) x1_8) x1_9 fOld (reE (fl fOld) x1_10) fOld (reE (fl fOld) w)).boxes.set 2 (some [.leaf (.int .i64 x0_0), .leaf (.bool x0_1), .leaf (.str x0_2), .leaf (.str x0_3), .leaf (.sl fOld (reE (fl fOld) x0_4)), .leaf (.sl fOld (reE (fl fOld) x0_5)), .leaf (.sl fOld (reE (fl fOld) x0_6)), .leaf (.sl fOld (reE (fl fOld) x0_7)), .leaf (.sl fOld (reE (fl fOld) x0_8)), .leaf (.bool x0_9), .leaf (.sl fOld (reE (fl fOld) x0_10))])).set 3 (some [.leaf (.int .i64 x1_0), .leaf (.bool x1_1), .leaf (.str x1_2), .leaf (.str x1_3), .leaf (.sl fOld (reE (fl fOld) x1_4)), .leaf (.sl fOld (reE (fl fOld) x1_5)), .leaf (.sl fOld (reE (fl fOld) x1_6)), .leaf (.sl fOld (reE (fl fOld) x1_7)), .leaf (.sl fOld (reE (fl fOld) x1_8)), .leaf (.bool x1_9), .leaf (.sl fOld (reE (fl fOld) x1_10))])) }) hP dd_sound hfn hc0 spA on (fun J => ?_) fun a' w2 F' Ow' bm' on2 far => ?_
      · rw [laws_FnExactDefChanges_c0]
        simp -implicitDefEqProofs only [sz0 fOld 1048576 (by omega), sz1 fOld (szL [.int .i64 x0_0, .bool x0_1, .str x0_2, .str x0_3, .sl fP x0_4, .sl fP x0_5, .sl fP x0_6, .sl fP x0_7, .sl fP x0_8, .bool x0_9, .sl fP x0_10] 1048576) (by omega), Option.bind_some, svLeafK_leaf, svSlK_leaf, svOwnK_own, svAggK_agg, atK_zero, atK_succ, intK_int, strK_str, boolK_bool, slK_sl, List.length_cons, List.length_nil, beq_self_eq_true, guarded_true, decide_eq_false hn0, decide_eq_false hn1, branch_true, branch_false, h.to0, h.to1, h.spc]
        rfl
      · have on3 := turn1 on2 (fun _ => rfl) []
        rw [turn1_eq] at on3
        simp only [tuE_fl (φ := φ1) (σ := fun _ => false) (c := fOld) rfl, show φ1 fOld = tA from rfl, show φ1 fNew = tA from rfl] at on3
        exact law_c1 h far.size (Nat.le_refl _) on3
end
end Go.Vs
end
section
open Go Go.Vs Go.Proofs
set_option linter.unusedVariables false
set_option linter.unusedSimpArgs false
namespace Go.Vs
section
variable {x0_0 : Int} {x0_1 : Bool} {x0_2 : ByteArray} {x0_3 : ByteArray} {x0_4 : List (List (Leaf false))} {x0_5 : List (List (Leaf false))} {x0_6 : List (List (Leaf false))} {x0_7 : List (List (Leaf false))} {x0_8 : List (List (Leaf false))} {x0_9 : Bool} {x0_10 : List (List (Leaf false))} {x1_0 : Int} {x1_1 : Bool} {x1_2 : ByteArray} {x1_3 : ByteArray} {x1_4 : List (List (Leaf false))} {x1_5 : List (List (Leaf false))} {x1_6 : List (List (Leaf false))} {x1_7 : List (List (Leaf false))} {x1_8 : List (List (Leaf false))} {x1_9 : Bool} {x1_10 : List (List (Leaf false))}
theorem dok0 (h : IsDef [.int .i64 x0_0, .bool x0_1, .str x0_2, .str x0_3, .sl fP x0_4, .sl fP x0_5, .sl fP x0_6, .sl fP x0_7, .sl fP x0_8, .bool x0_9, .sl fP x0_10]) (hb : bdL 1048576 [.int .i64 x0_0, .bool x0_1, .str x0_2, .str x0_3, .sl fP x0_4, .sl fP x0_5, .sl fP x0_6, .sl fP x0_7, .sl fP x0_8, .bool x0_9, .sl fP x0_10]) : DOk x0_3 x0_4 x0_5 x0_6 x0_7 := by
  simp only [bdL, bdF] at hb
  obtain ⟨_, _, _, b3, ⟨b4, _⟩, ⟨b5, b5'⟩, ⟨b6, _⟩, ⟨b7, _⟩, _⟩ := hb
  cases h with
  | mk _ _ _ _ _ _ _ _ _ _ _ h2 h3 h4 q4 h5 q5 h6 q6 h7 q7 h8 q8 h10 q10 => exact ⟨b3, b4, q4, b5, fun e he => .of (q5 e he) (bdE_mem b5' e he), b6, q6, b7, q7⟩
theorem szd0 (h : IsDef [.int .i64 x0_0, .bool x0_1, .str x0_2, .str x0_3, .sl fP x0_4, .sl fP x0_5, .sl fP x0_6, .sl fP x0_7, .sl fP x0_8, .bool x0_9, .sl fP x0_10]) (c : Fl true) (n : Int) (hn : 0 ≤ n) : Dd F.laws_szDef [.agg [.int .i64 x0_0, .bool x0_1, .str x0_2, .str x0_3, .sl c (reE (fl c) x0_4), .sl c (reE (fl c) x0_5), .sl c (reE (fl c) x0_6), .sl c (reE (fl c) x0_7), .sl c (reE (fl c) x0_8), .bool x0_9, .sl c (reE (fl c) x0_10)], .leaf (.int .i64 n)] [] = some (.leaf (.int .i64 (szL [.int .i64 x0_0, .bool x0_1, .str x0_2, .str x0_3, .sl fP x0_4, .sl fP x0_5, .sl fP x0_6, .sl fP x0_7, .sl fP x0_8, .bool x0_9, .sl fP x0_10] n)), []) :=
  dd_told rfl (d_laws_szDef h hn) (by
    have := reS_agg c [.int .i64 x0_0, .bool x0_1, .str x0_2, .str x0_3, .sl fP x0_4, .sl fP x0_5, .sl fP x0_6, .sl fP x0_7, .sl fP x0_8, .bool x0_9, .sl fP x0_10]
    simp only [reL, reF] at this
    rw [List.map_cons, this]; rfl) rfl rfl
theorem eqd0 (h : IsDef [.int .i64 x0_0, .bool x0_1, .str x0_2, .str x0_3, .sl fP x0_4, .sl fP x0_5, .sl fP x0_6, .sl fP x0_7, .sl fP x0_8, .bool x0_9, .sl fP x0_10]) (c c' : Fl true) : Dd F.laws_eqDef [.agg [.int .i64 x0_0, .bool x0_1, .str x0_2, .str x0_3, .sl c (reE (fl c) x0_4), .sl c (reE (fl c) x0_5), .sl c (reE (fl c) x0_6), .sl c (reE (fl c) x0_7), .sl c (reE (fl c) x0_8), .bool x0_9, .sl c (reE (fl c) x0_10)], .agg [.int .i64 x0_0, .bool x0_1, .str x0_2, .str x0_3, .sl c' (reE (fl c') x0_4), .sl c' (reE (fl c') x0_5), .sl c' (reE (fl c') x0_6), .sl c' (reE (fl c') x0_7), .sl c' (reE (fl c') x0_8), .bool x0_9, .sl c' (reE (fl c') x0_10)]] [] = some (.leaf (.bool true), []) :=
  dd_told rfl (d_laws_eqDef h) (by
    have := reS_agg c [.int .i64 x0_0, .bool x0_1, .str x0_2, .str x0_3, .sl fP x0_4, .sl fP x0_5, .sl fP x0_6, .sl fP x0_7, .sl fP x0_8, .bool x0_9, .sl fP x0_10]
    have t := reS_agg c' [.int .i64 x0_0, .bool x0_1, .str x0_2, .str x0_3, .sl fP x0_4, .sl fP x0_5, .sl fP x0_6, .sl fP x0_7, .sl fP x0_8, .bool x0_9, .sl fP x0_10]
    simp only [reL, reF] at this t
    rw [List.map_cons, List.map_cons, this, t]; rfl) rfl rfl
theorem tod0 (h : IsDef [.int .i64 x0_0, .bool x0_1, .str x0_2, .str x0_3, .sl fP x0_4, .sl fP x0_5, .sl fP x0_6, .sl fP x0_7, .sl fP x0_8, .bool x0_9, .sl fP x0_10]) (ht : tL [.int .i64 x0_0, .bool x0_1, .str x0_2, .str x0_3, .sl fP x0_4, .sl fP x0_5, .sl fP x0_6, .sl fP x0_7, .sl fP x0_8, .bool x0_9, .sl fP x0_10] ≤ 1048576) (c : Fl true) : Dd F.laws_toDef [.agg [.int .i64 x0_0, .bool x0_1, .str x0_2, .str x0_3, .sl c (reE (fl c) x0_4), .sl c (reE (fl c) x0_5), .sl c (reE (fl c) x0_6), .sl c (reE (fl c) x0_7), .sl c (reE (fl c) x0_8), .bool x0_9, .sl c (reE (fl c) x0_10)]] [] = some (.agg [.int .i64 x0_0, .bool x0_1, .str x0_2, .str x0_3, .sl fNew (reE (fl fNew) x0_4), .sl fNew (reE (fl fNew) x0_5), .sl fNew (reE (fl fNew) x0_6), .sl fNew (reE (fl fNew) x0_7), .sl fNew (reE (fl fNew) x0_8), .bool x0_9, .sl fNew (reE (fl fNew) x0_10)], []) := by
  have := t_laws_toDef (c := c) h ht
  simpa only [reL, reF] using this
theorem mkd0 (h : IsDef [.int .i64 x0_0, .bool x0_1, .str x0_2, .str x0_3, .sl fP x0_4, .sl fP x0_5, .sl fP x0_6, .sl fP x0_7, .sl fP x0_8, .bool x0_9, .sl fP x0_10]) (k : Int) : Dd F.laws_markDef [.agg [.int .i64 x0_0, .bool x0_1, .str x0_2, .str x0_3, .sl fSoft (soE x0_4), .sl fSoft (soE x0_5), .sl fSoft (soE x0_6), .sl fSoft (soE x0_7), .sl fSoft (soE x0_8), .bool x0_9, .sl fSoft (soE x0_10)], .leaf (.int .i64 k)] [] = some (.leaf (.int .i64 (msL [.int .i64 x0_0, .bool x0_1, .str x0_2, .str x0_3, .sl fP x0_4, .sl fP x0_5, .sl fP x0_6, .sl fP x0_7, .sl fP x0_8, .bool x0_9, .sl fP x0_10] k)), []) := by
  have := t_laws_markDef h k
  simpa only [saL, saF] using this
theorem dok1 (h : IsDef [.int .i64 x1_0, .bool x1_1, .str x1_2, .str x1_3, .sl fP x1_4, .sl fP x1_5, .sl fP x1_6, .sl fP x1_7, .sl fP x1_8, .bool x1_9, .sl fP x1_10]) (hb : bdL 1048576 [.int .i64 x1_0, .bool x1_1, .str x1_2, .str x1_3, .sl fP x1_4, .sl fP x1_5, .sl fP x1_6, .sl fP x1_7, .sl fP x1_8, .bool x1_9, .sl fP x1_10]) : DOk x1_3 x1_4 x1_5 x1_6 x1_7 := by
  simp only [bdL, bdF] at hb
  obtain ⟨_, _, _, b3, ⟨b4, _⟩, ⟨b5, b5'⟩, ⟨b6, _⟩, ⟨b7, _⟩, _⟩ := hb
  cases h with
  | mk _ _ _ _ _ _ _ _ _ _ _ h2 h3 h4 q4 h5 q5 h6 q6 h7 q7 h8 q8 h10 q10 => exact ⟨b3, b4, q4, b5, fun e he => .of (q5 e he) (bdE_mem b5' e he), b6, q6, b7, q7⟩
theorem szd1 (h : IsDef [.int .i64 x1_0, .bool x1_1, .str x1_2, .str x1_3, .sl fP x1_4, .sl fP x1_5, .sl fP x1_6, .sl fP x1_7, .sl fP x1_8, .bool x1_9, .sl fP x1_10]) (c : Fl true) (n : Int) (hn : 0 ≤ n) : Dd F.laws_szDef [.agg [.int .i64 x1_0, .bool x1_1, .str x1_2, .str x1_3, .sl c (reE (fl c) x1_4), .sl c (reE (fl c) x1_5), .sl c (reE (fl c) x1_6), .sl c (reE (fl c) x1_7), .sl c (reE (fl c) x1_8), .bool x1_9, .sl c (reE (fl c) x1_10)], .leaf (.int .i64 n)] [] = some (.leaf (.int .i64 (szL [.int .i64 x1_0, .bool x1_1, .str x1_2, .str x1_3, .sl fP x1_4, .sl fP x1_5, .sl fP x1_6, .sl fP x1_7, .sl fP x1_8, .bool x1_9, .sl fP x1_10] n)), []) :=
  dd_told rfl (d_laws_szDef h hn) (by
    have := reS_agg c [.int .i64 x1_0, .bool x1_1, .str x1_2, .str x1_3, .sl fP x1_4, .sl fP x1_5, .sl fP x1_6, .sl fP x1_7, .sl fP x1_8, .bool x1_9, .sl fP x1_10]
    simp only [reL, reF] at this
    rw [List.map_cons, this]; rfl) rfl rfl
theorem eqd1 (h : IsDef [.int .i64 x1_0, .bool x1_1, .str x1_2, .str x1_3, .sl fP x1_4, .sl fP x1_5, .sl fP x1_6, .sl fP x1_7, .sl fP x1_8, .bool x1_9, .sl fP x1_10]) (c c' : Fl true) : Dd F.laws_eqDef [.agg [.int .i64 x1_0, .bool x1_1, .str x1_2, .str x1_3, .sl c (reE (fl c) x1_4), .sl c (reE (fl c) x1_5), .sl c (reE (fl c) x1_6), .sl c (reE (fl c) x1_7), .sl c (reE (fl c) x1_8), .bool x1_9, .sl c (reE (fl c) x1_10)], .agg [.int .i64 x1_0, .bool x1_1, .str x1_2, .str x1_3, .sl c' (reE (fl c') x1_4), .sl c' (reE (fl c') x1_5), .sl c' (reE (fl c') x1_6), .sl c' (reE (fl c') x1_7), .sl c' (reE (fl c') x1_8), .bool x1_9, .sl c' (reE (fl c') x1_10)]] [] = some (.leaf (.bool true), []) :=
  dd_told rfl (d_laws_eqDef h) (by
    have := reS_agg c [.int .i64 x1_0, .bool x1_1, .str x1_2, .str x1_3, .sl fP x1_4, .sl fP x1_5, .sl fP x1_6, .sl fP x1_7, .sl fP x1_8, .bool x1_9, .sl fP x1_10]
    have t := reS_agg c' [.int .i64 x1_0, .bool x1_1, .str x1_2, .str x1_3, .sl fP x1_4, .sl fP x1_5, .sl fP x1_6, .sl fP x1_7, .sl fP x1_8, .bool x1_9, .sl fP x1_10]
    simp only [reL, reF] at this t
    rw [List.map_cons, List.map_cons, this, t]; rfl) rfl rfl
theorem tod1 (h : IsDef [.int .i64 x1_0, .bool x1_1, .str x1_2, .str x1_3, .sl fP x1_4, .sl fP x1_5, .sl fP x1_6, .sl fP x1_7, .sl fP x1_8, .bool x1_9, .sl fP x1_10]) (ht : tL [.int .i64 x1_0, .bool x1_1, .str x1_2, .str x1_3, .sl fP x1_4, .sl fP x1_5, .sl fP x1_6, .sl fP x1_7, .sl fP x1_8, .bool x1_9, .sl fP x1_10] ≤ 1048576) (c : Fl true) : Dd F.laws_toDef [.agg [.int .i64 x1_0, .bool x1_1, .str x1_2, .str x1_3, .sl c (reE (fl c) x1_4), .sl c (reE (fl c) x1_5), .sl c (reE (fl c) x1_6), .sl c (reE (fl c) x1_7), .sl c (reE (fl c) x1_8), .bool x1_9, .sl c (reE (fl c) x1_10)]] [] = some (.agg [.int .i64 x1_0, .bool x1_1, .str x1_2, .str x1_3, .sl fNew (reE (fl fNew) x1_4), .sl fNew (reE (fl fNew) x1_5), .sl fNew (reE (fl fNew) x1_6), .sl fNew (reE (fl fNew) x1_7), .sl fNew (reE (fl fNew) x1_8), .bool x1_9, .sl fNew (reE (fl fNew) x1_10)], []) := by
  have := t_laws_toDef (c := c) h ht
  simpa only [reL, reF] using this
theorem mkd1 (h : IsDef [.int .i64 x1_0, .bool x1_1, .str x1_2, .str x1_3, .sl fP x1_4, .sl fP x1_5, .sl fP x1_6, .sl fP x1_7, .sl fP x1_8, .bool x1_9, .sl fP x1_10]) (k : Int) : Dd F.laws_markDef [.agg [.int .i64 x1_0, .bool x1_1, .str x1_2, .str x1_3, .sl fSoft (soE x1_4), .sl fSoft (soE x1_5), .sl fSoft (soE x1_6), .sl fSoft (soE x1_7), .sl fSoft (soE x1_8), .bool x1_9, .sl fSoft (soE x1_10)], .leaf (.int .i64 k)] [] = some (.leaf (.int .i64 (msL [.int .i64 x1_0, .bool x1_1, .str x1_2, .str x1_3, .sl fP x1_4, .sl fP x1_5, .sl fP x1_6, .sl fP x1_7, .sl fP x1_8, .bool x1_9, .sl fP x1_10] k)), []) := by
  have := t_laws_markDef h k
  simpa only [saL, saF] using this
theorem defCh_len (hx : DOk x0_3 x0_4 x0_5 x0_6 x0_7) (hy : DOk x1_3 x1_4 x1_5 x1_6 x1_7) : (defCh [.int .i64 x0_0, .bool x0_1, .str x0_2, .str x0_3, .sl fP x0_4, .sl fP x0_5, .sl fP x0_6, .sl fP x0_7, .sl fP x0_8, .bool x0_9, .sl fP x0_10] [.int .i64 x1_0, .bool x1_1, .str x1_2, .str x1_3, .sl fP x1_4, .sl fP x1_5, .sl fP x1_6, .sl fP x1_7, .sl fP x1_8, .bool x1_9, .sl fP x1_10]).length ≤ 3400000000000 := by
  have x4 := hx.l4; have x5 := hx.l5; have x6 := hx.l6; have x7 := hx.l7
  have y4 := hy.l4; have y5 := hy.l5; have y6 := hy.l6; have y7 := hy.l7
  rw [defCh_mk]
  generalize dirNm x0_0 x0_3 = o
  have nl := fun g f => nameCh_len o x0_4 x1_4 g f
  have vl := nameCh_len o (vals x0_7) (vals x1_7) 10 22
  rw [vals_len, vals_len] at vl
  have fl := fldCh_len (nm := x0_3) hx.l5 hy.l5 hx.q5 hy.q5
  have il := inCh_len o x0_6 x1_6
  have r1 := fun c q => rep_len c o q
  split
  · simp
  · have := r1 28 (!(x0_2.toList == x1_2.toList))
    have h15 := r1 15 (x0_9 && !x1_9)
    have h27 := r1 27 (!x0_9 && x1_9)
    have n1 := nl 12 24
    have n2 := nl 11 23
    have n3 := nl 14 26
    rw [List.length_append]
    unfold tailCh
    split
    · rw [List.length_append]; omega
    · split
      · omega
      · split
        · omega
        · split
          · omega
          · split
            · rw [List.length_append, List.length_append, List.length_append]; omega
            · simp; omega
theorem spd (hx : DOk x0_3 x0_4 x0_5 x0_6 x0_7) (hy : DOk x1_3 x1_4 x1_5 x1_6 x1_7) (c0 c1 : Fl true) : Dd F.spec_DefChanges [.agg [.int .i64 x0_0, .bool x0_1, .str x0_2, .str x0_3, .sl c0 (reE (fl c0) x0_4), .sl c0 (reE (fl c0) x0_5), .sl c0 (reE (fl c0) x0_6), .sl c0 (reE (fl c0) x0_7), .sl c0 (reE (fl c0) x0_8), .bool x0_9, .sl c0 (reE (fl c0) x0_10)], .agg [.int .i64 x1_0, .bool x1_1, .str x1_2, .str x1_3, .sl c1 (reE (fl c1) x1_4), .sl c1 (reE (fl c1) x1_5), .sl c1 (reE (fl c1) x1_6), .sl c1 (reE (fl c1) x1_7), .sl c1 (reE (fl c1) x1_8), .bool x1_9, .sl c1 (reE (fl c1) x1_10)]] [] = some (.own (some T.impl_Change) (reE (fl fOld) (defCh [.int .i64 x0_0, .bool x0_1, .str x0_2, .str x0_3, .sl fP x0_4, .sl fP x0_5, .sl fP x0_6, .sl fP x0_7, .sl fP x0_8, .bool x0_9, .sl fP x0_10] [.int .i64 x1_0, .bool x1_1, .str x1_2, .str x1_3, .sl fP x1_4, .sl fP x1_5, .sl fP x1_6, .sl fP x1_7, .sl fP x1_8, .bool x1_9, .sl fP x1_10])), []) :=
  dd_told rfl (d_spec_DefChanges hx hy) (by
    have := reS_agg c0 [.int .i64 x0_0, .bool x0_1, .str x0_2, .str x0_3, .sl fP x0_4, .sl fP x0_5, .sl fP x0_6, .sl fP x0_7, .sl fP x0_8, .bool x0_9, .sl fP x0_10]
    have t := reS_agg c1 [.int .i64 x1_0, .bool x1_1, .str x1_2, .str x1_3, .sl fP x1_4, .sl fP x1_5, .sl fP x1_6, .sl fP x1_7, .sl fP x1_8, .bool x1_9, .sl fP x1_10]
    simp only [reL, reF] at this t
    rw [List.map_cons, List.map_cons, this, t]; rfl) rfl rfl
theorem fitsD (hx : IsDef [.int .i64 x0_0, .bool x0_1, .str x0_2, .str x0_3, .sl fP x0_4, .sl fP x0_5, .sl fP x0_6, .sl fP x0_7, .sl fP x0_8, .bool x0_9, .sl fP x0_10]) (hy : IsDef [.int .i64 x1_0, .bool x1_1, .str x1_2, .str x1_3, .sl fP x1_4, .sl fP x1_5, .sl fP x1_6, .sl fP x1_7, .sl fP x1_8, .bool x1_9, .sl fP x1_10]) (h0 : 0 ≤ szL [.int .i64 x0_0, .bool x0_1, .str x0_2, .str x0_3, .sl fP x0_4, .sl fP x0_5, .sl fP x0_6, .sl fP x0_7, .sl fP x0_8, .bool x0_9, .sl fP x0_10] 1048576) (h1 : 0 ≤ szL [.int .i64 x1_0, .bool x1_1, .str x1_2, .str x1_3, .sl fP x1_4, .sl fP x1_5, .sl fP x1_6, .sl fP x1_7, .sl fP x1_8, .bool x1_9, .sl fP x1_10] (szL [.int .i64 x0_0, .bool x0_1, .str x0_2, .str x0_3, .sl fP x0_4, .sl fP x0_5, .sl fP x0_6, .sl fP x0_7, .sl fP x0_8, .bool x0_9, .sl fP x0_10] 1048576)) : Fits x0_0 x0_1 x0_2 x0_3 x0_4 x0_5 x0_6 x0_7 x0_8 x0_9 x0_10 x1_0 x1_1 x1_2 x1_3 x1_4 x1_5 x1_6 x1_7 x1_8 x1_9 x1_10 (defCh [.int .i64 x0_0, .bool x0_1, .str x0_2, .str x0_3, .sl fP x0_4, .sl fP x0_5, .sl fP x0_6, .sl fP x0_7, .sl fP x0_8, .bool x0_9, .sl fP x0_10] [.int .i64 x1_0, .bool x1_1, .str x1_2, .str x1_3, .sl fP x1_4, .sl fP x1_5, .sl fP x1_6, .sl fP x1_7, .sl fP x1_8, .bool x1_9, .sl fP x1_10]) := by
  have hm : maxLen = 9223372036854775807 := rfl
  have t0 := szL_t [.int .i64 x0_0, .bool x0_1, .str x0_2, .str x0_3, .sl fP x0_4, .sl fP x0_5, .sl fP x0_6, .sl fP x0_7, .sl fP x0_8, .bool x0_9, .sl fP x0_10] 1048576 hx.ok (by omega) (by simp only [cap]; omega) h0
  have t1 := szL_t [.int .i64 x1_0, .bool x1_1, .str x1_2, .str x1_3, .sl fP x1_4, .sl fP x1_5, .sl fP x1_6, .sl fP x1_7, .sl fP x1_8, .bool x1_9, .sl fP x1_10] (szL [.int .i64 x0_0, .bool x0_1, .str x0_2, .str x0_3, .sl fP x0_4, .sl fP x0_5, .sl fP x0_6, .sl fP x0_7, .sl fP x0_8, .bool x0_9, .sl fP x0_10] 1048576) hy.ok h0 (by simp only [cap]; omega) h1
  have B0 := szL_bd (B := 1048576) (by simp only [cap]; omega) [.int .i64 x0_0, .bool x0_1, .str x0_2, .str x0_3, .sl fP x0_4, .sl fP x0_5, .sl fP x0_6, .sl fP x0_7, .sl fP x0_8, .bool x0_9, .sl fP x0_10] 1048576 hx.ok (by omega) (by omega) h0
  have B1 := szL_bd (B := 1048576) (by simp only [cap]; omega) [.int .i64 x1_0, .bool x1_1, .str x1_2, .str x1_3, .sl fP x1_4, .sl fP x1_5, .sl fP x1_6, .sl fP x1_7, .sl fP x1_8, .bool x1_9, .sl fP x1_10] (szL [.int .i64 x0_0, .bool x0_1, .str x0_2, .str x0_3, .sl fP x0_4, .sl fP x0_5, .sl fP x0_6, .sl fP x0_7, .sl fP x0_8, .bool x0_9, .sl fP x0_10] 1048576) hy.ok h0 (by omega) h1
  have D0 := dok0 hx B0
  have D1 := dok1 hy B1
  have l := defCh_len D0 D1 (x0_0 := x0_0) (x1_0 := x1_0) (x0_1 := x0_1) (x0_2 := x0_2) (x0_8 := x0_8) (x0_9 := x0_9) (x0_10 := x0_10) (x1_1 := x1_1) (x1_2 := x1_2) (x1_8 := x1_8) (x1_9 := x1_9) (x1_10 := x1_10)
  have k0 := msL_t [.int .i64 x0_0, .bool x0_1, .str x0_2, .str x0_3, .sl fP x0_4, .sl fP x0_5, .sl fP x0_6, .sl fP x0_7, .sl fP x0_8, .bool x0_9, .sl fP x0_10] 1 hx.ok (by omega) (by simp only [cap]; omega)
  have k1 := msL_t [.int .i64 x1_0, .bool x1_1, .str x1_2, .str x1_3, .sl fP x1_4, .sl fP x1_5, .sl fP x1_6, .sl fP x1_7, .sl fP x1_8, .bool x1_9, .sl fP x1_10] (msL [.int .i64 x0_0, .bool x0_1, .str x0_2, .str x0_3, .sl fP x0_4, .sl fP x0_5, .sl fP x0_6, .sl fP x0_7, .sl fP x0_8, .bool x0_9, .sl fP x0_10] 1) hy.ok (by omega) (by simp only [cap]; omega)
  exact { wl := by omega, wc := by simp only [cap]; omega, wq := defCh_all, spc := spd D0 D1, imp := fun c0 c1 => t_impl_DefChanges D0 D1, mn := by omega,
           to0 := tod0 hx (by omega), eq0 := eqd0 hx, mk0 := mkd0 hx, to1 := tod1 hy (by omega), eq1 := eqd1 hy, mk1 := mkd1 hy }
end
end Go.Vs
end
section
/- Leaves of a type's shape, kind by kind. -/
namespace Go.Vs
variable {m : Bool} {P : Program} {c : Fl m}
theorem sh_bool {n : Nat} {t : TypeId} {ls : List (Leaf m)} (hu : P.underlying t = some .bool) (h : Shaped P c n t ls) : ∃ b, ls = [.bool b] := by
  cases n with
  | zero => exact h.elim
  | succ n => unfold Shaped at h; simp only [hu] at h; exact h
theorem sh_int {n : Nat} {t : TypeId} {k : IntKind} {ls : List (Leaf m)} (hu : P.underlying t = some (.int k)) (h : Shaped P c n t ls) : ∃ z, ls = [.int k z] := by
  cases n with
  | zero => exact h.elim
  | succ n =>
    unfold Shaped at h
    simp only [hu] at h
    obtain ⟨z, e, _⟩ := h
    exact ⟨z, e⟩
theorem sh_str {n : Nat} {t : TypeId} {ls : List (Leaf m)} (hu : P.underlying t = some .string) (h : Shaped P c n t ls) : ∃ s : ByteArray, ls = [.str s] ∧ s.size ≤ maxLen := by
  cases n with
  | zero => exact h.elim
  | succ n => unfold Shaped at h; simp only [hu] at h; exact h
theorem sh_sl {n : Nat} {t e : TypeId} {ls : List (Leaf m)} (hu : P.underlying t = some (.slice e)) (h : Shaped P c n t ls) : ∃ k es, n = k + 1 ∧ ls = [.sl c es] ∧ es.length ≤ maxLen ∧ ∀ x ∈ es, Shaped P c k e x := by
  cases n with
  | zero => exact h.elim
  | succ n =>
    unfold Shaped at h
    simp only [hu] at h
    obtain ⟨es, e1, e2, e3⟩ := h
    exact ⟨n, es, rfl, e1, e2, e3⟩
theorem sh_struct {n : Nat} {t : TypeId} {fs : Array Field} {ts : List TypeId} {ls : List (Leaf m)} (hu : P.underlying t = some (.struct fs)) (hts : fs.toList.map Field.type = ts) (h : Shaped P c n t ls) : ∃ k, n = k + 1 ∧ Parts (Shaped P c k) ts ls := by
  subst hts
  cases n with
  | zero => exact h.elim
  | succ n =>
    unfold Shaped at h
    simp only [hu] at h
    exact ⟨n, rfl, h⟩
end Go.Vs
end
section
open Go Go.Vs Go.Proofs
set_option linter.unusedVariables false
set_option linter.unusedSimpArgs false
namespace Go.Vs
theorem isType_of {n : Nat} {ls : List (Leaf false)} (h : Shaped Tryz.prog fP n 121 ls) : IsType ls := by
  obtain ⟨k, rfl, hh⟩ := sh_struct Tryz.underlying121 (ts := [9, 9]) (by kernel_rfl) h
  simp only [Parts] at hh
  obtain ⟨a0, _, rfl, g0, a1, _, rfl, g1, rfl⟩ := hh
  obtain ⟨s0, rfl, h0⟩ := sh_str Tryz.underlying9 g0
  obtain ⟨s1, rfl, h1⟩ := sh_str Tryz.underlying9 g1
  exact .mk s0 s1 h0 h1
theorem isValue_of {n : Nat} {ls : List (Leaf false)} (h : Shaped Tryz.prog fP n 127 ls) : IsValue ls := by
  induction n using Nat.strongRecOn generalizing ls with
  | ind n ih =>
    obtain ⟨k, rfl, hh⟩ := sh_struct Tryz.underlying127 (ts := [3, 9, 125, 22]) (by kernel_rfl) h
    simp only [Parts] at hh
    obtain ⟨a0, _, rfl, g0, a1, _, rfl, g1, a2, _, rfl, g2, a3, _, rfl, g3, rfl⟩ := hh
    obtain ⟨i0, rfl⟩ := sh_int Tryz.underlying3 g0
    obtain ⟨s1, rfl, h1⟩ := sh_str Tryz.underlying9 g1
    obtain ⟨k2, e2, hk2, rfl, h2, g2⟩ := sh_sl Tryz.underlying125 g2
    have q2 : ∀ e ∈ e2, IsValue e := fun e he => ih k2 (by omega) (g2 e he)
    obtain ⟨k3, e3, hk3, rfl, h3, g3⟩ := sh_sl Tryz.underlying22 g3
    have q3 : ∀ e ∈ e3, IsStr e := fun e he => sh_str Tryz.underlying9 (g3 e he)
    exact .mk i0 s1 e2 e3 h1 h2 q2 h3 q3
theorem isArg_of {n : Nat} {ls : List (Leaf false)} (h : Shaped Tryz.prog fP n 196 ls) : IsArg ls := by
  obtain ⟨k, rfl, hh⟩ := sh_struct Tryz.underlying196 (ts := [9, 127]) (by kernel_rfl) h
  simp only [Parts] at hh
  obtain ⟨a0, _, rfl, g0, a1, _, rfl, g1, rfl⟩ := hh
  obtain ⟨s0, rfl, h0⟩ := sh_str Tryz.underlying9 g0
  obtain ⟨i1, s2, e3, e4, rfl, h2, h3, q3, h4, q4⟩ := (isValue_of g1).ex
  exact .mk s0 i1 s2 e3 e4 h0 h2 h3 q3 h4 q4
theorem isDir_of {n : Nat} {ls : List (Leaf false)} (h : Shaped Tryz.prog fP n 139 ls) : IsDir ls := by
  obtain ⟨k, rfl, hh⟩ := sh_struct Tryz.underlying139 (ts := [9, 137]) (by kernel_rfl) h
  simp only [Parts] at hh
  obtain ⟨a0, _, rfl, g0, a1, _, rfl, g1, rfl⟩ := hh
  obtain ⟨s0, rfl, h0⟩ := sh_str Tryz.underlying9 g0
  obtain ⟨k1, e1, hk1, rfl, h1, g1⟩ := sh_sl Tryz.underlying137 g1
  have q1 : ∀ e ∈ e1, IsArg e := fun e he => isArg_of (g1 e he)
  exact .mk s0 e1 h0 h1 q1
theorem isInDef_of {n : Nat} {ls : List (Leaf false)} (h : Shaped Tryz.prog fP n 129 ls) : IsInDef ls := by
  obtain ⟨k, rfl, hh⟩ := sh_struct Tryz.underlying129 (ts := [9, 9, 121, 4, 127, 27]) (by kernel_rfl) h
  simp only [Parts] at hh
  obtain ⟨a0, _, rfl, g0, a1, _, rfl, g1, a2, _, rfl, g2, a3, _, rfl, g3, a4, _, rfl, g4, a5, _, rfl, g5, rfl⟩ := hh
  obtain ⟨s0, rfl, h0⟩ := sh_str Tryz.underlying9 g0
  obtain ⟨s1, rfl, h1⟩ := sh_str Tryz.underlying9 g1
  obtain ⟨s2, s3, rfl, h2, h3⟩ := (isType_of g2).ex
  obtain ⟨b4, rfl⟩ := sh_bool Tryz.underlying4 g3
  obtain ⟨i5, s6, e7, e8, rfl, h6, h7, q7, h8, q8⟩ := (isValue_of g4).ex
  obtain ⟨k9, e9, hk9, rfl, h9, g5⟩ := sh_sl Tryz.underlying27 g5
  have q9 : ∀ e ∈ e9, IsDir e := fun e he => isDir_of (g5 e he)
  exact .mk s0 s1 s2 s3 b4 i5 s6 e7 e8 e9 h0 h1 h2 h3 h6 h7 q7 h8 q8 h9 q9
theorem isFieldDef_of {n : Nat} {ls : List (Leaf false)} (h : Shaped Tryz.prog fP n 123 ls) : IsFieldDef ls := by
  obtain ⟨k, rfl, hh⟩ := sh_struct Tryz.underlying123 (ts := [9, 9, 24, 121, 27]) (by kernel_rfl) h
  simp only [Parts] at hh
  obtain ⟨a0, _, rfl, g0, a1, _, rfl, g1, a2, _, rfl, g2, a3, _, rfl, g3, a4, _, rfl, g4, rfl⟩ := hh
  obtain ⟨s0, rfl, h0⟩ := sh_str Tryz.underlying9 g0
  obtain ⟨s1, rfl, h1⟩ := sh_str Tryz.underlying9 g1
  obtain ⟨k2, e2, hk2, rfl, h2, g2⟩ := sh_sl Tryz.underlying24 g2
  have q2 : ∀ e ∈ e2, IsInDef e := fun e he => isInDef_of (g2 e he)
  obtain ⟨s3, s4, rfl, h3, h4⟩ := (isType_of g3).ex
  obtain ⟨k5, e5, hk5, rfl, h5, g4⟩ := sh_sl Tryz.underlying27 g4
  have q5 : ∀ e ∈ e5, IsDir e := fun e he => isDir_of (g4 e he)
  exact .mk s0 s1 e2 s3 s4 e5 h0 h1 h2 q2 h3 h4 h5 q5
theorem isEnumDef_of {n : Nat} {ls : List (Leaf false)} (h : Shaped Tryz.prog fP n 132 ls) : IsEnumDef ls := by
  obtain ⟨k, rfl, hh⟩ := sh_struct Tryz.underlying132 (ts := [9, 9, 27]) (by kernel_rfl) h
  simp only [Parts] at hh
  obtain ⟨a0, _, rfl, g0, a1, _, rfl, g1, a2, _, rfl, g2, rfl⟩ := hh
  obtain ⟨s0, rfl, h0⟩ := sh_str Tryz.underlying9 g0
  obtain ⟨s1, rfl, h1⟩ := sh_str Tryz.underlying9 g1
  obtain ⟨k2, e2, hk2, rfl, h2, g2⟩ := sh_sl Tryz.underlying27 g2
  have q2 : ∀ e ∈ e2, IsDir e := fun e he => isDir_of (g2 e he)
  exact .mk s0 s1 e2 h0 h1 h2 q2
theorem isRoot_of {n : Nat} {ls : List (Leaf false)} (h : Shaped Tryz.prog fP n 135 ls) : IsRoot ls := by
  obtain ⟨k, rfl, hh⟩ := sh_struct Tryz.underlying135 (ts := [3, 9]) (by kernel_rfl) h
  simp only [Parts] at hh
  obtain ⟨a0, _, rfl, g0, a1, _, rfl, g1, rfl⟩ := hh
  obtain ⟨i0, rfl⟩ := sh_int Tryz.underlying3 g0
  obtain ⟨s1, rfl, h1⟩ := sh_str Tryz.underlying9 g1
  exact .mk i0 s1 h1
theorem isDef_of {n : Nat} {ls : List (Leaf false)} (h : Shaped Tryz.prog fP n 29 ls) : IsDef ls := by
  obtain ⟨k, rfl, hh⟩ := sh_struct Tryz.underlying29 (ts := [3, 4, 9, 9, 22, 23, 24, 25, 26, 4, 27]) (by kernel_rfl) h
  simp only [Parts] at hh
  obtain ⟨a0, _, rfl, g0, a1, _, rfl, g1, a2, _, rfl, g2, a3, _, rfl, g3, a4, _, rfl, g4, a5, _, rfl, g5, a6, _, rfl, g6, a7, _, rfl, g7, a8, _, rfl, g8, a9, _, rfl, g9, a10, _, rfl, g10, rfl⟩ := hh
  obtain ⟨i0, rfl⟩ := sh_int Tryz.underlying3 g0
  obtain ⟨b1, rfl⟩ := sh_bool Tryz.underlying4 g1
  obtain ⟨s2, rfl, h2⟩ := sh_str Tryz.underlying9 g2
  obtain ⟨s3, rfl, h3⟩ := sh_str Tryz.underlying9 g3
  obtain ⟨k4, e4, hk4, rfl, h4, g4⟩ := sh_sl Tryz.underlying22 g4
  have q4 : ∀ e ∈ e4, IsStr e := fun e he => sh_str Tryz.underlying9 (g4 e he)
  obtain ⟨k5, e5, hk5, rfl, h5, g5⟩ := sh_sl Tryz.underlying23 g5
  have q5 : ∀ e ∈ e5, IsFieldDef e := fun e he => isFieldDef_of (g5 e he)
  obtain ⟨k6, e6, hk6, rfl, h6, g6⟩ := sh_sl Tryz.underlying24 g6
  have q6 : ∀ e ∈ e6, IsInDef e := fun e he => isInDef_of (g6 e he)
  obtain ⟨k7, e7, hk7, rfl, h7, g7⟩ := sh_sl Tryz.underlying25 g7
  have q7 : ∀ e ∈ e7, IsEnumDef e := fun e he => isEnumDef_of (g7 e he)
  obtain ⟨k8, e8, hk8, rfl, h8, g8⟩ := sh_sl Tryz.underlying26 g8
  have q8 : ∀ e ∈ e8, IsRoot e := fun e he => isRoot_of (g8 e he)
  obtain ⟨b9, rfl⟩ := sh_bool Tryz.underlying4 g9
  obtain ⟨k10, e10, hk10, rfl, h10, g10⟩ := sh_sl Tryz.underlying27 g10
  have q10 : ∀ e ∈ e10, IsDir e := fun e he => isDir_of (g10 e he)
  exact .mk i0 b1 s2 s3 e4 e5 e6 e7 e8 b9 e10 h2 h3 h4 q4 h5 q5 h6 q6 h7 q7 h8 q8 h10 q10

end Go.Vs
end
