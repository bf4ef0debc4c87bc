/- What the program's functions compute, read off their text by the shadow runner (ETr, VsEr, ETz, ETy, ELi, ELj, ELk, ELp, ELf, ETf, VsShape); no condition. -/
import Derived.Laws.Strings
import Derived.Test.YthapaelfjgkahaaGreatVB7
section
open Go Go.Vs Go.Proofs
set_option linter.unusedVariables false
set_option linter.unusedSimpArgs false
namespace Go.Vs
noncomputable def mkProblem (k : Int) : List (Leaf false) := [.int .i64 (k), .str (mtx (IntKind.i64.wrap (k + 1))), .str (mtx (IntKind.i64.wrap (IntKind.i64.wrap (k + 1) + 1)))]
def nextProblem (k : Int) : Int := IntKind.i64.wrap (IntKind.i64.wrap (IntKind.i64.wrap (k + 1) + 1) + 1)
noncomputable def rowProblem : Nat → Int → List (List (Leaf false))
  | 0, _ => []
  | n + 1, k => mkProblem k :: rowProblem n (nextProblem k)
def endProblem : Nat → Int → Int
  | 0, k => k
  | n + 1, k => endProblem n (nextProblem k)
theorem endProblem_succ : ∀ (n : Nat) (k : Int), endProblem (n + 1) k = nextProblem (endProblem n k)
  | 0, _ => rfl
  | n + 1, k => endProblem_succ n (nextProblem k)
theorem rowProblem_length : ∀ (n : Nat) (k : Int), (rowProblem n k).length = n
  | 0, _ => rfl
  | n + 1, k => by rw [rowProblem, List.length_cons, rowProblem_length n]
theorem rowProblem_all : ∀ (n : Nat) (k : Int), ∀ e ∈ rowProblem n k, e.length = 3
  | 0, _, e, h => by simp [rowProblem] at h
  | n + 1, k, e, h => by
    rcases List.mem_cons.1 h with rfl | h
    · rfl
    · exact rowProblem_all n _ e h
theorem rowProblem_get : ∀ (n : Nat) (k : Int) (i : Nat) (h : i < (rowProblem n k).length), (rowProblem n k)[i] = mkProblem (endProblem i k)
  | 0, _, i, h => by simp [rowProblem] at h
  | n + 1, k, 0, h => rfl
  | n + 1, k, i + 1, h => rowProblem_get n (nextProblem k) i (by simpa [rowProblem] using h)
theorem laws_markProblemS_from {n : Nat} {k : Int} (hl : n ≤ maxLen) : ∀ i : Nat, i ≤ n → ∀ z : List (SV false), z.all SV.flat = true → (n - i) * 3 ≤ z.length →
    laws_markProblemS_r0_A Dn (laws_markProblemS_r0_0 n (endProblem i k) i (rowAt (rowProblem n k) i z)) = some (vint (endProblem n k), [rowAt (rowProblem n k) n (z.drop ((n - i) * 3))]) := by
  have hN := rowProblem_length n k
  have hall := rowProblem_all n k
  refine upto_ind ?_ ?_
  · intro z hz hzl
    rw [laws_markProblemS_r0_0_eq]
    have hf := rowAt_flat (l := rowProblem n k) (i := n) hz
    simp [hf]
  · intro i hi ih z hz hzl
    have hlen := rowAt_len (z := z) hall (i := i) (by omega)
    have hp := putAt_row (z := z) hall (i := i) (by omega)
    rw [rowProblem_get] at hp
    simp only [mkProblem, List.map_cons, List.map_nil] at hp
    have hd : (n - i) * 3 = (n - (i + 1)) * 3 + 3 := by rw [← Nat.succ_mul]; congr 1; omega
    rw [laws_markProblemS_r0_0_eq]
    simp only [Int.ofNat_lt, hi, decide_true, branch_true, Int.natCast_nonneg, Bool.and_true, guarded_true, wrap_upL (Nat.lt_of_lt_of_le hi hl), List.getElem_toArray, List.getElem_cons_zero, List.getElem_cons_succ, Nat.zero_add, Nat.add_zero, Int.toNat_natCast, d_markText, Option.bind_some, svLeafK_leaf, strK_str]
    have b0 : i * 3 + 1 ≤ (rowAt (rowProblem n k) i z).length := by rw [hlen]; omega
    simp only [b0, decide_true, guarded_true]
    have b1 : ∀ l : List (SV false), l.length = 1 → i * 3 + 1 + 1 ≤ (putAt (rowAt (rowProblem n k) i z) (i * 3) l).length := fun l hl0 => by rw [putAt_length (by rw [hl0, hlen]; omega), hlen]; omega
    have j1 : ∀ (l : List (SV false)) (x : SV false), l.length = 1 → putAt (putAt (rowAt (rowProblem n k) i z) (i * 3) l) (i * 3 + 1) [x] = putAt (rowAt (rowProblem n k) i z) (i * 3) (l ++ [x]) := fun l x hl0 => putAt_two (by rw [hl0]) (by rw [hl0, hlen]; simp; omega)
    have b2 : ∀ l : List (SV false), l.length = 2 → i * 3 + 2 + 1 ≤ (putAt (rowAt (rowProblem n k) i z) (i * 3) l).length := fun l hl0 => by rw [putAt_length (by rw [hl0, hlen]; omega), hlen]; omega
    have j2 : ∀ (l : List (SV false)) (x : SV false), l.length = 2 → putAt (putAt (rowAt (rowProblem n k) i z) (i * 3) l) (i * 3 + 2) [x] = putAt (rowAt (rowProblem n k) i z) (i * 3) (l ++ [x]) := fun l x hl0 => putAt_two (by rw [hl0]) (by rw [hl0, hlen]; simp; omega)
    rw [decide_eq_true (b1 _ rfl), guarded_true, j1 _ _ rfl]
    simp only [List.cons_append, List.nil_append]
    rw [decide_eq_true (b2 _ rfl), guarded_true, j2 _ _ rfl]
    simp only [List.cons_append, List.nil_append]
    rw [hp]
    have hz2 : (z.drop 3).all SV.flat = true := List.all_eq_true.2 fun x hx => List.all_eq_true.1 hz x (List.mem_of_mem_drop hx)
    have := ih (z.drop 3) hz2 (by rw [List.length_drop]; omega)
    rw [endProblem_succ] at this
    simp only [nextProblem] at this
    rw [this, List.drop_drop, hd, Nat.add_comm 3]
theorem d_laws_markProblemS_r {n : Nat} {k : Int} (hl : n ≤ maxLen) {z : List (SV false)} (hz : z.all SV.flat = true) (hzl : n * 3 ≤ z.length) :
    Dn F.laws_markProblemS [.bsl 0 3 0 n, vint k] [z] = some (vint (endProblem n k), [rowAt (rowProblem n k) n (z.drop (n * 3))]) := by
  apply den_of
  rw [run_laws_markProblemS_r0]
  have := laws_markProblemS_from (n := n) (k := k) hl 0 (Nat.zero_le _) z hz (by simpa using hzl)
  simpa [rowAt, endProblem] using this
theorem laws_heldProblemS_from {n : Nat} {k : Int} (hl : n ≤ maxLen) {z : List (SV false)} (hz : z.all SV.flat = true) : ∀ i : Nat, i ≤ n →
    laws_heldProblemS_r0_A Dn (laws_heldProblemS_r0_0 n (endProblem i k) i (rowAt (rowProblem n k) n z)) = some (vint (endProblem n k), [rowAt (rowProblem n k) n z]) := by
  have hN := rowProblem_length n k
  have hall := rowProblem_all n k
  have hf := rowAt_flat (l := rowProblem n k) (i := n) hz
  refine upto_ind ?_ ?_
  · rw [laws_heldProblemS_r0_0_eq]
    simp [hf]
  · intro i hi ih
    have hi' : i < (rowProblem n k).length := by omega
    rw [endProblem_succ] at ih
    simp only [nextProblem] at ih
    rw [laws_heldProblemS_r0_0_eq]
    simp only [Int.ofNat_lt, hi, decide_true, branch_true, Int.natCast_nonneg, Bool.and_true, guarded_true, wrap_upL (Nat.lt_of_lt_of_le hi hl), List.getElem_toArray, List.getElem_cons_zero, List.getElem_cons_succ, Nat.zero_add, Nat.add_zero, Int.toNat_natCast, d_markText, Option.bind_some, svLeafK_leaf, strK_str]
    have get : ∀ (o p : Nat) (ho : o < 3) (hp : p = i * 3 + o) (kk : SV false → Res), atSV (rowAt (rowProblem n k) n z) p kk = kk (.leaf ((mkProblem (endProblem i k))[o]'ho)) := fun o p ho hp kk => by
      have := atSV_row (r := z) hall hi' ho hp kk
      rw [hN] at this
      rw [this]
      simp only [rowProblem_get]
      try rfl
    rw [get 0 _ (by omega) (by omega)]
    simp only [mkProblem, List.getElem_cons_zero, List.getElem_cons_succ, SV.drop, svLeafK_leaf, intK_int, strK_str, bne_self_eq_false, beq_self_eq_true, Bool.not_true, branch_false]
    rw [get 1 _ (by omega) (by omega)]
    simp only [mkProblem, List.getElem_cons_zero, List.getElem_cons_succ, SV.drop, svLeafK_leaf, intK_int, strK_str, bne_self_eq_false, beq_self_eq_true, Bool.not_true, branch_false]
    rw [get 2 _ (by omega) (by omega)]
    simp only [mkProblem, List.getElem_cons_zero, List.getElem_cons_succ, SV.drop, svLeafK_leaf, intK_int, strK_str, bne_self_eq_false, beq_self_eq_true, Bool.not_true, branch_false]
    exact ih
theorem d_laws_heldProblemS_r {n : Nat} {k : Int} (hl : n ≤ maxLen) {z : List (SV false)} (hz : z.all SV.flat = true) :
    Dn F.laws_heldProblemS [.bsl 0 3 0 n, vint k] [rowAt (rowProblem n k) n z] = some (vint (endProblem n k), [rowAt (rowProblem n k) n z]) := by
  apply den_of
  rw [run_laws_heldProblemS_r0]
  have := laws_heldProblemS_from (n := n) (k := k) hl hz 0 (Nat.zero_le _)
  simpa [endProblem] using this
theorem d_laws_markProblemS_nil (k : Int) : Dn F.laws_markProblemS [vsl [], vint k] [] = some (vint k, []) := by
  apply den_of
  rw [run_laws_markProblemS, laws_markProblemS_0_eq]
  simp
theorem d_laws_heldProblemS_nil (k : Int) : Dn F.laws_heldProblemS [vsl [], vint k] [] = some (vint k, []) := by
  apply den_of
  rw [run_laws_heldProblemS, laws_heldProblemS_0_eq]
  simp

end Go.Vs
end
section
/- Flags that are had anew and dropped again. -/
namespace Go.Vs
mutual
theorem reF_er (c : Fl true) : ∀ l : Leaf false, reF er (reF (fl c) l) = l
  | .sl _ es => by rw [reF, reF, reE_er c es]; cases ‹Fl false›; rfl
  | .bool _ | .int _ _ | .str _ | .unk | .nl _ => by simp [reF]
theorem reL_er (c : Fl true) : ∀ l : List (Leaf false), reL er (reL (fl c) l) = l
  | [] => by rw [reL, reL]
  | l :: r => by rw [reL, reL, reF_er c l, reL_er c r]
theorem reE_er (c : Fl true) : ∀ l : List (List (Leaf false)), reE er (reE (fl c) l) = l
  | [] => by rw [reE, reE]
  | l :: r => by rw [reE, reE, reL_er c l, reE_er c r]
end
theorem reE_append {m m' : Bool} {φ : Fl m → Fl m'} (a b : List (List (Leaf m))) : reE φ (a ++ b) = reE φ a ++ reE φ b := by rw [reE_map, reE_map, reE_map, List.map_append]
theorem reS_sl (c : Fl true) (es : List (List (Leaf false))) : reS er (.leaf (.sl c (reE (fl c) es))) = vsl es := by
  simp only [reS, reF, reE_er]
theorem reS_agg (c : Fl true) (ls : List (Leaf false)) : reS er (.agg (reL (fl c) ls)) = .agg ls := by
  simp only [reS, reL_er]
end Go.Vs
end
section
open Go Go.Vs Go.Proofs
set_option linter.unusedVariables false
set_option linter.unusedSimpArgs false
set_option maxRecDepth 100000
namespace Go.Vs
theorem hP : Tryz.prog.follows .mixedOrders = true := by kernel_rfl
theorem hG : Tryz.prog.funcs.all (fun fn => !(fn.name == "runtime.NumGoroutine")) = true := by kernel_rfl
theorem dn_sound : DSound Tryz.prog Dn := den_sound hP hG tsound_none Hs
theorem dd_sound : DSound Tryz.prog Dd := den_sound hP hG (liftT_sound dn_sound keep) Hs
section
variable {c : Fl true}
theorem reS_er_li {x : SV false} (h : x.flat = true) : reS er (reS li x) = x := by
  have e : ∀ es : List (List (Leaf false)), reE er (reE li es) = es := fun es => reE_er fOld es
  cases x <;> simp [SV.flat] at h <;> simp only [reS]
  · rw [show reF er (reF li _) = _ from reF_er fOld _]
  · rw [e]
  · rw [show reL er (reL li _) = _ from reL_er fOld _]
theorem map_er_li : ∀ {l : List (SV false)}, l.all SV.flat = true → (l.map (reS li)).map (reS er) = l
  | [], _ => rfl
  | x :: l, h => by
    rw [List.all_cons, Bool.and_eq_true] at h
    rw [List.map_cons, List.map_cons, reS_er_li h.1, map_er_li h.2]
theorem map_flat {l : List (SV false)} (h : l.all SV.flat = true) : (l.map (reS li)).all SV.flat = true := by
  rw [List.all_map]
  exact List.all_eq_true.2 fun x hx => reS_flat x (List.all_eq_true.1 h x hx)
/-- A row that has been marked. -/
noncomputable def marked (n k : Nat) : List (SV false) := rowAt (rowProblem n 1) n ((List.replicate k SV.any).drop (n * 3))
theorem any_flat (k : Nat) : (List.replicate k (SV.any (m := false))).all SV.flat = true := by
  rw [List.all_eq_true]; intro x hx; rw [List.eq_of_mem_replicate hx]; rfl
theorem drop_flat {l : List (SV false)} (h : l.all SV.flat = true) (n : Nat) : (l.drop n).all SV.flat = true :=
  List.all_eq_true.2 fun x hx => List.all_eq_true.1 h x (List.mem_of_mem_drop hx)
theorem marked_flat (n k : Nat) : (marked n k).all SV.flat = true := rowAt_flat (drop_flat (any_flat k) _)
theorem t_markProblemS_r {n k : Nat} (hl : n ≤ maxLen) (hk : n * 3 ≤ k) : Dd F.laws_markProblemS [.bsl 0 3 0 n, .leaf (.int .i64 1)] [List.replicate k .any] = some (.leaf (.int .i64 (endProblem n 1)), [(marked n k).map (reS li)]) :=
  dd_told rfl (d_laws_markProblemS_r (k := 1) hl (any_flat k) (by rw [List.length_replicate]; exact hk)) rfl (by rw [List.map_cons, List.map_replicate]; rfl) rfl
theorem t_heldProblemS_r {n k : Nat} (hl : n ≤ maxLen) : Dd F.laws_heldProblemS [.bsl 0 3 0 n, .leaf (.int .i64 1)] [(marked n k).map (reS li)] = some (.leaf (.int .i64 (endProblem n 1)), [(marked n k).map (reS li)]) :=
  dd_told rfl (d_laws_heldProblemS_r (k := 1) hl (drop_flat (any_flat k) _)) rfl (by rw [List.map_cons, map_er_li (marked_flat n k)]; rfl) rfl
theorem endProblem_le : ∀ (n : Nat) (k : Int), 0 ≤ k → k + 3 * n ≤ cap → 0 ≤ endProblem n k
  | 0, k, h, _ => h
  | n + 1, k, h, hc => by
    rw [endProblem]
    have e : nextProblem k = k + 3 := by
      unfold nextProblem
      simp only [cap] at hc
      rw [wrap64 (z := k + 1) (by omega) (by omega), wrap64 (z := k + 1 + 1) (by omega) (by omega), wrap64 (z := k + 1 + 1 + 1) (by omega) (by omega)]; omega
    rw [e]
    exact endProblem_le n _ (by omega) (by omega)
end
end Go.Vs
end
section
open Go Go.Vs Go.Proofs
set_option linter.unusedVariables false
set_option linter.unusedSimpArgs false
set_option maxRecDepth 100000
namespace Go.Vs
noncomputable abbrev body : Code := bodyOf Tryz.prog F.laws_FnExactFaceProblems
theorem hc0 : (fnOf Tryz.prog F.laws_FnExactFaceProblems).body = some body := by kernel_rfl
theorem hfn : Tryz.prog.funcs[F.laws_FnExactFaceProblems]? = some (fnOf Tryz.prog F.laws_FnExactFaceProblems) := by kernel_rfl
theorem spA : spine (0 + (6 + 1)) body = true := by kernel_rfl
theorem spB : spine (7 + (1 + 1)) body = true := by kernel_rfl
theorem spC : spine (9 + (3 + 1)) body = true := by kernel_rfl
theorem spD : spine (13 + (3 + 1)) body = true := by kernel_rfl
theorem nlD : noLoop (sub body (way 17)) = true := by kernel_rfl
/-- What the functions answer at these arguments. -/
structure Fits (x0_0 : List (List (Leaf false))) (x0_1 : List (List (Leaf false))) (x0_2 : List (List (Leaf false))) (x1_0 : Int) (x1_1 : Bool) (x1_2 : ByteArray) (x1_3 : ByteArray) (x1_4 : List (List (Leaf false))) (x1_5 : List (List (Leaf false))) (x1_6 : List (List (Leaf false))) (x1_7 : List (List (Leaf false))) (x1_8 : List (List (Leaf false))) (x1_9 : Bool) (x1_10 : List (List (Leaf false))) (w : List (List (Leaf false))) : Prop where
  wl : w.length ≤ maxLen
  wc : (w.length : Int) * 3 + 1 ≤ cap
  wq : ∀ e ∈ w, IsProblem e
  spc : ∀ c0 c1 : Fl true, Dd F.spec_FaceProblems [.agg [.sl c0 (reE (fl c0) x0_0), .sl c0 (reE (fl c0) x0_1), .sl c0 (reE (fl c0) x0_2)], .agg [.int .i64 x1_0, .bool x1_1, .str x1_2, .str x1_3, .sl c1 (reE (fl c1) x1_4), .sl c1 (reE (fl c1) x1_5), .sl c1 (reE (fl c1) x1_6), .sl c1 (reE (fl c1) x1_7), .sl c1 (reE (fl c1) x1_8), .bool x1_9, .sl c1 (reE (fl c1) x1_10)]] [] = some (.own (some T.impl_Problem) (reE (fl fOld) w), [])
  imp : ∀ c0 c1 : Fl true, Dd F.impl_FaceProblems [.agg [.sl c0 (reE (fl c0) x0_0), .sl c0 (reE (fl c0) x0_1), .sl c0 (reE (fl c0) x0_2)], .agg [.int .i64 x1_0, .bool x1_1, .str x1_2, .str x1_3, .sl c1 (reE (fl c1) x1_4), .sl c1 (reE (fl c1) x1_5), .sl c1 (reE (fl c1) x1_6), .sl c1 (reE (fl c1) x1_7), .sl c1 (reE (fl c1) x1_8), .bool x1_9, .sl c1 (reE (fl c1) x1_10)]] [] = some (.own (some T.impl_Problem) (reE (fl fNew) w), [])
  mn : ¬ msL [.int .i64 x1_0, .bool x1_1, .str x1_2, .str x1_3, .sl fP x1_4, .sl fP x1_5, .sl fP x1_6, .sl fP x1_7, .sl fP x1_8, .bool x1_9, .sl fP x1_10] (msL [.sl fP x0_0, .sl fP x0_1, .sl fP x0_2] (1)) < 0
  to0 : ∀ c : Fl true, Dd F.laws_toSchema [.agg [.sl c (reE (fl c) x0_0), .sl c (reE (fl c) x0_1), .sl c (reE (fl c) x0_2)]] [] = some (.agg [.sl fNew (reE (fl fNew) x0_0), .sl fNew (reE (fl fNew) x0_1), .sl fNew (reE (fl fNew) x0_2)], [])
  eq0 : ∀ c c' : Fl true, Dd F.laws_eqSchema [.agg [.sl c (reE (fl c) x0_0), .sl c (reE (fl c) x0_1), .sl c (reE (fl c) x0_2)], .agg [.sl c' (reE (fl c') x0_0), .sl c' (reE (fl c') x0_1), .sl c' (reE (fl c') x0_2)]] [] = some (.leaf (.bool true), [])
  mk0 : ∀ k : Int, Dd F.laws_markSchema [.agg [.sl fSoft (soE x0_0), .sl fSoft (soE x0_1), .sl fSoft (soE x0_2)], .leaf (.int .i64 k)] [] = some (.leaf (.int .i64 (msL [.sl fP x0_0, .sl fP x0_1, .sl fP x0_2] (k))), [])
  to1 : ∀ c : Fl true, Dd F.laws_toDef [.agg [.int .i64 x1_0, .bool x1_1, .str x1_2, .str x1_3, .sl c (reE (fl c) x1_4), .sl c (reE (fl c) x1_5), .sl c (reE (fl c) x1_6), .sl c (reE (fl c) x1_7), .sl c (reE (fl c) x1_8), .bool x1_9, .sl c (reE (fl c) x1_10)]] [] = some (.agg [.int .i64 x1_0, .bool x1_1, .str x1_2, .str x1_3, .sl fNew (reE (fl fNew) x1_4), .sl fNew (reE (fl fNew) x1_5), .sl fNew (reE (fl fNew) x1_6), .sl fNew (reE (fl fNew) x1_7), .sl fNew (reE (fl fNew) x1_8), .bool x1_9, .sl fNew (reE (fl fNew) x1_10)], [])
  eq1 : ∀ c c' : Fl true, Dd F.laws_eqDef [.agg [.int .i64 x1_0, .bool x1_1, .str x1_2, .str x1_3, .sl c (reE (fl c) x1_4), .sl c (reE (fl c) x1_5), .sl c (reE (fl c) x1_6), .sl c (reE (fl c) x1_7), .sl c (reE (fl c) x1_8), .bool x1_9, .sl c (reE (fl c) x1_10)], .agg [.int .i64 x1_0, .bool x1_1, .str x1_2, .str x1_3, .sl c' (reE (fl c') x1_4), .sl c' (reE (fl c') x1_5), .sl c' (reE (fl c') x1_6), .sl c' (reE (fl c') x1_7), .sl c' (reE (fl c') x1_8), .bool x1_9, .sl c' (reE (fl c') x1_10)]] [] = some (.leaf (.bool true), [])
  mk1 : ∀ k : Int, Dd F.laws_markDef [.agg [.int .i64 x1_0, .bool x1_1, .str x1_2, .str x1_3, .sl fSoft (soE x1_4), .sl fSoft (soE x1_5), .sl fSoft (soE x1_6), .sl fSoft (soE x1_7), .sl fSoft (soE x1_8), .bool x1_9, .sl fSoft (soE x1_10)], .leaf (.int .i64 k)] [] = some (.leaf (.int .i64 (msL [.int .i64 x1_0, .bool x1_1, .str x1_2, .str x1_3, .sl fP x1_4, .sl fP x1_5, .sl fP x1_6, .sl fP x1_7, .sl fP x1_8, .bool x1_9, .sl fP x1_10] (k))), [])
section
variable {x0_0 : List (List (Leaf false))} {x0_1 : List (List (Leaf false))} {x0_2 : List (List (Leaf false))} {x1_0 : Int} {x1_1 : Bool} {x1_2 : ByteArray} {x1_3 : ByteArray} {x1_4 : List (List (Leaf false))} {x1_5 : List (List (Leaf false))} {x1_6 : List (List (Leaf false))} {x1_7 : List (List (Leaf false))} {x1_8 : List (List (Leaf false))} {x1_9 : Bool} {x1_10 : List (List (Leaf false))} {w : List (List (Leaf false))}
theorem Fits.eqw (h : Fits x0_0 x0_1 x0_2 x1_0 x1_1 x1_2 x1_3 x1_4 x1_5 x1_6 x1_7 x1_8 x1_9 x1_10 w) (c c' : Fl true) : Dd F.laws_eqProblemS [.leaf (.sl c (reE (fl c) w)), .leaf (.sl c' (reE (fl c') w))] [] = some (.leaf (.bool true), []) :=
  dd_told rfl (d_laws_eqProblemS h.wl h.wq) (by rw [List.map_cons, List.map_cons, reS_sl, reS_sl]; rfl) rfl rfl
theorem turn1_eq : Vs.turn φ1 (fun _ => false) [] ({ tmps := ((((laws_FnExactFaceProblems_s1 tQ fOld (reE (fl fOld) x0_0) fOld (reE (fl fOld) x0_1) fOld (reE (fl fOld) x0_2) tQ x1_0 x1_1 x1_2 x1_3 fOld (reE (fl fOld) x1_4) fOld (reE (fl fOld) x1_5) fOld (reE (fl fOld) x1_6) fOld (reE (fl fOld) x1_7) fOld (reE (fl fOld) x1_8) x1_9 fOld (reE (fl fOld) x1_10) fOld (reE (fl fOld) w)).tmps.set 2 (.ptr 2 0)).set 3 (.ptr 3 0)).set 6 (.own (some T.impl_Problem) (reE (fl fOld) w))), boxes := (((laws_FnExactFaceProblems_s1 tQ fOld (reE (fl fOld) x0_0) fOld (reE (fl fOld) x0_1) fOld (reE (fl fOld) x0_2) tQ x1_0 x1_1 x1_2 x1_3 fOld (reE (fl fOld) x1_4) fOld (reE (fl fOld) x1_5) fOld (reE (fl fOld) x1_6) fOld (reE (fl fOld) x1_7) fOld (reE (fl fOld) x1_8) x1_9 fOld (reE (fl fOld) x1_10) fOld (reE (fl fOld) w)).boxes.set 2 (some [.leaf (.sl fOld (reE (fl fOld) x0_0)), .leaf (.sl fOld (reE (fl fOld) x0_1)), .leaf (.sl fOld (reE (fl fOld) x0_2))])).set 3 (some [.leaf (.int .i64 x1_0), .leaf (.bool x1_1), .leaf (.str x1_2), .leaf (.str x1_3), .leaf (.sl fOld (reE (fl fOld) x1_4)), .leaf (.sl fOld (reE (fl fOld) x1_5)), .leaf (.sl fOld (reE (fl fOld) x1_6)), .leaf (.sl fOld (reE (fl fOld) x1_7)), .leaf (.sl fOld (reE (fl fOld) x1_8)), .leaf (.bool x1_9), .leaf (.sl fOld (reE (fl fOld) x1_10))])) } : St true) = laws_FnExactFaceProblems_s1 tQ (φ1 fOld) (tuE φ1 (fun _ => false) false (reE (fl fOld) x0_0)) (φ1 fOld) (tuE φ1 (fun _ => false) false (reE (fl fOld) x0_1)) (φ1 fOld) (tuE φ1 (fun _ => false) false (reE (fl fOld) x0_2)) tQ x1_0 x1_1 x1_2 x1_3 (φ1 fOld) (tuE φ1 (fun _ => false) false (reE (fl fOld) x1_4)) (φ1 fOld) (tuE φ1 (fun _ => false) false (reE (fl fOld) x1_5)) (φ1 fOld) (tuE φ1 (fun _ => false) false (reE (fl fOld) x1_6)) (φ1 fOld) (tuE φ1 (fun _ => false) false (reE (fl fOld) x1_7)) (φ1 fOld) (tuE φ1 (fun _ => false) false (reE (fl fOld) x1_8)) x1_9 (φ1 fOld) (tuE φ1 (fun _ => false) false (reE (fl fOld) x1_10)) (φ1 fNew) (tuE φ1 (fun _ => false) false (reE (fl fOld) w)) := by
  kernel_rfl
theorem turn2_eq : Vs.turn φ2 (fun _ => false) [] ({ tmps := (((laws_FnExactFaceProblems_s2 tQ tA (reE (fl tA) x0_0) tA (reE (fl tA) x0_1) tA (reE (fl tA) x0_2) tQ x1_0 x1_1 x1_2 x1_3 tA (reE (fl tA) x1_4) tA (reE (fl tA) x1_5) tA (reE (fl tA) x1_6) tA (reE (fl tA) x1_7) tA (reE (fl tA) x1_8) x1_9 tA (reE (fl tA) x1_10) tA (reE (fl tA) w) tQ fNew (reE (fl fNew) x0_0) fNew (reE (fl fNew) x0_1) fNew (reE (fl fNew) x0_2) tQ x1_0 x1_1 x1_2 x1_3 fNew (reE (fl fNew) x1_4) fNew (reE (fl fNew) x1_5) fNew (reE (fl fNew) x1_6) fNew (reE (fl fNew) x1_7) fNew (reE (fl fNew) x1_8) x1_9 fNew (reE (fl fNew) x1_10)).tmps.set 7 (.ptr 7 0)).set 8 (.ptr 8 0)), boxes := (((laws_FnExactFaceProblems_s2 tQ tA (reE (fl tA) x0_0) tA (reE (fl tA) x0_1) tA (reE (fl tA) x0_2) tQ x1_0 x1_1 x1_2 x1_3 tA (reE (fl tA) x1_4) tA (reE (fl tA) x1_5) tA (reE (fl tA) x1_6) tA (reE (fl tA) x1_7) tA (reE (fl tA) x1_8) x1_9 tA (reE (fl tA) x1_10) tA (reE (fl tA) w) tQ fNew (reE (fl fNew) x0_0) fNew (reE (fl fNew) x0_1) fNew (reE (fl fNew) x0_2) tQ x1_0 x1_1 x1_2 x1_3 fNew (reE (fl fNew) x1_4) fNew (reE (fl fNew) x1_5) fNew (reE (fl fNew) x1_6) fNew (reE (fl fNew) x1_7) fNew (reE (fl fNew) x1_8) x1_9 fNew (reE (fl fNew) x1_10)).boxes.set 7 (some [.leaf (.sl fNew (reE (fl fNew) x0_0)), .leaf (.sl fNew (reE (fl fNew) x0_1)), .leaf (.sl fNew (reE (fl fNew) x0_2))])).set 8 (some [.leaf (.int .i64 x1_0), .leaf (.bool x1_1), .leaf (.str x1_2), .leaf (.str x1_3), .leaf (.sl fNew (reE (fl fNew) x1_4)), .leaf (.sl fNew (reE (fl fNew) x1_5)), .leaf (.sl fNew (reE (fl fNew) x1_6)), .leaf (.sl fNew (reE (fl fNew) x1_7)), .leaf (.sl fNew (reE (fl fNew) x1_8)), .leaf (.bool x1_9), .leaf (.sl fNew (reE (fl fNew) x1_10))])) } : St true) = laws_FnExactFaceProblems_s2 tQ (φ2 tA) (tuE φ2 (fun _ => false) false (reE (fl tA) x0_0)) (φ2 tA) (tuE φ2 (fun _ => false) false (reE (fl tA) x0_1)) (φ2 tA) (tuE φ2 (fun _ => false) false (reE (fl tA) x0_2)) tQ x1_0 x1_1 x1_2 x1_3 (φ2 tA) (tuE φ2 (fun _ => false) false (reE (fl tA) x1_4)) (φ2 tA) (tuE φ2 (fun _ => false) false (reE (fl tA) x1_5)) (φ2 tA) (tuE φ2 (fun _ => false) false (reE (fl tA) x1_6)) (φ2 tA) (tuE φ2 (fun _ => false) false (reE (fl tA) x1_7)) (φ2 tA) (tuE φ2 (fun _ => false) false (reE (fl tA) x1_8)) x1_9 (φ2 tA) (tuE φ2 (fun _ => false) false (reE (fl tA) x1_10)) (φ2 tA) (tuE φ2 (fun _ => false) false (reE (fl tA) w)) tQ (φ2 fNew) (tuE φ2 (fun _ => false) false (reE (fl fNew) x0_0)) (φ2 fNew) (tuE φ2 (fun _ => false) false (reE (fl fNew) x0_1)) (φ2 fNew) (tuE φ2 (fun _ => false) false (reE (fl fNew) x0_2)) tQ x1_0 x1_1 x1_2 x1_3 (φ2 fNew) (tuE φ2 (fun _ => false) false (reE (fl fNew) x1_4)) (φ2 fNew) (tuE φ2 (fun _ => false) false (reE (fl fNew) x1_5)) (φ2 fNew) (tuE φ2 (fun _ => false) false (reE (fl fNew) x1_6)) (φ2 fNew) (tuE φ2 (fun _ => false) false (reE (fl fNew) x1_7)) (φ2 fNew) (tuE φ2 (fun _ => false) false (reE (fl fNew) x1_8)) x1_9 (φ2 fNew) (tuE φ2 (fun _ => false) false (reE (fl fNew) x1_10)) := by
  kernel_rfl
theorem turn3_eq : Vs.turn φ3 σ3 [] ({ tmps := (laws_FnExactFaceProblems_s3 tQ tA (reE (fl tA) x0_0) tA (reE (fl tA) x0_1) tA (reE (fl tA) x0_2) tQ x1_0 x1_1 x1_2 x1_3 tA (reE (fl tA) x1_4) tA (reE (fl tA) x1_5) tA (reE (fl tA) x1_6) tA (reE (fl tA) x1_7) tA (reE (fl tA) x1_8) x1_9 tA (reE (fl tA) x1_10) tA (reE (fl tA) w) tQ tX (reE (fl tX) x0_0) tX (reE (fl tX) x0_1) tX (reE (fl tX) x0_2) tQ x1_0 x1_1 x1_2 x1_3 tX (reE (fl tX) x1_4) tX (reE (fl tX) x1_5) tX (reE (fl tX) x1_6) tX (reE (fl tX) x1_7) tX (reE (fl tX) x1_8) x1_9 tX (reE (fl tX) x1_10) fNew (reE (fl fNew) w)).tmps.set 9 (.own (some T.impl_Problem) (reE (fl fNew) w)), boxes := (laws_FnExactFaceProblems_s3 tQ tA (reE (fl tA) x0_0) tA (reE (fl tA) x0_1) tA (reE (fl tA) x0_2) tQ x1_0 x1_1 x1_2 x1_3 tA (reE (fl tA) x1_4) tA (reE (fl tA) x1_5) tA (reE (fl tA) x1_6) tA (reE (fl tA) x1_7) tA (reE (fl tA) x1_8) x1_9 tA (reE (fl tA) x1_10) tA (reE (fl tA) w) tQ tX (reE (fl tX) x0_0) tX (reE (fl tX) x0_1) tX (reE (fl tX) x0_2) tQ x1_0 x1_1 x1_2 x1_3 tX (reE (fl tX) x1_4) tX (reE (fl tX) x1_5) tX (reE (fl tX) x1_6) tX (reE (fl tX) x1_7) tX (reE (fl tX) x1_8) x1_9 tX (reE (fl tX) x1_10) fNew (reE (fl fNew) w)).boxes } : St true) = laws_FnExactFaceProblems_s3 tQ (if σ3 tA then fSoft else φ3 tA) (tuE φ3 σ3 (σ3 tA) (reE (fl tA) x0_0)) (if σ3 tA then fSoft else φ3 tA) (tuE φ3 σ3 (σ3 tA) (reE (fl tA) x0_1)) (if σ3 tA then fSoft else φ3 tA) (tuE φ3 σ3 (σ3 tA) (reE (fl tA) x0_2)) tQ x1_0 x1_1 x1_2 x1_3 (if σ3 tA then fSoft else φ3 tA) (tuE φ3 σ3 (σ3 tA) (reE (fl tA) x1_4)) (if σ3 tA then fSoft else φ3 tA) (tuE φ3 σ3 (σ3 tA) (reE (fl tA) x1_5)) (if σ3 tA then fSoft else φ3 tA) (tuE φ3 σ3 (σ3 tA) (reE (fl tA) x1_6)) (if σ3 tA then fSoft else φ3 tA) (tuE φ3 σ3 (σ3 tA) (reE (fl tA) x1_7)) (if σ3 tA then fSoft else φ3 tA) (tuE φ3 σ3 (σ3 tA) (reE (fl tA) x1_8)) x1_9 (if σ3 tA then fSoft else φ3 tA) (tuE φ3 σ3 (σ3 tA) (reE (fl tA) x1_10)) (if σ3 tA then fSoft else φ3 tA) (tuE φ3 σ3 (σ3 tA) (reE (fl tA) w)) tQ (if σ3 tX then fSoft else φ3 tX) (tuE φ3 σ3 (σ3 tX) (reE (fl tX) x0_0)) (if σ3 tX then fSoft else φ3 tX) (tuE φ3 σ3 (σ3 tX) (reE (fl tX) x0_1)) (if σ3 tX then fSoft else φ3 tX) (tuE φ3 σ3 (σ3 tX) (reE (fl tX) x0_2)) tQ x1_0 x1_1 x1_2 x1_3 (if σ3 tX then fSoft else φ3 tX) (tuE φ3 σ3 (σ3 tX) (reE (fl tX) x1_4)) (if σ3 tX then fSoft else φ3 tX) (tuE φ3 σ3 (σ3 tX) (reE (fl tX) x1_5)) (if σ3 tX then fSoft else φ3 tX) (tuE φ3 σ3 (σ3 tX) (reE (fl tX) x1_6)) (if σ3 tX then fSoft else φ3 tX) (tuE φ3 σ3 (σ3 tX) (reE (fl tX) x1_7)) (if σ3 tX then fSoft else φ3 tX) (tuE φ3 σ3 (σ3 tX) (reE (fl tX) x1_8)) x1_9 (if σ3 tX then fSoft else φ3 tX) (tuE φ3 σ3 (σ3 tX) (reE (fl tX) x1_10)) (if σ3 fNew then fSoft else φ3 fNew) (tuE φ3 σ3 (σ3 fNew) (reE (fl fNew) w)) := by
  kernel_rfl
theorem row_eq (n k : Nat) : rowSt (Vs.turn φ4 (fun _ => false) [9] (laws_FnExactFaceProblems_s4 tQ tA (reE (fl tA) x0_0) tA (reE (fl tA) x0_1) tA (reE (fl tA) x0_2) tQ x1_0 x1_1 x1_2 x1_3 tA (reE (fl tA) x1_4) tA (reE (fl tA) x1_5) tA (reE (fl tA) x1_6) tA (reE (fl tA) x1_7) tA (reE (fl tA) x1_8) x1_9 tA (reE (fl tA) x1_10) tA (reE (fl tA) w) tG (reE (fl tG) w))) 9 3 n k = laws_FnExactFaceProblems_s4r tQ (φ4 tA) (tuE φ4 (fun _ => false) false (reE (fl tA) x0_0)) (φ4 tA) (tuE φ4 (fun _ => false) false (reE (fl tA) x0_1)) (φ4 tA) (tuE φ4 (fun _ => false) false (reE (fl tA) x0_2)) tQ x1_0 x1_1 x1_2 x1_3 (φ4 tA) (tuE φ4 (fun _ => false) false (reE (fl tA) x1_4)) (φ4 tA) (tuE φ4 (fun _ => false) false (reE (fl tA) x1_5)) (φ4 tA) (tuE φ4 (fun _ => false) false (reE (fl tA) x1_6)) (φ4 tA) (tuE φ4 (fun _ => false) false (reE (fl tA) x1_7)) (φ4 tA) (tuE φ4 (fun _ => false) false (reE (fl tA) x1_8)) x1_9 (φ4 tA) (tuE φ4 (fun _ => false) false (reE (fl tA) x1_10)) (φ4 tA) (tuE φ4 (fun _ => false) false (reE (fl tA) w)) n (List.replicate k .any) := by
  kernel_rfl
theorem slots2 : slotsOk p2 ({ tmps := (((laws_FnExactFaceProblems_s2 tQ tA (reE (fl tA) x0_0) tA (reE (fl tA) x0_1) tA (reE (fl tA) x0_2) tQ x1_0 x1_1 x1_2 x1_3 tA (reE (fl tA) x1_4) tA (reE (fl tA) x1_5) tA (reE (fl tA) x1_6) tA (reE (fl tA) x1_7) tA (reE (fl tA) x1_8) x1_9 tA (reE (fl tA) x1_10) tA (reE (fl tA) w) tQ fNew (reE (fl fNew) x0_0) fNew (reE (fl fNew) x0_1) fNew (reE (fl fNew) x0_2) tQ x1_0 x1_1 x1_2 x1_3 fNew (reE (fl fNew) x1_4) fNew (reE (fl fNew) x1_5) fNew (reE (fl fNew) x1_6) fNew (reE (fl fNew) x1_7) fNew (reE (fl fNew) x1_8) x1_9 fNew (reE (fl fNew) x1_10)).tmps.set 7 (.ptr 7 0)).set 8 (.ptr 8 0)), boxes := (((laws_FnExactFaceProblems_s2 tQ tA (reE (fl tA) x0_0) tA (reE (fl tA) x0_1) tA (reE (fl tA) x0_2) tQ x1_0 x1_1 x1_2 x1_3 tA (reE (fl tA) x1_4) tA (reE (fl tA) x1_5) tA (reE (fl tA) x1_6) tA (reE (fl tA) x1_7) tA (reE (fl tA) x1_8) x1_9 tA (reE (fl tA) x1_10) tA (reE (fl tA) w) tQ fNew (reE (fl fNew) x0_0) fNew (reE (fl fNew) x0_1) fNew (reE (fl fNew) x0_2) tQ x1_0 x1_1 x1_2 x1_3 fNew (reE (fl fNew) x1_4) fNew (reE (fl fNew) x1_5) fNew (reE (fl fNew) x1_6) fNew (reE (fl fNew) x1_7) fNew (reE (fl fNew) x1_8) x1_9 fNew (reE (fl fNew) x1_10)).boxes.set 7 (some [.leaf (.sl fNew (reE (fl fNew) x0_0)), .leaf (.sl fNew (reE (fl fNew) x0_1)), .leaf (.sl fNew (reE (fl fNew) x0_2))])).set 8 (some [.leaf (.int .i64 x1_0), .leaf (.bool x1_1), .leaf (.str x1_2), .leaf (.str x1_3), .leaf (.sl fNew (reE (fl fNew) x1_4)), .leaf (.sl fNew (reE (fl fNew) x1_5)), .leaf (.sl fNew (reE (fl fNew) x1_6)), .leaf (.sl fNew (reE (fl fNew) x1_7)), .leaf (.sl fNew (reE (fl fNew) x1_8)), .leaf (.bool x1_9), .leaf (.sl fNew (reE (fl fNew) x1_10))])) } : St true).boxes [] 0 ({ tmps := (((laws_FnExactFaceProblems_s2 tQ tA (reE (fl tA) x0_0) tA (reE (fl tA) x0_1) tA (reE (fl tA) x0_2) tQ x1_0 x1_1 x1_2 x1_3 tA (reE (fl tA) x1_4) tA (reE (fl tA) x1_5) tA (reE (fl tA) x1_6) tA (reE (fl tA) x1_7) tA (reE (fl tA) x1_8) x1_9 tA (reE (fl tA) x1_10) tA (reE (fl tA) w) tQ fNew (reE (fl fNew) x0_0) fNew (reE (fl fNew) x0_1) fNew (reE (fl fNew) x0_2) tQ x1_0 x1_1 x1_2 x1_3 fNew (reE (fl fNew) x1_4) fNew (reE (fl fNew) x1_5) fNew (reE (fl fNew) x1_6) fNew (reE (fl fNew) x1_7) fNew (reE (fl fNew) x1_8) x1_9 fNew (reE (fl fNew) x1_10)).tmps.set 7 (.ptr 7 0)).set 8 (.ptr 8 0)), boxes := (((laws_FnExactFaceProblems_s2 tQ tA (reE (fl tA) x0_0) tA (reE (fl tA) x0_1) tA (reE (fl tA) x0_2) tQ x1_0 x1_1 x1_2 x1_3 tA (reE (fl tA) x1_4) tA (reE (fl tA) x1_5) tA (reE (fl tA) x1_6) tA (reE (fl tA) x1_7) tA (reE (fl tA) x1_8) x1_9 tA (reE (fl tA) x1_10) tA (reE (fl tA) w) tQ fNew (reE (fl fNew) x0_0) fNew (reE (fl fNew) x0_1) fNew (reE (fl fNew) x0_2) tQ x1_0 x1_1 x1_2 x1_3 fNew (reE (fl fNew) x1_4) fNew (reE (fl fNew) x1_5) fNew (reE (fl fNew) x1_6) fNew (reE (fl fNew) x1_7) fNew (reE (fl fNew) x1_8) x1_9 fNew (reE (fl fNew) x1_10)).boxes.set 7 (some [.leaf (.sl fNew (reE (fl fNew) x0_0)), .leaf (.sl fNew (reE (fl fNew) x0_1)), .leaf (.sl fNew (reE (fl fNew) x0_2))])).set 8 (some [.leaf (.int .i64 x1_0), .leaf (.bool x1_1), .leaf (.str x1_2), .leaf (.str x1_3), .leaf (.sl fNew (reE (fl fNew) x1_4)), .leaf (.sl fNew (reE (fl fNew) x1_5)), .leaf (.sl fNew (reE (fl fNew) x1_6)), .leaf (.sl fNew (reE (fl fNew) x1_7)), .leaf (.sl fNew (reE (fl fNew) x1_8)), .leaf (.bool x1_9), .leaf (.sl fNew (reE (fl fNew) x1_10))])) } : St true).tmps = true := by
  simp [slotsOk, slotOkB, slotOk, boxAt, asLeaves, asLeaf, laws_FnExactFaceProblems_s2, allF, allL, isTQ, allE_re (p := p2) (c := tA) rfl, allE_re (p := p2) (c := fNew) rfl, show p2 tA = true from rfl, show p2 fNew = true from rfl]
theorem slots3 : slotsOk p3 ({ tmps := (laws_FnExactFaceProblems_s3 tQ tA (reE (fl tA) x0_0) tA (reE (fl tA) x0_1) tA (reE (fl tA) x0_2) tQ x1_0 x1_1 x1_2 x1_3 tA (reE (fl tA) x1_4) tA (reE (fl tA) x1_5) tA (reE (fl tA) x1_6) tA (reE (fl tA) x1_7) tA (reE (fl tA) x1_8) x1_9 tA (reE (fl tA) x1_10) tA (reE (fl tA) w) tQ tX (reE (fl tX) x0_0) tX (reE (fl tX) x0_1) tX (reE (fl tX) x0_2) tQ x1_0 x1_1 x1_2 x1_3 tX (reE (fl tX) x1_4) tX (reE (fl tX) x1_5) tX (reE (fl tX) x1_6) tX (reE (fl tX) x1_7) tX (reE (fl tX) x1_8) x1_9 tX (reE (fl tX) x1_10) fNew (reE (fl fNew) w)).tmps.set 9 (.own (some T.impl_Problem) (reE (fl fNew) w)), boxes := (laws_FnExactFaceProblems_s3 tQ tA (reE (fl tA) x0_0) tA (reE (fl tA) x0_1) tA (reE (fl tA) x0_2) tQ x1_0 x1_1 x1_2 x1_3 tA (reE (fl tA) x1_4) tA (reE (fl tA) x1_5) tA (reE (fl tA) x1_6) tA (reE (fl tA) x1_7) tA (reE (fl tA) x1_8) x1_9 tA (reE (fl tA) x1_10) tA (reE (fl tA) w) tQ tX (reE (fl tX) x0_0) tX (reE (fl tX) x0_1) tX (reE (fl tX) x0_2) tQ x1_0 x1_1 x1_2 x1_3 tX (reE (fl tX) x1_4) tX (reE (fl tX) x1_5) tX (reE (fl tX) x1_6) tX (reE (fl tX) x1_7) tX (reE (fl tX) x1_8) x1_9 tX (reE (fl tX) x1_10) fNew (reE (fl fNew) w)).boxes } : St true).boxes [] 0 ({ tmps := (laws_FnExactFaceProblems_s3 tQ tA (reE (fl tA) x0_0) tA (reE (fl tA) x0_1) tA (reE (fl tA) x0_2) tQ x1_0 x1_1 x1_2 x1_3 tA (reE (fl tA) x1_4) tA (reE (fl tA) x1_5) tA (reE (fl tA) x1_6) tA (reE (fl tA) x1_7) tA (reE (fl tA) x1_8) x1_9 tA (reE (fl tA) x1_10) tA (reE (fl tA) w) tQ tX (reE (fl tX) x0_0) tX (reE (fl tX) x0_1) tX (reE (fl tX) x0_2) tQ x1_0 x1_1 x1_2 x1_3 tX (reE (fl tX) x1_4) tX (reE (fl tX) x1_5) tX (reE (fl tX) x1_6) tX (reE (fl tX) x1_7) tX (reE (fl tX) x1_8) x1_9 tX (reE (fl tX) x1_10) fNew (reE (fl fNew) w)).tmps.set 9 (.own (some T.impl_Problem) (reE (fl fNew) w)), boxes := (laws_FnExactFaceProblems_s3 tQ tA (reE (fl tA) x0_0) tA (reE (fl tA) x0_1) tA (reE (fl tA) x0_2) tQ x1_0 x1_1 x1_2 x1_3 tA (reE (fl tA) x1_4) tA (reE (fl tA) x1_5) tA (reE (fl tA) x1_6) tA (reE (fl tA) x1_7) tA (reE (fl tA) x1_8) x1_9 tA (reE (fl tA) x1_10) tA (reE (fl tA) w) tQ tX (reE (fl tX) x0_0) tX (reE (fl tX) x0_1) tX (reE (fl tX) x0_2) tQ x1_0 x1_1 x1_2 x1_3 tX (reE (fl tX) x1_4) tX (reE (fl tX) x1_5) tX (reE (fl tX) x1_6) tX (reE (fl tX) x1_7) tX (reE (fl tX) x1_8) x1_9 tX (reE (fl tX) x1_10) fNew (reE (fl fNew) w)).boxes } : St true).tmps = true := by
  simp [slotsOk, slotOkB, slotOk, boxAt, laws_FnExactFaceProblems_s3, allF, allL, isTQ, Fl.new, allE_re (p := p3) (c := tA) rfl, allE_re (p := p3) (c := tX) rfl, allE_re (p := p3) (c := fNew) rfl, show p3 tA = true from rfl, show p3 tX = true from rfl, show p3 fNew = true from rfl]
theorem slots4 : slotsOk p4 (laws_FnExactFaceProblems_s4 tQ tA (reE (fl tA) x0_0) tA (reE (fl tA) x0_1) tA (reE (fl tA) x0_2) tQ x1_0 x1_1 x1_2 x1_3 tA (reE (fl tA) x1_4) tA (reE (fl tA) x1_5) tA (reE (fl tA) x1_6) tA (reE (fl tA) x1_7) tA (reE (fl tA) x1_8) x1_9 tA (reE (fl tA) x1_10) tA (reE (fl tA) w) tG (reE (fl tG) w)).boxes [9] 0 (laws_FnExactFaceProblems_s4 tQ tA (reE (fl tA) x0_0) tA (reE (fl tA) x0_1) tA (reE (fl tA) x0_2) tQ x1_0 x1_1 x1_2 x1_3 tA (reE (fl tA) x1_4) tA (reE (fl tA) x1_5) tA (reE (fl tA) x1_6) tA (reE (fl tA) x1_7) tA (reE (fl tA) x1_8) x1_9 tA (reE (fl tA) x1_10) tA (reE (fl tA) w) tG (reE (fl tG) w)).tmps = true := by
  simp [slotsOk, slotOkB, slotOk, laws_FnExactFaceProblems_s4, allF, allL, isTQ, allE_re (p := p4) (c := tA) rfl, show p4 tA = true from rfl]
/-- The end. -/
theorem law_c4 (h : Fits x0_0 x0_1 x0_2 x1_0 x1_1 x1_2 x1_3 x1_4 x1_5 x1_6 x1_7 x1_8 x1_9 x1_10 w) {W w' : World} {act : Act} {A B : Nat} {w0 : World} {F2 F3 : Fr} {hB0 : B ≤ w0.heap.size} {Fx : Fr} {Ow : Own} {bm : Nat → Nat} (hA : W.heap.size ≤ A) (hAB : A ≤ B) (hB : B ≤ w'.heap.size)
    (on : OnWay Tryz.prog (fnOf Tryz.prog F.laws_FnExactFaceProblems) W (N3 w0 A B F2 F3 hB0) (laws_FnExactFaceProblems_s4 tQ tA (reE (fl tA) x0_0) tA (reE (fl tA) x0_1) tA (reE (fl tA) x0_2) tQ x1_0 x1_1 x1_2 x1_3 tA (reE (fl tA) x1_4) tA (reE (fl tA) x1_5) tA (reE (fl tA) x1_6) tA (reE (fl tA) x1_7) tA (reE (fl tA) x1_8) x1_9 tA (reE (fl tA) x1_10) tA (reE (fl tA) w) tG (reE (fl tG) w)) act w' Fx Ow bm) :
    (sub body (way 17)).wp Tryz.prog (bodyPost Tryz.prog (fnOf Tryz.prog F.laws_FnExactFaceProblems) (Good W)) act w' := by
  by_cases hw : w = []
  · have eqw0 := h.eqw
    have im0 := h.imp
    have mkn : ∀ (c : Fl true) (k : Int), Dd F.laws_markProblemS [.leaf (.sl c []), .leaf (.int .i64 k)] [] = some (.leaf (.int .i64 k), []) := fun c k => dd_told rfl (d_laws_markProblemS_nil k) (by simp [reS, reF, reE]) rfl rfl
    have hdn : ∀ (c : Fl true) (k : Int), Dd F.laws_heldProblemS [.leaf (.sl c []), .leaf (.int .i64 k)] [] = some (.leaf (.int .i64 k), []) := fun c k => dd_told rfl (d_laws_heldProblemS_nil k) (by simp [reS, reF, reE]) rfl rfl
    rw [hw] at on
    simp only [hw, reE] at eqw0 im0
    refine stretch_last (H := Hs) hP dd_sound hfn hc0 spD nlD on fun J => ?_
    simp only [reE]
    rw [laws_FnExactFaceProblems_c4]
    simp -implicitDefEqProofs only [mkn, hdn, Option.bind_some, svLeafK_leaf, svSlK_leaf, svOwnK_own, svAggK_agg, atK_zero, atK_succ, intK_int, strK_str, boolK_bool, slK_sl, List.length_cons, List.length_nil, beq_self_eq_true, guarded_true, h.to0, h.to1, im0, eqw0, show decide ((1 : Int) < 0) = false from rfl, branch_false, bne_self_eq_false, Bool.not_true, lastB_nil]
  · have hpos : 0 < w.length := List.length_pos_iff.2 hw
    have hez : ∀ e ∈ reE (fl tG) w, e.length = 3 := reE_all fun e he => (h.wq e he).len
    obtain ⟨k, F', Ow', bm', R, hk, on'⟩ := turn4 on hA hB hAB [9] (t := 9) (of_decide_eq_true (by kernel_rfl)) (of_decide_eq_true (by kernel_rfl)) (es := reE (fl tG) w) (z := 3) rfl (by rw [reE_length]; exact hpos) hez slots4
    rw [row_eq] at on'
    simp only [tuE_fl (φ := φ4) (σ := fun _ => false) (c := tA) rfl, show φ4 tA = tA from rfl, reE_length] at on'
    rw [reE_length] at hk
    refine stretch_last (H := Hs) hP dd_sound hfn hc0 spD nlD on' fun J => ?_
    have hm := t_markProblemS_r (k := k) h.wl hk
    have hd := t_heldProblemS_r (n := w.length) (k := k) h.wl
    have hf1 : ([List.replicate k (SV.any (m := true))].all fun (x : List (SV true)) => x.all SV.flat) = true := by
      simp only [List.all_cons, List.all_nil, Bool.and_true]
      rw [List.all_eq_true]; intro x hx; rw [List.eq_of_mem_replicate hx]; rfl
    have hf2 : ([(marked w.length k).map (reS li)].all fun (x : List (SV true)) => x.all SV.flat) = true := by
      simp only [List.all_cons, List.all_nil, Bool.and_true]
      exact map_flat (marked_flat _ _)
    have he : ¬ endProblem w.length 1 < 0 := by
      have := endProblem_le w.length 1 (by omega) (by have := h.wc; simp only [cap] at *; omega)
      omega
    rw [laws_FnExactFaceProblems_c4r]
    simp -implicitDefEqProofs only [hf1, hm, hd, Option.bind_some, svLeafK_leaf, svSlK_leaf, svOwnK_own, svAggK_agg, atK_zero, atK_succ, intK_int, strK_str, boolK_bool, slK_sl, List.length_cons, List.length_nil, beq_self_eq_true, guarded_true, headB_cons, lastB_nil, hf2, h.to0, h.to1, h.imp, h.eqw, he, decide_false, branch_false, bne_self_eq_false, Bool.not_true]
/-- The marks. -/
theorem law_c3 (h : Fits x0_0 x0_1 x0_2 x1_0 x1_1 x1_2 x1_3 x1_4 x1_5 x1_6 x1_7 x1_8 x1_9 x1_10 w) {W w' : World} {act : Act} {A B : Nat} {F2 : Fr} {Fx : Fr} {Ow : Own} {bm : Nat → Nat} (hA : W.heap.size ≤ A) (hAB : A ≤ B) (hB : B ≤ w'.heap.size)
    (on : OnWay Tryz.prog (fnOf Tryz.prog F.laws_FnExactFaceProblems) W (N2 A B F2) ({ tmps := (laws_FnExactFaceProblems_s3 tQ tA (reE (fl tA) x0_0) tA (reE (fl tA) x0_1) tA (reE (fl tA) x0_2) tQ x1_0 x1_1 x1_2 x1_3 tA (reE (fl tA) x1_4) tA (reE (fl tA) x1_5) tA (reE (fl tA) x1_6) tA (reE (fl tA) x1_7) tA (reE (fl tA) x1_8) x1_9 tA (reE (fl tA) x1_10) tA (reE (fl tA) w) tQ tX (reE (fl tX) x0_0) tX (reE (fl tX) x0_1) tX (reE (fl tX) x0_2) tQ x1_0 x1_1 x1_2 x1_3 tX (reE (fl tX) x1_4) tX (reE (fl tX) x1_5) tX (reE (fl tX) x1_6) tX (reE (fl tX) x1_7) tX (reE (fl tX) x1_8) x1_9 tX (reE (fl tX) x1_10) fNew (reE (fl fNew) w)).tmps.set 9 (.own (some T.impl_Problem) (reE (fl fNew) w)), boxes := (laws_FnExactFaceProblems_s3 tQ tA (reE (fl tA) x0_0) tA (reE (fl tA) x0_1) tA (reE (fl tA) x0_2) tQ x1_0 x1_1 x1_2 x1_3 tA (reE (fl tA) x1_4) tA (reE (fl tA) x1_5) tA (reE (fl tA) x1_6) tA (reE (fl tA) x1_7) tA (reE (fl tA) x1_8) x1_9 tA (reE (fl tA) x1_10) tA (reE (fl tA) w) tQ tX (reE (fl tX) x0_0) tX (reE (fl tX) x0_1) tX (reE (fl tX) x0_2) tQ x1_0 x1_1 x1_2 x1_3 tX (reE (fl tX) x1_4) tX (reE (fl tX) x1_5) tX (reE (fl tX) x1_6) tX (reE (fl tX) x1_7) tX (reE (fl tX) x1_8) x1_9 tX (reE (fl tX) x1_10) fNew (reE (fl fNew) w)).boxes } : St true) act w' Fx Ow bm) :
    (sub body (way 13)).wp Tryz.prog (bodyPost Tryz.prog (fnOf Tryz.prog F.laws_FnExactFaceProblems) (Good W)) act w' := by
  have on' := turn3 on hA hB hAB [] slots3
  rw [turn3_eq] at on'
  simp only [show σ3 tA = false from rfl, show σ3 tX = true from rfl, show σ3 fNew = false from rfl, tuE_fl (φ := φ3) (σ := σ3) (c := tA) rfl, tuE_fl (φ := φ3) (σ := σ3) (c := fNew) rfl, tuE_so (φ := φ3) (σ := σ3) (c := tX) rfl, Bool.false_eq_true, if_false, if_true, show φ3 tA = tA from rfl, show φ3 fNew = tG from rfl] at on'
  refine stretch (H := Hs) (s1 := laws_FnExactFaceProblems_s4 tQ tA (reE (fl tA) x0_0) tA (reE (fl tA) x0_1) tA (reE (fl tA) x0_2) tQ x1_0 x1_1 x1_2 x1_3 tA (reE (fl tA) x1_4) tA (reE (fl tA) x1_5) tA (reE (fl tA) x1_6) tA (reE (fl tA) x1_7) tA (reE (fl tA) x1_8) x1_9 tA (reE (fl tA) x1_10) tA (reE (fl tA) w) tG (reE (fl tG) w)) hP dd_sound hfn hc0 spD on' (fun J => ?_) fun a' w2 F' Ow' bm' on2 far => ?_
  · rw [laws_FnExactFaceProblems_c3]
    simp -implicitDefEqProofs only [h.mk0, h.mk1, Option.bind_some, svLeafK_leaf, svSlK_leaf, svOwnK_own, svAggK_agg, atK_zero, atK_succ, intK_int, strK_str, boolK_bool, slK_sl, List.length_cons, List.length_nil, beq_self_eq_true, guarded_true, decide_eq_false h.mn, branch_true, h.eqw, Bool.not_true, branch_false]
    rfl
  · exact law_c4 h hA hAB (Nat.le_trans hB far.size) on2
/-- The answer. -/
theorem law_c2 (h : Fits x0_0 x0_1 x0_2 x1_0 x1_1 x1_2 x1_3 x1_4 x1_5 x1_6 x1_7 x1_8 x1_9 x1_10 w) {W w' : World} {act : Act} {A : Nat} {Fx : Fr} {Ow : Own} {bm : Nat → Nat} (hA : W.heap.size ≤ A) (hB : A ≤ w'.heap.size)
    (on : OnWay Tryz.prog (fnOf Tryz.prog F.laws_FnExactFaceProblems) W (N1 A) ({ tmps := (((laws_FnExactFaceProblems_s2 tQ tA (reE (fl tA) x0_0) tA (reE (fl tA) x0_1) tA (reE (fl tA) x0_2) tQ x1_0 x1_1 x1_2 x1_3 tA (reE (fl tA) x1_4) tA (reE (fl tA) x1_5) tA (reE (fl tA) x1_6) tA (reE (fl tA) x1_7) tA (reE (fl tA) x1_8) x1_9 tA (reE (fl tA) x1_10) tA (reE (fl tA) w) tQ fNew (reE (fl fNew) x0_0) fNew (reE (fl fNew) x0_1) fNew (reE (fl fNew) x0_2) tQ x1_0 x1_1 x1_2 x1_3 fNew (reE (fl fNew) x1_4) fNew (reE (fl fNew) x1_5) fNew (reE (fl fNew) x1_6) fNew (reE (fl fNew) x1_7) fNew (reE (fl fNew) x1_8) x1_9 fNew (reE (fl fNew) x1_10)).tmps.set 7 (.ptr 7 0)).set 8 (.ptr 8 0)), boxes := (((laws_FnExactFaceProblems_s2 tQ tA (reE (fl tA) x0_0) tA (reE (fl tA) x0_1) tA (reE (fl tA) x0_2) tQ x1_0 x1_1 x1_2 x1_3 tA (reE (fl tA) x1_4) tA (reE (fl tA) x1_5) tA (reE (fl tA) x1_6) tA (reE (fl tA) x1_7) tA (reE (fl tA) x1_8) x1_9 tA (reE (fl tA) x1_10) tA (reE (fl tA) w) tQ fNew (reE (fl fNew) x0_0) fNew (reE (fl fNew) x0_1) fNew (reE (fl fNew) x0_2) tQ x1_0 x1_1 x1_2 x1_3 fNew (reE (fl fNew) x1_4) fNew (reE (fl fNew) x1_5) fNew (reE (fl fNew) x1_6) fNew (reE (fl fNew) x1_7) fNew (reE (fl fNew) x1_8) x1_9 fNew (reE (fl fNew) x1_10)).boxes.set 7 (some [.leaf (.sl fNew (reE (fl fNew) x0_0)), .leaf (.sl fNew (reE (fl fNew) x0_1)), .leaf (.sl fNew (reE (fl fNew) x0_2))])).set 8 (some [.leaf (.int .i64 x1_0), .leaf (.bool x1_1), .leaf (.str x1_2), .leaf (.str x1_3), .leaf (.sl fNew (reE (fl fNew) x1_4)), .leaf (.sl fNew (reE (fl fNew) x1_5)), .leaf (.sl fNew (reE (fl fNew) x1_6)), .leaf (.sl fNew (reE (fl fNew) x1_7)), .leaf (.sl fNew (reE (fl fNew) x1_8)), .leaf (.bool x1_9), .leaf (.sl fNew (reE (fl fNew) x1_10))])) } : St true) act w' Fx Ow bm) :
    (sub body (way 9)).wp Tryz.prog (bodyPost Tryz.prog (fnOf Tryz.prog F.laws_FnExactFaceProblems) (Good W)) act w' := by
  have on' := turn2 on [] slots2
  rw [turn2_eq] at on'
  simp only [tuE_fl (φ := φ2) (σ := fun _ => false) (c := tA) rfl, tuE_fl (φ := φ2) (σ := fun _ => false) (c := fNew) rfl, show φ2 tA = tA from rfl, show φ2 fNew = tX from rfl] at on'
  refine stretch (H := Hs) (s1 := { tmps := (laws_FnExactFaceProblems_s3 tQ tA (reE (fl tA) x0_0) tA (reE (fl tA) x0_1) tA (reE (fl tA) x0_2) tQ x1_0 x1_1 x1_2 x1_3 tA (reE (fl tA) x1_4) tA (reE (fl tA) x1_5) tA (reE (fl tA) x1_6) tA (reE (fl tA) x1_7) tA (reE (fl tA) x1_8) x1_9 tA (reE (fl tA) x1_10) tA (reE (fl tA) w) tQ tX (reE (fl tX) x0_0) tX (reE (fl tX) x0_1) tX (reE (fl tX) x0_2) tQ x1_0 x1_1 x1_2 x1_3 tX (reE (fl tX) x1_4) tX (reE (fl tX) x1_5) tX (reE (fl tX) x1_6) tX (reE (fl tX) x1_7) tX (reE (fl tX) x1_8) x1_9 tX (reE (fl tX) x1_10) fNew (reE (fl fNew) w)).tmps.set 9 (.own (some T.impl_Problem) (reE (fl fNew) w)), boxes := (laws_FnExactFaceProblems_s3 tQ tA (reE (fl tA) x0_0) tA (reE (fl tA) x0_1) tA (reE (fl tA) x0_2) tQ x1_0 x1_1 x1_2 x1_3 tA (reE (fl tA) x1_4) tA (reE (fl tA) x1_5) tA (reE (fl tA) x1_6) tA (reE (fl tA) x1_7) tA (reE (fl tA) x1_8) x1_9 tA (reE (fl tA) x1_10) tA (reE (fl tA) w) tQ tX (reE (fl tX) x0_0) tX (reE (fl tX) x0_1) tX (reE (fl tX) x0_2) tQ x1_0 x1_1 x1_2 x1_3 tX (reE (fl tX) x1_4) tX (reE (fl tX) x1_5) tX (reE (fl tX) x1_6) tX (reE (fl tX) x1_7) tX (reE (fl tX) x1_8) x1_9 tX (reE (fl tX) x1_10) fNew (reE (fl fNew) w)).boxes }) hP dd_sound hfn hc0 spC on' (fun J => ?_) fun a' w2 F' Ow' bm' on2 far => ?_
  · rw [laws_FnExactFaceProblems_c2]
    simp -implicitDefEqProofs only [h.to0, h.to1, h.imp, h.eq0, h.eq1, Option.bind_some, svLeafK_leaf, svSlK_leaf, svOwnK_own, svAggK_agg, atK_zero, atK_succ, intK_int, strK_str, boolK_bool, slK_sl, List.length_cons, List.length_nil, beq_self_eq_true, guarded_true, h.eqw, Bool.not_true, branch_false]
    rfl
  · exact law_c3 h hA hB far.size on2
/-- The copies. -/
theorem law_c1 (h : Fits x0_0 x0_1 x0_2 x1_0 x1_1 x1_2 x1_3 x1_4 x1_5 x1_6 x1_7 x1_8 x1_9 x1_10 w) {W w' : World} {act : Act} {A : Nat} {Fx : Fr} {Ow : Own} {bm : Nat → Nat} (hA : W.heap.size ≤ A) (hB : A ≤ w'.heap.size)
    (on : OnWay Tryz.prog (fnOf Tryz.prog F.laws_FnExactFaceProblems) W (N1 A) (laws_FnExactFaceProblems_s1 tQ tA (reE (fl tA) x0_0) tA (reE (fl tA) x0_1) tA (reE (fl tA) x0_2) tQ x1_0 x1_1 x1_2 x1_3 tA (reE (fl tA) x1_4) tA (reE (fl tA) x1_5) tA (reE (fl tA) x1_6) tA (reE (fl tA) x1_7) tA (reE (fl tA) x1_8) x1_9 tA (reE (fl tA) x1_10) tA (reE (fl tA) w)) act w' Fx Ow bm) :
    (sub body (way 7)).wp Tryz.prog (bodyPost Tryz.prog (fnOf Tryz.prog F.laws_FnExactFaceProblems) (Good W)) act w' := by
  refine stretch (H := Hs) (s1 := { tmps := (((laws_FnExactFaceProblems_s2 tQ tA (reE (fl tA) x0_0) tA (reE (fl tA) x0_1) tA (reE (fl tA) x0_2) tQ x1_0 x1_1 x1_2 x1_3 tA (reE (fl tA) x1_4) tA (reE (fl tA) x1_5) tA (reE (fl tA) x1_6) tA (reE (fl tA) x1_7) tA (reE (fl tA) x1_8) x1_9 tA (reE (fl tA) x1_10) tA (reE (fl tA) w) tQ fNew (reE (fl fNew) x0_0) fNew (reE (fl fNew) x0_1) fNew (reE (fl fNew) x0_2) tQ x1_0 x1_1 x1_2 x1_3 fNew (reE (fl fNew) x1_4) fNew (reE (fl fNew) x1_5) fNew (reE (fl fNew) x1_6) fNew (reE (fl fNew) x1_7) fNew (reE (fl fNew) x1_8) x1_9 fNew (reE (fl fNew) x1_10)).tmps.set 7 (.ptr 7 0)).set 8 (.ptr 8 0)), boxes := (((laws_FnExactFaceProblems_s2 tQ tA (reE (fl tA) x0_0) tA (reE (fl tA) x0_1) tA (reE (fl tA) x0_2) tQ x1_0 x1_1 x1_2 x1_3 tA (reE (fl tA) x1_4) tA (reE (fl tA) x1_5) tA (reE (fl tA) x1_6) tA (reE (fl tA) x1_7) tA (reE (fl tA) x1_8) x1_9 tA (reE (fl tA) x1_10) tA (reE (fl tA) w) tQ fNew (reE (fl fNew) x0_0) fNew (reE (fl fNew) x0_1) fNew (reE (fl fNew) x0_2) tQ x1_0 x1_1 x1_2 x1_3 fNew (reE (fl fNew) x1_4) fNew (reE (fl fNew) x1_5) fNew (reE (fl fNew) x1_6) fNew (reE (fl fNew) x1_7) fNew (reE (fl fNew) x1_8) x1_9 fNew (reE (fl fNew) x1_10)).boxes.set 7 (some [.leaf (.sl fNew (reE (fl fNew) x0_0)), .leaf (.sl fNew (reE (fl fNew) x0_1)), .leaf (.sl fNew (reE (fl fNew) x0_2))])).set 8 (some [.leaf (.int .i64 x1_0), .leaf (.bool x1_1), .leaf (.str x1_2), .leaf (.str x1_3), .leaf (.sl fNew (reE (fl fNew) x1_4)), .leaf (.sl fNew (reE (fl fNew) x1_5)), .leaf (.sl fNew (reE (fl fNew) x1_6)), .leaf (.sl fNew (reE (fl fNew) x1_7)), .leaf (.sl fNew (reE (fl fNew) x1_8)), .leaf (.bool x1_9), .leaf (.sl fNew (reE (fl fNew) x1_10))])) }) hP dd_sound hfn hc0 spB on (fun J => ?_) fun a' w2 F' Ow' bm' on2 far => ?_
  · rw [laws_FnExactFaceProblems_c1]
    simp -implicitDefEqProofs only [h.to0, h.to1, Option.bind_some, svLeafK_leaf, svSlK_leaf, svOwnK_own, svAggK_agg, atK_zero, atK_succ, intK_int, strK_str, boolK_bool, slK_sl, List.length_cons, List.length_nil, beq_self_eq_true, guarded_true]
    rfl
  · exact law_c2 h hA (Nat.le_trans hB far.size) on2
/-- From the beginning. -/
theorem law_c0 (sz0 : ∀ (c : Fl true) (n : Int), 0 ≤ n → Dd F.laws_szSchema [.agg [.sl c (reE (fl c) x0_0), .sl c (reE (fl c) x0_1), .sl c (reE (fl c) x0_2)], .leaf (.int .i64 n)] [] = some (.leaf (.int .i64 (szL [.sl fP x0_0, .sl fP x0_1, .sl fP x0_2] n)), [])) (sz1 : ∀ (c : Fl true) (n : Int), 0 ≤ n → Dd F.laws_szDef [.agg [.int .i64 x1_0, .bool x1_1, .str x1_2, .str x1_3, .sl c (reE (fl c) x1_4), .sl c (reE (fl c) x1_5), .sl c (reE (fl c) x1_6), .sl c (reE (fl c) x1_7), .sl c (reE (fl c) x1_8), .bool x1_9, .sl c (reE (fl c) x1_10)], .leaf (.int .i64 n)] [] = some (.leaf (.int .i64 (szL [.int .i64 x1_0, .bool x1_1, .str x1_2, .str x1_3, .sl fP x1_4, .sl fP x1_5, .sl fP x1_6, .sl fP x1_7, .sl fP x1_8, .bool x1_9, .sl fP x1_10] n)), [])) (fits : 0 ≤ szL [.sl fP x0_0, .sl fP x0_1, .sl fP x0_2] 1048576 → 0 ≤ szL [.int .i64 x1_0, .bool x1_1, .str x1_2, .str x1_3, .sl fP x1_4, .sl fP x1_5, .sl fP x1_6, .sl fP x1_7, .sl fP x1_8, .bool x1_9, .sl fP x1_10] (szL [.sl fP x0_0, .sl fP x0_1, .sl fP x0_2] 1048576) → Fits x0_0 x0_1 x0_2 x1_0 x1_1 x1_2 x1_3 x1_4 x1_5 x1_6 x1_7 x1_8 x1_9 x1_10 w) {W : World} {act : Act} {Fx : Fr} {Ow : Own} {bm : Nat → Nat}
    (on : OnWay Tryz.prog (fnOf Tryz.prog F.laws_FnExactFaceProblems) W (N0 W) (laws_FnExactFaceProblems_s0 fOld (reE (fl fOld) x0_0) fOld (reE (fl fOld) x0_1) fOld (reE (fl fOld) x0_2) x1_0 x1_1 x1_2 x1_3 fOld (reE (fl fOld) x1_4) fOld (reE (fl fOld) x1_5) fOld (reE (fl fOld) x1_6) fOld (reE (fl fOld) x1_7) fOld (reE (fl fOld) x1_8) x1_9 fOld (reE (fl fOld) x1_10)) act W Fx Ow bm) :
    (sub body (way 0)).wp Tryz.prog (bodyPost Tryz.prog (fnOf Tryz.prog F.laws_FnExactFaceProblems) (Good W)) act W := by
  by_cases hn0 : szL [.sl fP x0_0, .sl fP x0_1, .sl fP x0_2] 1048576 < 0
  · refine stretch_left (H := Hs) hP dd_sound hfn hc0 spA on fun J => ?_
    rw [laws_FnExactFaceProblems_c0]
    simp -implicitDefEqProofs only [sz0 fOld 1048576 (by omega), Option.bind_some, svLeafK_leaf, svSlK_leaf, svOwnK_own, svAggK_agg, atK_zero, atK_succ, intK_int, strK_str, boolK_bool, slK_sl, List.length_cons, List.length_nil, beq_self_eq_true, guarded_true, decide_eq_true hn0, branch_true, branch_false]
  · by_cases hn1 : szL [.int .i64 x1_0, .bool x1_1, .str x1_2, .str x1_3, .sl fP x1_4, .sl fP x1_5, .sl fP x1_6, .sl fP x1_7, .sl fP x1_8, .bool x1_9, .sl fP x1_10] (szL [.sl fP x0_0, .sl fP x0_1, .sl fP x0_2] 1048576) < 0
    · refine stretch_left (H := Hs) hP dd_sound hfn hc0 spA on fun J => ?_
      rw [laws_FnExactFaceProblems_c0]
      simp -implicitDefEqProofs only [sz0 fOld 1048576 (by omega), sz1 fOld (szL [.sl fP x0_0, .sl fP x0_1, .sl fP x0_2] 1048576) (by omega), Option.bind_some, svLeafK_leaf, svSlK_leaf, svOwnK_own, svAggK_agg, atK_zero, atK_succ, intK_int, strK_str, boolK_bool, slK_sl, List.length_cons, List.length_nil, beq_self_eq_true, guarded_true, decide_eq_false hn0, decide_eq_true hn1, branch_true, branch_false]
    · have h := fits (by omega) (by omega)
      refine stretch (H := Hs) (s1 := { tmps := ((((laws_FnExactFaceProblems_s1 tQ fOld (reE (fl fOld) x0_0) fOld (reE (fl fOld) x0_1) fOld (reE (fl fOld) x0_2) tQ x1_0 x1_1 x1_2 x1_3 fOld (reE (fl fOld) x1_4) fOld (reE (fl fOld) x1_5) fOld (reE (fl fOld) x1_6) fOld (reE (fl fOld) x1_7) fOld (reE (fl fOld) x1_8) x1_9 fOld (reE (fl fOld) x1_10) fOld (reE (fl fOld) w)).tmps.set 2 (.ptr 2 0)).set 3 (.ptr 3 0)).set 6 (.own (some T.impl_Problem) (reE (fl fOld) w))), boxes := (((laws_FnExactFaceProblems_s1 tQ fOld (reE (fl fOld) x0_0) fOld (reE (fl fOld) x0_1) fOld (reE (fl fOld) x0_2) tQ x1_0 x1_1 x1_2 x1_3 fOld (reE (fl fOld) x1_4) fOld (reE (fl fOld) x1_5) fOld (reE (fl fOld) x1_6) fOld (reE (fl fOld) x1_7) fOld (reE (fl fOld) x1_8) x1_9 fOld (reE (fl fOld) x1_10) fOld (reE (fl fOld) w)).boxes.set 2 (some [.leaf (.sl fOld (reE (fl fOld) x0_0)), .leaf (.sl fOld (reE (fl fOld) x0_1)), .leaf (.sl fOld (reE (fl fOld) x0_2))])).set 3 (some [.leaf (.int .i64 x1_0), .leaf (.bool x1_1), .leaf (.str x1_2), .leaf (.str x1_3), .leaf (.sl fOld (reE (fl fOld) x1_4)), .leaf (.sl fOld (reE (fl fOld) x1_5)), .leaf (.sl fOld (reE (fl fOld) x1_6)), .leaf (.sl fOld (reE (fl fOld) x1_7)), .leaf (.sl fOld (reE (fl fOld) x1_8)), .leaf (.bool x1_9), .leaf (.sl fOld (reE (fl fOld) x1_10))])) }) hP dd_sound hfn hc0 spA on (fun J => ?_) fun a' w2 F' Ow' bm' on2 far => ?_
      · rw [laws_FnExactFaceProblems_c0]
        simp -implicitDefEqProofs only [sz0 fOld 1048576 (by omega), sz1 fOld (szL [.sl fP x0_0, .sl fP x0_1, .sl fP x0_2] 1048576) (by omega), Option.bind_some, svLeafK_leaf, svSlK_leaf, svOwnK_own, svAggK_agg, atK_zero, atK_succ, intK_int, strK_str, boolK_bool, slK_sl, List.length_cons, List.length_nil, beq_self_eq_true, guarded_true, decide_eq_false hn0, decide_eq_false hn1, branch_true, branch_false, h.to0, h.to1, h.spc]
        rfl
      · have on3 := turn1 on2 (fun _ => rfl) []
        rw [turn1_eq] at on3
        simp only [tuE_fl (φ := φ1) (σ := fun _ => false) (c := fOld) rfl, show φ1 fOld = tA from rfl, show φ1 fNew = tA from rfl] at on3
        exact law_c1 h far.size (Nat.le_refl _) on3
end
end Go.Vs
end
section
open Go Go.Vs Go.Proofs
set_option linter.unusedVariables false
set_option linter.unusedSimpArgs false
namespace Go.Vs
/-! ### Texts and their ends -/
/-- Does a text end so? -/
def ends (s : ByteArray) (c : UInt8) : Bool := decide (0 < s.size) && (s.data.toList.getD (s.size - 1) 0 == c)
def cut (s : ByteArray) : ByteArray := s.extract 0 (s.size - 1)
theorem cut_size (s : ByteArray) : (cut s).size = s.size - 1 := by unfold cut; rw [ByteArray.size_extract]; omega
theorem wrap_sub {n d : Nat} (h : n ≤ maxLen) (hd : d ≤ n) : IntKind.i64.wrap ((n : Int) - (d : Int)) = ((n - d : Nat) : Int) := by
  have hm : maxLen = 9223372036854775807 := rfl
  rw [wrap64 (by omega) (by omega)]; omega
theorem wrap_sub1 {n : Nat} (h : n ≤ maxLen) (hd : 0 < n) : IntKind.i64.wrap ((n : Int) - 1) = ((n - 1 : Nat) : Int) := wrap_sub h (show 1 ≤ n by omega)
theorem tl (s : ByteArray) : s.toList = s.data.toList := by first | exact ByteArray.toList_eq s | exact Go.ByteArray.toList_eq s
theorem size_data (s : ByteArray) : s.data.toList.length = s.size := by rw [Array.length_toList]; rfl
theorem suffix_one (s : ByteArray) (c : UInt8) (h : 0 < s.size) : ((s.extract (s.size - 1) s.size).toList == (ByteArray.mk #[c]).toList) = ends s c := by
  have hl := size_data s
  have e1 : (s.extract (s.size - 1) s.size).toList = [s.data.toList.getD (s.size - 1) 0] := by
    rw [tl, ByteArray.data_extract, Array.toList_extract, List.extract_eq_take_drop]
    have : s.data.toList.drop (s.size - 1) = [s.data.toList.getD (s.size - 1) 0] := by
      rw [List.drop_eq_getElem_cons (by omega), List.drop_of_length_le (by omega)]
      rw [List.getD_eq_getElem?_getD, List.getElem?_eq_getElem (show s.size - 1 < s.data.toList.length by omega)]; rfl
    rw [this]
    have : s.size - (s.size - 1) = 1 := by omega
    rw [this]; rfl
  have e2 : (ByteArray.mk #[c]).toList = [c] := by rw [tl]
  rw [e1, e2]
  unfold ends
  simp -implicitDefEqProofs only [h, decide_true, Bool.true_and]
  cases hx : (s.data.toList.getD (s.size - 1) 0 == c) <;> simp_all
theorem ends_pos {w : ByteArray} {c : UInt8} (he : ends w c = true) : 0 < w.size := by unfold ends at he; simp at he; omega
theorem byte_is (x : UInt8) (c : Nat) (hc : c < 256) : (((x.toNat : Nat) : Int) == (c : Int)) = (x == UInt8.ofNat c) := by
  rw [Bool.eq_iff_iff, beq_iff_eq, beq_iff_eq, ← UInt8.toNat_inj]
  simp -implicitDefEqProofs only [UInt8.toNat_ofNat']
  omega
theorem last_is {w : ByteArray} (c : Nat) (hc : c < 256) (hp : 0 < w.size) (hw : w.size ≤ maxLen) : (((w.data.toList.getD (IntKind.i64.wrap ((w.size : Int) - 1)).toNat 0).toNat : Int) == (c : Int)) = ends w (UInt8.ofNat c) := by
  rw [wrap_sub1 hw hp, Int.toNat_natCast, byte_is _ c hc]; unfold ends; simp -implicitDefEqProofs only [hp, decide_true, Bool.true_and]
theorem grd_hi {w : ByteArray} (hp : 0 < w.size) (hw : w.size ≤ maxLen) : (decide (0 ≤ IntKind.i64.wrap ((w.size : Int) - 1)) && decide ((IntKind.i64.wrap ((w.size : Int) - 1)).toNat ≤ w.size)) = true := by
  rw [wrap_sub1 hw hp, Int.toNat_natCast]; simp
theorem grd_at {w : ByteArray} (hp : 0 < w.size) (hw : w.size ≤ maxLen) : (decide (0 ≤ IntKind.i64.wrap ((w.size : Int) - 1)) && decide (IntKind.i64.wrap ((w.size : Int) - 1) < (w.size : Int))) = true := by
  rw [wrap_sub1 hw hp]; simp; omega
theorem cut_hi {w : ByteArray} (hp : 0 < w.size) (hw : w.size ≤ maxLen) : w.extract 0 (IntKind.i64.wrap ((w.size : Int) - 1)).toNat = cut w := by
  rw [wrap_sub1 hw hp, Int.toNat_natCast]; rfl
theorem emp_is (w : ByteArray) : (w.toList == (ByteArray.mk #[]).toList) = ((w.size : Int) == 0) := by
  have hl := size_data w
  rw [tl, tl]
  show (w.data.toList == []) = _
  cases hx : w.data.toList with
  | nil => rw [hx] at hl; simp at hl; rw [← hl]; rfl
  | cons a r => rw [hx] at hl; simp at hl; rw [← hl]; simp; omega
theorem d_HasSuffix {s : ByteArray} {c : UInt8} (hs : s.size ≤ maxLen) : Dn F.internal_stringslite_HasSuffix [.leaf (.str s), .leaf (.str ⟨#[c]⟩)] [] = some (vbool (ends s c), []) := by
  apply den_of
  rw [run_internal_stringslite_HasSuffix]
  have h1 : (ByteArray.mk #[c]).size = 1 := rfl
  rw [h1]
  by_cases h : 0 < s.size
  · have hw := wrap_sub hs (show 1 ≤ s.size by omega)
    simp -implicitDefEqProofs only [hw, show ((s.size : Nat) : Int) ≥ ((1 : Nat) : Int) by omega, decide_true, beq_self_eq_true, branch_true, Int.natCast_nonneg, Bool.true_and, Bool.and_true, Int.toNat_natCast, Nat.sub_le, Nat.le_refl, guarded_true]
    rw [suffix_one s c h]
  · have h0 : ¬ ((s.size : Nat) : Int) ≥ ((1 : Nat) : Int) := by omega
    simp -implicitDefEqProofs only [h0, decide_false, show ((false : Bool) == true) = false from rfl, branch_false]
    have : ends s c = false := by unfold ends; simp [h]
    rw [this]
theorem d_CutSuffix {s : ByteArray} {c : UInt8} (hs : s.size ≤ maxLen) : Dn F.strings_CutSuffix [.leaf (.str s), .leaf (.str ⟨#[c]⟩)] [] = some (.tup [.leaf (.str (if ends s c then cut s else s)), vbool (ends s c)], []) := by
  have h1 : (ByteArray.mk #[c]).size = 1 := rfl
  have key : Dn F.internal_stringslite_CutSuffix [.leaf (.str s), .leaf (.str ⟨#[c]⟩)] [] = some (.tup [.leaf (.str (if ends s c then cut s else s)), vbool (ends s c)], []) := by
    apply den_of
    rw [run_internal_stringslite_CutSuffix, d_HasSuffix hs, h1, rBool_eq]
    cases he : ends s c with
    | false => simp
    | true =>
      have h := ends_pos he
      have hw := wrap_sub hs (show 1 ≤ s.size by omega)
      simp -implicitDefEqProofs only [hw, Bool.not_true, branch_false, Int.natCast_nonneg, decide_true, Bool.true_and, Int.toNat_natCast, Nat.sub_le, guarded_true, if_true]
      rfl
  apply den_of
  rw [run_strings_CutSuffix, key]
  simp -implicitDefEqProofs only [vBool_eq, vInt_eq, vStr_eq, vSl_eq, rBool_eq, rInt_eq, rStr_eq, rSl_eq, rOwn_eq, rBool0_eq, rInt0_eq, rBoolS_eq, rIntS_eq, rCol_eq, aBool_z, aInt_z, aStr_z, aSl_z, cmb_a, Option.bind_some, svTupK_tup, headK_cons, headB_cons, lastK_nil, lastB_nil, svAggK_agg, svOwnK_own, branch_true, branch_false, guarded_true, beq_self_eq_true, Bool.not_true, Bool.not_false, Bool.and_true, Bool.true_and, bT, bF]
theorem d_unwrapped {x : R_ss} {c : UInt8} (hs : x.a1.size ≤ maxLen) : Dn F.impl_unwrapped [.agg x.l, .leaf (.str ⟨#[c]⟩)] [] = some (.tup [.agg (R_ss.l ⟨x.a0, if ends x.a1 c then cut x.a1 else x.a1⟩), vbool (ends x.a1 c)], []) := by
  apply den_of
  rw [run_impl_unwrapped, d_CutSuffix hs]
  simp -implicitDefEqProofs only [vBool_eq, vInt_eq, vStr_eq, vSl_eq, rBool_eq, rInt_eq, rStr_eq, rSl_eq, rOwn_eq, rBool0_eq, rInt0_eq, rBoolS_eq, rIntS_eq, rCol_eq, aBool_z, aInt_z, aStr_z, aSl_z, cmb_a, Option.bind_some, svTupK_tup, headK_cons, headB_cons, lastK_nil, lastB_nil, svAggK_agg, svOwnK_own, branch_true, branch_false, guarded_true, beq_self_eq_true, Bool.not_true, Bool.not_false, Bool.and_true, Bool.true_and, bT, bF]
theorem d_strings_HasSuffix {s : ByteArray} {c : UInt8} (hs : s.size ≤ maxLen) : Dn F.strings_HasSuffix [.leaf (.str s), .leaf (.str ⟨#[c]⟩)] [] = some (vbool (ends s c), []) := by
  apply den_of
  rw [run_strings_HasSuffix, d_HasSuffix hs, rBool_eq]
theorem d_impl_Needed {x : R_ss} (hs : x.a1.size ≤ maxLen) : Dn F.impl_Needed [.agg x.l] [] = some (vbool (ends x.a1 33), []) := by
  apply den_of
  rw [run_impl_Needed, d_strings_HasSuffix hs, rBool_eq]
theorem d_spec_Needed {x : R_ss} (hs : x.a1.size ≤ maxLen) : Dn F.spec_Needed [.agg x.l] [] = some (vbool (ends x.a1 33), []) := by
  apply den_of
  rw [run_spec_Needed]
  by_cases h : 0 < x.a1.size
  · have hl := last_is 33 (by omega) h hs
    rw [show ((33 : Nat) : Int) = 33 from rfl] at hl
    simp -implicitDefEqProofs only [grd_at h hs, hl, show ((x.a1.size : Nat) : Int) > 0 by omega, decide_true, beq_self_eq_true, branch_true, guarded_true]
    rfl
  · have h0 : ¬ ((x.a1.size : Nat) : Int) > 0 := by omega
    simp -implicitDefEqProofs only [h0, decide_false, show ((false : Bool) == true) = false from rfl, branch_false]
    have : ends x.a1 33 = false := by unfold ends; simp [h]
    rw [this]
end Go.Vs
end
section
open Go Go.Vs Go.Proofs
set_option linter.unusedVariables false
set_option linter.unusedSimpArgs false
namespace Go.Vs
/-! ### Looking through rows -/
theorem d_spec_InAt {es : List El} {s : ByteArray} (hl : es.length ≤ maxLen) (hq : ∀ e ∈ es, IsInDef e) : Dn F.spec_InAt [vsl es, .leaf (.str s)] [] = some (vint (idxP (at0 s) 0 es), []) := by
  apply den_of
  rw [run_spec_InAt]
  refine find_int (es := es) (A := fun i => spec_InAt_A Dn (spec_InAt_0 es s i)) (by rw [spec_InAt_0_eq]; simp) fun i hi => ?_
  obtain ⟨x, hx, _⟩ := (hq _ (List.getElem_mem hi)).st
  rw [spec_InAt_0_eq]
  simp -implicitDefEqProofs only [Int.ofNat_lt, decide_true, branch_true, Int.natCast_nonneg, Bool.and_true, Int.toNat_natCast, guarded_true, hi, wrap_upL (Nat.lt_of_lt_of_le hi hl), sized_all (fun e he => (hq e he).len), getD_lt hi, hx, R_ss.at_l, R_isee.at_l, R_sisee.at_l, R_se.at_l, R_ssssbiseee.at_l, R_ssesse.at_l, R_sse.at_l, R_is.at_l, R_ibsseeeeebe.at_l, R_eee.at_l, R_iss.at_l, R_issseee.at_l, R_sssbiseee.at_l, R_iseee.at_l, R_ssee.at_l, R_isi.at_l]
  rfl
theorem d_spec_l20Field {es : List El} {s : ByteArray} (hl : es.length ≤ maxLen) (hq : ∀ e ∈ es, IsFieldDef e) : Dn F.spec_l20Field [vsl es, .leaf (.str s)] [] = some (vint (idxP (at0 s) 0 es), []) := by
  apply den_of
  rw [run_spec_l20Field]
  refine find_int (es := es) (A := fun i => spec_l20Field_A Dn (spec_l20Field_0 es s i)) (by rw [spec_l20Field_0_eq]; simp) fun i hi => ?_
  obtain ⟨x, hx, _⟩ := (hq _ (List.getElem_mem hi)).st
  rw [spec_l20Field_0_eq]
  simp -implicitDefEqProofs only [Int.ofNat_lt, decide_true, branch_true, Int.natCast_nonneg, Bool.and_true, Int.toNat_natCast, guarded_true, hi, wrap_upL (Nat.lt_of_lt_of_le hi hl), sized_all (fun e he => (hq e he).len), getD_lt hi, hx, R_ss.at_l, R_isee.at_l, R_sisee.at_l, R_se.at_l, R_ssssbiseee.at_l, R_ssesse.at_l, R_sse.at_l, R_is.at_l, R_ibsseeeeebe.at_l, R_eee.at_l, R_iss.at_l, R_issseee.at_l, R_sssbiseee.at_l, R_iseee.at_l, R_ssee.at_l, R_isi.at_l]
  rfl
theorem d_spec_l18Has {es : List El} {s : ByteArray} (hl : es.length ≤ maxLen) (hq : ∀ e ∈ es, IsStr e) : Dn F.spec_l18Has [vsl es, .leaf (.str s)] [] = some (vbool (es.any (at0 s)), []) := by
  apply den_of
  rw [run_spec_l18Has]
  refine any_bool (es := es) (A := fun i => spec_l18Has_A Dn (spec_l18Has_0 es s i)) (by rw [spec_l18Has_0_eq]; simp) fun i hi => ?_
  obtain ⟨u, hu, _⟩ := hq _ (List.getElem_mem hi)
  rw [spec_l18Has_0_eq]
  simp -implicitDefEqProofs only [Int.ofNat_lt, decide_true, branch_true, Int.natCast_nonneg, Bool.and_true, Int.toNat_natCast, guarded_true, hi, wrap_upL (Nat.lt_of_lt_of_le hi hl), sized_all (fun e he => (hq e he).len), getD_lt hi, hu, aBool_z, aInt_z, aStr_z, aSl_z]
  rfl
theorem d_slices_Contains {es : List El} {s : ByteArray} (hl : es.length ≤ maxLen) (hq : ∀ e ∈ es, IsStr e) : Dn F.slices_Contains_S_string_string [vsl es, .leaf (.str s)] [] = some (vbool (es.any (at0 s)), []) := by
  have key : Dn F.slices_Index_S_string_string [vsl es, .leaf (.str s)] [] = some (vint (idxP (at0 s) 0 es), []) := by
    apply den_of
    rw [run_slices_Index_S_string_string]
    refine find_int (es := es) (A := fun i => slices_Index_S_string_string_A Dn (slices_Index_S_string_string_0 es s es.length i)) (by rw [slices_Index_S_string_string_0_eq]; simp) fun i hi => ?_
    obtain ⟨u, hu, _⟩ := hq _ (List.getElem_mem hi)
    rw [slices_Index_S_string_string_0_eq]
    simp -implicitDefEqProofs only [Int.ofNat_lt, decide_true, branch_true, Int.natCast_nonneg, Bool.and_true, Int.toNat_natCast, guarded_true, hi, wrap_upL (Nat.lt_of_lt_of_le hi hl), sized_all (fun e he => (hq e he).len), getD_lt hi, hu, aBool_z, aInt_z, aStr_z, aSl_z, beq_sym s.toList]
    rfl
  apply den_of
  rw [run_slices_Contains_S_string_string, key, rInt_eq, idxP_any _ _ _ (by omega)]
theorem d_impl_InAt {es : List El} {s : ByteArray} (hl : es.length ≤ maxLen) (hq : ∀ e ∈ es, IsInDef e) : Dn F.impl_InAt [vsl es, .leaf (.str s)] [] = some (vint (idxP (at0 s) 0 es), []) := by
  have key : Dn F.slices_IndexFunc_S_impl_InDef_impl_InDef [vsl es, .fn F.impl_InAt_1 [.ptr 0 0]] [[.leaf (.str s)]] = some (vint (idxP (at0 s) 0 es), [[.leaf (.str s)]]) := by
    apply den_of
    rw [run_slices_IndexFunc_S_impl_InDef_impl_InDef_c1p1]
    refine find_int (es := es) (A := fun i => slices_IndexFunc_S_impl_InDef_impl_InDef_c1p1_A Dn (slices_IndexFunc_S_impl_InDef_impl_InDef_c1p1_0 es F.impl_InAt_1 es.length i s)) (by rw [slices_IndexFunc_S_impl_InDef_impl_InDef_c1p1_0_eq]; simp) fun i hi => ?_
    obtain ⟨x, hx, _⟩ := (hq _ (List.getElem_mem hi)).st
    have hc : Dn F.impl_InAt_1 [.agg x.l, .ptr 0 0] [[.leaf (.str s)]] = some (vbool (x.a0.toList == s.toList), [[.leaf (.str s)]]) := den_of (run_impl_InAt_1 ..)
    rw [slices_IndexFunc_S_impl_InDef_impl_InDef_c1p1_0_eq]
    simp -implicitDefEqProofs only [Int.ofNat_lt, decide_true, branch_true, Int.natCast_nonneg, Bool.and_true, Int.toNat_natCast, guarded_true, hi, wrap_upL (Nat.lt_of_lt_of_le hi hl), sized_all (fun e he => (hq e he).len), getD_lt hi, hx, R_ssssbiseee.rd_l, hc, rBoolS_eq]
    rfl
  apply den_of
  rw [run_impl_InAt, key, rIntS_eq]
def noField : R_ssesse := ⟨nul, nul, [], nul, nul, []⟩
theorem isNoField : IsFieldDef noField.l := show IsFieldDef [.str nul, .str nul, .sl fP [], .str nul, .str nul, .sl fP []] from .mk nul nul [] nul nul [] (by decide) (by decide) (by decide) (fun _ h => by cases h) (by decide) (by decide) (by decide) (fun _ h => by cases h)
def fldOf (es : List El) (s : ByteArray) : R_ssesse := if idxP (at0 s) 0 es < 0 then noField else .of (es.getD (idxP (at0 s) 0 es).toNat [])
theorem isFldOf {es : List El} {s : ByteArray} (hq : ∀ e ∈ es, IsFieldDef e) : IsFieldDef (fldOf es s).l := by
  unfold fldOf
  split
  · exact isNoField
  · rename_i h
    obtain ⟨j, hj, hi, _⟩ := idxP_get h
    obtain ⟨y, hy, iy⟩ := (hq _ (List.getElem_mem hj)).st
    rw [hi, Int.toNat_natCast, getD_lt hj, hy]
    exact iy
theorem d_impl_fieldOf {x : R_ibsseeeeebe} {s : ByteArray} (hx : IsDef x.l) : Dn F.impl_fieldOf [.agg x.l, .leaf (.str s)] [] = some (.tup [.agg (fldOf x.a5 s).l, vbool (!decide (idxP (at0 s) 0 x.a5 < 0))], []) := by
  obtain ⟨_, _, _, _, hl, hq, _⟩ := hx.p
  have key : Dn F.slices_IndexFunc_S_impl_FieldDef_impl_FieldDef [vsl x.a5, .fn F.impl_fieldOf_1 [.ptr 0 0]] [[.leaf (.str s)]] = some (vint (idxP (at0 s) 0 x.a5), [[.leaf (.str s)]]) := by
    apply den_of
    rw [run_slices_IndexFunc_S_impl_FieldDef_impl_FieldDef_c1p1]
    refine find_int (es := x.a5) (A := fun i => slices_IndexFunc_S_impl_FieldDef_impl_FieldDef_c1p1_A Dn (slices_IndexFunc_S_impl_FieldDef_impl_FieldDef_c1p1_0 x.a5 F.impl_fieldOf_1 x.a5.length i s)) (by rw [slices_IndexFunc_S_impl_FieldDef_impl_FieldDef_c1p1_0_eq]; simp) fun i hi => ?_
    obtain ⟨x, hx, _⟩ := (hq _ (List.getElem_mem hi)).st
    have hc : Dn F.impl_fieldOf_1 [.agg x.l, .ptr 0 0] [[.leaf (.str s)]] = some (vbool (x.a0.toList == s.toList), [[.leaf (.str s)]]) := den_of (run_impl_fieldOf_1 ..)
    rw [slices_IndexFunc_S_impl_FieldDef_impl_FieldDef_c1p1_0_eq]
    simp -implicitDefEqProofs only [Int.ofNat_lt, decide_true, branch_true, Int.natCast_nonneg, Bool.and_true, Int.toNat_natCast, guarded_true, hi, wrap_upL (Nat.lt_of_lt_of_le hi hl), sized_all (fun e he => (hq e he).len), getD_lt hi, hx, R_ssesse.rd_l, hc, rBoolS_eq]
    rfl
  apply den_of
  rw [run_impl_fieldOf, key, rIntS_eq]
  unfold fldOf
  by_cases h : idxP (at0 s) 0 x.a5 < 0
  · simp -implicitDefEqProofs only [h, decide_true, branch_true, if_true]
    rfl
  · obtain ⟨j, hj, hi, _⟩ := idxP_get h
    obtain ⟨y, hy, iy⟩ := (hq _ (List.getElem_mem hj)).st
    have hn : ¬ ((j : Int) < 0) := by omega
    simp -implicitDefEqProofs only [decide_false, branch_false, hi, hn, if_false, Int.ofNat_lt, decide_true, branch_true, Int.natCast_nonneg, Bool.and_true, Int.toNat_natCast, guarded_true, hj, sized_all (fun e he => (hq e he).len), getD_lt hj, hy, R_ssesse.rd_l, R_ssesse.of_l]
    rfl
/-- A thing that has to be handed in. -/
def needs (e : El) : Bool := ends (strAt e 3) 33 && !boolAt e 4
def reqIn (es : List El) : List El := es.flatMap fun e => ifP (needs e) [.str (strAt e 0)]
theorem reqIn_eq (es : List El) : reqIn es = flatI (fun _ e => ifP (needs e) [.str (strAt e 0)]) 0 es := (flatI_const _ _ _).symm
theorem reqIn_len (es : List El) : (reqIn es).length ≤ es.length := by
  rw [reqIn_eq]
  have := flatI_len (g := fun _ e => ifP (needs e) [.str (strAt e 0)]) (c := 1) es 0 fun j hj => ifP_len _ _
  omega
theorem reqIn_all {es : List El} (hq : ∀ e ∈ es, IsInDef e) : ∀ e ∈ reqIn es, IsStr e := by
  intro e he
  unfold reqIn at he
  obtain ⟨x, hx, hm⟩ := List.mem_flatMap.1 he
  obtain ⟨_, rfl⟩ := ifP_mem hm
  obtain ⟨y, rfl, iy⟩ := (hq x hx).st
  exact ⟨y.a0, rfl, iy.p.1⟩
theorem d_spec_RequiredIn {es : List El} (hl : es.length ≤ 1048576) (hq : ∀ e ∈ es, IsInDef e) : Dn F.spec_RequiredIn [vsl es] [] = some (.own (some T.string) (reqIn es), []) := by
  have hml : (1048576 : Nat) ≤ maxLen := by decide
  apply den_of
  rw [run_spec_RequiredIn, reqIn_eq]
  refine app_loop1 (es := es) (g := fun _ e => ifP (needs e) [.str (strAt e 0)]) (c := 1) (N := 4000000) (A := fun out i => spec_RequiredIn_A Dn (spec_RequiredIn_0 es out i)) (fin := fun out => some (.own (some T.string) out, [])) (fun j hj => ifP_len _ _) (fun out _ => by rw [spec_RequiredIn_0_eq]; simp) (fun i hi out ho => ?_) (by omega)
  obtain ⟨x, hx, ix⟩ := (hq _ (List.getElem_mem hi)).st
  have hn := d_spec_Needed (x := ⟨x.a2, x.a3⟩) ix.p.2.2.2.1
  have hw := wrap_upL (Nat.lt_of_lt_of_le hi (Nat.le_trans hl hml))
  rw [spec_RequiredIn_0_eq, hx]
  simp -implicitDefEqProofs only [Int.ofNat_lt, decide_true, branch_true, Int.natCast_nonneg, Bool.and_true, Int.toNat_natCast, guarded_true, hi, sized_all (fun e he => (hq e he).len), getD_lt hi, hx, bindE_eq, R_ss.at_l, R_isee.at_l, R_sisee.at_l, R_se.at_l, R_ssssbiseee.at_l, R_ssesse.at_l, R_sse.at_l, R_is.at_l, R_ibsseeeeebe.at_l, R_eee.at_l, R_iss.at_l, R_issseee.at_l, R_sssbiseee.at_l, R_iseee.at_l, R_ssee.at_l, R_isi.at_l, hn, rBool_eq, bT]
  rw [show needs x.l = (ends x.a3 33 && !x.a4) from rfl, show strAt x.l 0 = x.a0 from rfl]
  cases ends x.a3 33 <;> cases x.a4 <;> simp -implicitDefEqProofs only [branch_true, branch_false, Bool.not_true, Bool.not_false, Bool.and_true, Bool.and_false, Bool.true_and, Bool.false_and, ifP_true, ifP_false, List.append_nil, spec_RequiredIn_1_eq, spec_RequiredIn_2_eq, Int.ofNat_lt, decide_true, branch_true, Int.natCast_nonneg, Bool.and_true, Int.toNat_natCast, guarded_true, hi, sized_all (fun e he => (hq e he).len), getD_lt hi, hx, R_ss.at_l, R_isee.at_l, R_sisee.at_l, R_se.at_l, R_ssssbiseee.at_l, R_ssesse.at_l, R_sse.at_l, R_is.at_l, R_ibsseeeeebe.at_l, R_eee.at_l, R_iss.at_l, R_issseee.at_l, R_sssbiseee.at_l, R_iseee.at_l, R_ssee.at_l, R_isi.at_l, room (z := 16) (show out.length + 1 ≤ 1000000000000 by omega) (by decide), hw]
theorem d_impl_RequiredIn {es : List El} (hl : es.length ≤ 1048576) (hq : ∀ e ∈ es, IsInDef e) : Dn F.impl_RequiredIn [vsl es] [] = some (.own (some T.string) (reqIn es), []) := by
  have hml : (1048576 : Nat) ≤ maxLen := by decide
  apply den_of
  rw [run_impl_RequiredIn, reqIn_eq]
  refine app_loop1 (es := es) (g := fun _ e => ifP (needs e) [.str (strAt e 0)]) (c := 1) (N := 4000000) (A := fun out i => impl_RequiredIn_A Dn (impl_RequiredIn_0 out es es.length i)) (fin := fun out => some (.own (some T.string) out, [])) (fun j hj => ifP_len _ _) (fun out _ => by rw [impl_RequiredIn_0_eq]; simp) (fun i hi out ho => ?_) (by omega)
  obtain ⟨x, hx, ix⟩ := (hq _ (List.getElem_mem hi)).st
  have hn := d_impl_Needed (x := ⟨x.a2, x.a3⟩) ix.p.2.2.2.1
  have hw := wrap_upL (Nat.lt_of_lt_of_le hi (Nat.le_trans hl hml))
  rw [impl_RequiredIn_0_eq, hx]
  simp -implicitDefEqProofs only [Int.ofNat_lt, decide_true, branch_true, Int.natCast_nonneg, Bool.and_true, Int.toNat_natCast, guarded_true, hi, sized_all (fun e he => (hq e he).len), getD_lt hi, hx, R_ssssbiseee.rd_l, hn, rBool_eq, bT]
  rw [show needs x.l = (ends x.a3 33 && !x.a4) from rfl, show strAt x.l 0 = x.a0 from rfl]
  cases ends x.a3 33 <;> cases x.a4 <;> simp -implicitDefEqProofs only [branch_true, branch_false, Bool.not_true, Bool.not_false, Bool.and_true, Bool.and_false, Bool.true_and, Bool.false_and, ifP_true, ifP_false, List.append_nil, impl_RequiredIn_1_eq, impl_RequiredIn_2_eq, room (z := 16) (show out.length + 1 ≤ 1000000000000 by omega) (by decide), guarded_true, hw]
end Go.Vs
end
section
open Go Go.Vs Go.Proofs
set_option linter.unusedVariables false
set_option linter.unusedSimpArgs false
namespace Go.Vs
/-! ### Types by their names -/
def typeP (s : R_eee) (n : ByteArray) : Int := if s.a0.length > 60 then -1 else idxP (at3 n) 0 s.a0
theorem typeP_get {s : R_eee} {n : ByteArray} (hs : IsSchema s.l) (h : ¬ typeP s n < 0) : ∃ (j : Nat) (hj : j < s.a0.length) (y : R_ibsseeeeebe), typeP s n = (j : Int) ∧ s.a0[j] = y.l ∧ IsDef y.l := by
  unfold typeP at h ⊢
  split at h
  · omega
  · rename_i h60
    obtain ⟨j, hj, hi, _⟩ := idxP_get h
    obtain ⟨y, hy, iy⟩ := (hs.p.2.1 _ (List.getElem_mem hj)).st
    exact ⟨j, hj, y, by rw [if_neg h60, hi], hy, iy⟩
theorem typeP_ge {s : R_eee} {n : ByteArray} : typeP s n = -1 ∨ 0 ≤ typeP s n := by
  unfold typeP
  split
  · exact .inl rfl
  · rcases idxP_lt (at3 n) s.a0 0 (by omega) with h | h
    · exact .inl h
    · exact .inr h.1
def noDef : R_ibsseeeeebe := ⟨0, false, nul, nul, [], [], [], [], [], false, []⟩
theorem isNoDef : IsDef noDef.l := show IsDef [.int .i64 0, .bool false, .str nul, .str nul, .sl fP [], .sl fP [], .sl fP [], .sl fP [], .sl fP [], .bool false, .sl fP []] from
  .mk 0 false nul nul [] [] [] [] [] false [] (by decide) (by decide) (by decide) (fun _ h => by cases h) (by decide) (fun _ h => by cases h) (by decide) (fun _ h => by cases h) (by decide) (fun _ h => by cases h) (by decide) (fun _ h => by cases h) (by decide) (fun _ h => by cases h)
def defOf (s : R_eee) (n : ByteArray) : R_ibsseeeeebe := if typeP s n < 0 then noDef else .of (s.a0.getD (typeP s n).toNat [])
theorem isDefOf {s : R_eee} {n : ByteArray} (hs : IsSchema s.l) : IsDef (defOf s n).l := by
  unfold defOf
  split
  · exact isNoDef
  · rename_i h
    obtain ⟨j, hj, y, hi, hy, iy⟩ := typeP_get hs h
    rw [hi, Int.toNat_natCast, getD_lt hj, hy]
    exact iy
theorem defOf_at {s : R_eee} {n : ByteArray} {j : Nat} {hj : j < s.a0.length} {y : R_ibsseeeeebe} (hi : typeP s n = (j : Int)) (hy : s.a0[j] = y.l) : defOf s n = y := by
  unfold defOf
  rw [hi, if_neg (by omega), Int.toNat_natCast, getD_lt hj, hy]
  rfl
def builtP (n : ByteArray) : Bool := n.toList == (ByteArray.mk #[73, 110, 116]).toList || (n.toList == (ByteArray.mk #[70, 108, 111, 97, 116]).toList || (n.toList == (ByteArray.mk #[83, 116, 114, 105, 110, 103]).toList || (n.toList == (ByteArray.mk #[66, 111, 111, 108, 101, 97, 110]).toList || n.toList == (ByteArray.mk #[73, 68]).toList)))
def kindP (s : R_eee) (n : ByteArray) : Int := if typeP s n < 0 then (if builtP n = true then 1 else 0) else (defOf s n).a0
section
variable {s : R_eee} {n a b : ByteArray}
theorem d_spec_TypeAt (hs : IsSchema s.l) : Dn F.spec_TypeAt [.agg s.l, .leaf (.str n)] [] = some (vint (typeP s n), []) := by
  obtain ⟨hl, hq, _⟩ := hs.p
  apply den_of
  rw [run_spec_TypeAt]
  unfold typeP
  by_cases h60 : s.a0.length > 60
  · rw [if_pos h60, spec_TypeAt_0_eq]
    simp -implicitDefEqProofs only [spec_TypeAt_1_eq, bT, show ((s.a0.length : Int) ≤ 60) = False by simp; omega, decide_false, branch_false, branch_same]
  · rw [if_neg h60]
    have h6 : ((s.a0.length : Nat) : Int) ≤ 60 := by omega
    refine find_int (es := s.a0) (A := fun i => spec_TypeAt_A Dn (spec_TypeAt_0 n i s)) (by rw [spec_TypeAt_0_eq]; simp [spec_TypeAt_1_eq]) fun i hi => ?_
    obtain ⟨x, hx, _⟩ := (hq _ (List.getElem_mem hi)).st
    rw [spec_TypeAt_0_eq]
    simp -implicitDefEqProofs only [Int.ofNat_lt, decide_true, branch_true, Int.natCast_nonneg, Bool.and_true, Int.toNat_natCast, guarded_true, hi, h6, bT, spec_TypeAt_1_eq, wrap_upL (Nat.lt_of_lt_of_le hi hl), sized_all (fun e he => (hq e he).len), getD_lt hi, hx, R_ss.at_l, R_isee.at_l, R_sisee.at_l, R_se.at_l, R_ssssbiseee.at_l, R_ssesse.at_l, R_sse.at_l, R_is.at_l, R_ibsseeeeebe.at_l, R_eee.at_l, R_iss.at_l, R_issseee.at_l, R_sssbiseee.at_l, R_iseee.at_l, R_ssee.at_l, R_isi.at_l]
    rfl
theorem d_impl_TypeAt (hs : IsSchema s.l) : Dn F.impl_TypeAt [.agg s.l, .leaf (.str n)] [] = some (vint (typeP s n), []) := by
  obtain ⟨hl, hq, _⟩ := hs.p
  have key : Dn F.slices_IndexFunc_S_impl_Def_impl_Def [vsl s.a0, .fn F.impl_named_1 [.ptr 0 0]] [[.leaf (.str n)]] = some (vint (idxP (at3 n) 0 s.a0), [[.leaf (.str n)]]) := by
    apply den_of
    rw [run_slices_IndexFunc_S_impl_Def_impl_Def_c1p1]
    refine find_int (es := s.a0) (A := fun i => slices_IndexFunc_S_impl_Def_impl_Def_c1p1_A Dn (slices_IndexFunc_S_impl_Def_impl_Def_c1p1_0 s.a0 F.impl_named_1 s.a0.length i n)) (by rw [slices_IndexFunc_S_impl_Def_impl_Def_c1p1_0_eq]; simp) fun i hi => ?_
    obtain ⟨x, hx, _⟩ := (hq _ (List.getElem_mem hi)).st
    have hc : Dn F.impl_named_1 [.agg x.l, .ptr 0 0] [[.leaf (.str n)]] = some (vbool (x.a3.toList == n.toList), [[.leaf (.str n)]]) := den_of (run_impl_named_1 ..)
    rw [slices_IndexFunc_S_impl_Def_impl_Def_c1p1_0_eq]
    simp -implicitDefEqProofs only [Int.ofNat_lt, decide_true, branch_true, Int.natCast_nonneg, Bool.and_true, Int.toNat_natCast, guarded_true, hi, wrap_upL (Nat.lt_of_lt_of_le hi hl), sized_all (fun e he => (hq e he).len), getD_lt hi, hx, R_ibsseeeeebe.rd_l, hc, rBoolS_eq]
    rfl
  have k2 : Dn F.impl_named [vsl s.a0, .leaf (.str n)] [] = some (vint (typeP s n), []) := by
    apply den_of
    rw [run_impl_named, key, rIntS_eq, branch_ite]
    unfold typeP
    by_cases h60 : s.a0.length > 60
    · rw [if_pos h60, if_pos (by simp; omega)]
    · rw [if_neg h60, if_neg (by simp; omega)]
  apply den_of
  rw [run_impl_TypeAt, k2, rInt_eq]
theorem d_impl_typeDef (hs : IsSchema s.l) : Dn F.impl_typeDef [.agg s.l, .leaf (.str n)] [] = some (.tup [.agg (defOf s n).l, vbool (!decide (typeP s n < 0))], []) := by
  apply den_of
  rw [run_impl_typeDef, d_impl_TypeAt hs, rInt_eq]
  by_cases h : typeP s n < 0
  · have : defOf s n = noDef := by unfold defOf; rw [if_pos h]
    rw [this]
    simp -implicitDefEqProofs only [h, decide_true, branch_true]
    rfl
  · obtain ⟨j, hj, y, hi, hy, iy⟩ := typeP_get hs h
    have hn : ¬ ((j : Int) < 0) := by omega
    rw [defOf_at hi hy, hi]
    simp -implicitDefEqProofs only [hn, decide_false, branch_false, Int.ofNat_lt, decide_true, branch_true, Int.natCast_nonneg, Bool.and_true, Int.toNat_natCast, guarded_true, hj, sized_all (fun e he => (hs.p.2.1 e he).len), getD_lt hj, hy, R_ibsseeeeebe.rd_l]
    rfl
theorem d_spec_BuiltIn : Dn F.spec_BuiltIn [.leaf (.str n)] [] = some (vbool (builtP n), []) := by
  apply den_of
  rw [run_spec_BuiltIn]
  unfold builtP
  simp -implicitDefEqProofs only [bF]
  cases n.toList == (ByteArray.mk #[73, 110, 116]).toList <;> cases n.toList == (ByteArray.mk #[70, 108, 111, 97, 116]).toList <;> cases n.toList == (ByteArray.mk #[83, 116, 114, 105, 110, 103]).toList <;> cases n.toList == (ByteArray.mk #[66, 111, 111, 108, 101, 97, 110]).toList <;> rfl
theorem d_spec_KindOf (hs : IsSchema s.l) : Dn F.spec_KindOf [.agg s.l, .leaf (.str n)] [] = some (vint (kindP s n), []) := by
  apply den_of
  rw [run_spec_KindOf, d_spec_TypeAt hs, rInt_eq, d_spec_BuiltIn, rBool_eq]
  unfold kindP
  by_cases h : typeP s n < 0
  · have h' : ¬ typeP s n ≥ 0 := by omega
    rw [if_pos h]
    simp -implicitDefEqProofs only [h', decide_false, branch_false]
    cases builtP n <;> rfl
  · obtain ⟨j, hj, y, hi, hy, iy⟩ := typeP_get hs h
    rw [if_neg h, defOf_at hi hy, hi]
    simp -implicitDefEqProofs only [show ((j : Nat) : Int) ≥ 0 by omega, Int.ofNat_lt, decide_true, branch_true, Int.natCast_nonneg, Bool.and_true, Int.toNat_natCast, guarded_true, hj, sized_all (fun e he => (hs.p.2.1 e he).len), getD_lt hj, hy, R_ss.at_l, R_isee.at_l, R_sisee.at_l, R_se.at_l, R_ssssbiseee.at_l, R_ssesse.at_l, R_sse.at_l, R_is.at_l, R_ibsseeeeebe.at_l, R_eee.at_l, R_iss.at_l, R_issseee.at_l, R_sssbiseee.at_l, R_iseee.at_l, R_ssee.at_l, R_isi.at_l]

/-- May the one name stand where the other one is? -/
def subN (s : R_eee) (a b : ByteArray) : Bool :=
  if (a.toList == b.toList) = true then true
  else if (defOf s b).a0 = 3 then ((defOf s a).a0 == 2 || (defOf s a).a0 == 3) && (defOf s a).a4.any (at0 b)
  else if (defOf s b).a0 = 4 then (defOf s a).a0 == 2 && (defOf s b).a4.any (at0 a)
  else false
theorem d_impl_subName (hs : IsSchema s.l) : Dn F.impl_subName [.agg s.l, .leaf (.str a), .leaf (.str b)] [] = some (vbool (subN s a b), []) := by
  have ia := (isDefOf (n := a) hs).p
  have ib := (isDefOf (n := b) hs).p
  have ca := d_slices_Contains (s := b) ia.2.2.1 ia.2.2.2.1
  have cb := d_slices_Contains (s := a) ib.2.2.1 ib.2.2.2.1
  apply den_of
  rw [run_impl_subName, d_impl_typeDef hs, d_impl_typeDef hs]
  simp -implicitDefEqProofs only [vBool_eq, vInt_eq, vStr_eq, vSl_eq, rBool_eq, rInt_eq, rStr_eq, rSl_eq, rOwn_eq, rBool0_eq, rInt0_eq, rBoolS_eq, rIntS_eq, rCol_eq, aBool_z, aInt_z, aStr_z, aSl_z, cmb_a, Option.bind_some, svTupK_tup, headK_cons, headB_cons, lastK_nil, lastB_nil, svAggK_agg, svOwnK_own, branch_true, branch_false, guarded_true, beq_self_eq_true, Bool.not_true, Bool.not_false, Bool.and_true, Bool.true_and, bT, bF, R_ibsseeeeebe.va_l, ca, cb, branch_ite]
  unfold subN
  by_cases h1 : (a.toList == b.toList) = true
  · simp -implicitDefEqProofs only [h1, if_true]
  · rw [if_neg h1, if_neg h1]
    by_cases h3 : (defOf s b).a0 = 3
    · rw [if_pos (by simpa using h3), if_pos h3]
      cases h2 : ((defOf s a).a0 == 2) <;> cases h4 : ((defOf s a).a0 == 3) <;> simp
    · rw [if_neg (by simpa using h3), if_neg h3]
      by_cases h4 : (defOf s b).a0 = 4
      · rw [if_pos (by simpa using h4), if_pos h4]
        cases h2 : ((defOf s a).a0 == 2) <;> simp
      · rw [if_neg (by simpa using h4), if_neg h4]
theorem d_spec_l18Below (hs : IsSchema s.l) : Dn F.spec_l18Below [.agg s.l, .leaf (.str a), .leaf (.str b)] [] = some (vbool (subN s a b), []) := by
  have ia := (isDefOf (n := a) hs).p
  have ib := (isDefOf (n := b) hs).p
  have ca := d_spec_l18Has (s := b) ia.2.2.1 ia.2.2.2.1
  have cb := d_spec_l18Has (s := a) ib.2.2.1 ib.2.2.2.1
  apply den_of
  rw [run_spec_l18Below, d_spec_TypeAt hs, d_spec_TypeAt hs]
  simp -implicitDefEqProofs only [rInt_eq, bF, branch_not]
  unfold subN
  by_cases h1 : (a.toList == b.toList) = true
  · simp -implicitDefEqProofs only [h1, if_true, branch_true]
  rw [if_neg h1]
  simp -implicitDefEqProofs only [Bool.not_eq_true] at h1
  simp -implicitDefEqProofs only [h1, branch_false, spec_l18Below_0_eq]
  by_cases ha : typeP s a < 0
  · have : defOf s a = noDef := by unfold defOf; rw [if_pos ha]
    simp [ha, this, noDef]
  by_cases hb : typeP s b < 0
  · have : defOf s b = noDef := by unfold defOf; rw [if_pos hb]
    simp [ha, hb, this, noDef]
  obtain ⟨j, hj, y, hi, hy, iy⟩ := typeP_get hs ha
  obtain ⟨k, hk, z, hi', hz, iz⟩ := typeP_get hs hb
  rw [defOf_at hi hy] at ca ⊢
  rw [defOf_at hi' hz] at cb ⊢
  have nj : ¬ ((j : Nat) : Int) < 0 := by omega
  have nk : ¬ ((k : Nat) : Int) < 0 := by omega
  clear ia ib
  simp -implicitDefEqProofs only [nj, nk, if_false, ha, hb, decide_false, branch_false, hi, hi', Int.ofNat_lt, decide_true, branch_true, Int.natCast_nonneg, Bool.and_true, Int.toNat_natCast, guarded_true, hj, hk, sized_all (fun e he => (hs.p.2.1 e he).len), getD_lt hj, getD_lt hk, hy, hz, R_ibsseeeeebe.rd_l, spec_l18Below_1_eq, ca, cb, rBool_eq, bT, bF, branch_not, branch_ite]
  by_cases h3 : z.a0 = 3
  · have h4 : ¬ z.a0 = 4 := by omega
    rw [if_pos h3]
    cases h2 : (y.a0 == 2) <;> cases h5 : (y.a0 == 3) <;> simp [h3]
  · rw [if_neg h3]
    by_cases h4 : z.a0 = 4
    · rw [if_pos h4]
      cases h2 : (y.a0 == 2) <;> simp [h4]
    · rw [if_neg h4]
      simp [h3, h4]

end
theorem sub_ex (s : R_eee) (hs : IsSchema s.l) (k : Nat) : ∀ (x y : R_ss), x.a1.size + y.a1.size = k → x.a1.size ≤ maxLen → y.a1.size ≤ maxLen →
    ∃ b, spec_SubType_A Dn (spec_SubType_0 s x y) = some (vbool b, []) ∧ Dn F.impl_SubType [.agg s.l, .agg x.l, .agg y.l] [] = some (vbool b, []) := by
  induction k using Nat.strongRecOn with
  | ind k ih =>
    intro x y hk h1 h2
    obtain ⟨n1, w1⟩ := x
    obtain ⟨n2, w2⟩ := y
    simp only at hk h1 h2
    have ih' : ∀ (v1 v2 : ByteArray), v1.size + v2.size < k → v1.size ≤ maxLen → v2.size ≤ maxLen → ∃ b, spec_SubType_A Dn (spec_SubType_0 s ⟨n1, v1⟩ ⟨n2, v2⟩) = some (vbool b, []) ∧ Dn F.impl_SubType [.agg s.l, .agg (R_ss.l ⟨n1, v1⟩), .agg (R_ss.l ⟨n2, v2⟩)] [] = some (vbool b, []) :=
      fun v1 v2 hv g1 g2 => ih _ hv ⟨n1, v1⟩ ⟨n2, v2⟩ rfl g1 g2
    have sp := spec_SubType_0_eq Dn s ⟨n1, w1⟩ ⟨n2, w2⟩
    have im : run2V Tryz.prog Dn Hs limR F.impl_SubType [.agg s.l, .agg (R_ss.l ⟨n1, w1⟩), .agg (R_ss.l ⟨n2, w2⟩)] [] = _ := run_impl_SubType Dn s ⟨n1, w1⟩ ⟨n2, w2⟩
    have s33 : ∀ {w : ByteArray}, 0 < w.size → w.size ≤ maxLen → (((w.data.toList.getD (IntKind.i64.wrap ((w.size : Int) - 1)).toNat 0).toNat : Int) == 33) = ends w 33 := fun hp hw => last_is 33 (by omega) hp hw
    have s93 : ∀ {w : ByteArray}, 0 < w.size → w.size ≤ maxLen → (((w.data.toList.getD (IntKind.i64.wrap ((w.size : Int) - 1)).toNat 0).toNat : Int) == 93) = ends w 93 := fun hp hw => last_is 93 (by omega) hp hw
    have n33 : ∀ {w : ByteArray}, 0 < w.size → w.size ≤ maxLen → (((w.data.toList.getD (IntKind.i64.wrap ((w.size : Int) - 1)).toNat 0).toNat : Int) != 33) = !ends w 33 := fun hp hw => by rw [← s33 hp hw]; rfl
    have z0 : ∀ {w : ByteArray}, ¬ 0 < w.size → ∀ c, ends w c = false := fun h c => by unfold ends; simp [h]
    simp -implicitDefEqProofs only [d_unwrapped (x := ⟨n1, w1⟩) h1, d_unwrapped (x := ⟨n2, w2⟩) h2, vBool_eq, vInt_eq, vStr_eq, vSl_eq, rBool_eq, rInt_eq, rStr_eq, rSl_eq, rOwn_eq, rBool0_eq, rInt0_eq, rBoolS_eq, rIntS_eq, rCol_eq, aBool_z, aInt_z, aStr_z, aSl_z, cmb_a, Option.bind_some, svTupK_tup, headK_cons, headB_cons, lastK_nil, lastB_nil, svAggK_agg, svOwnK_own, branch_true, branch_false, guarded_true, beq_self_eq_true, Bool.not_true, Bool.not_false, Bool.and_true, Bool.true_and, bT, bF, R_ss.va_l] at im
    -- the two sides by the ends
    cases e2 : ends w2 33 with
    | true =>
      have p2 := ends_pos e2
      have q2 : ((w2.size : Nat) : Int) > 0 := by omega
      simp -implicitDefEqProofs only [q2, decide_true, bT, branch_true, grd_at p2 h2, guarded_true, s33 p2 h2, e2, spec_SubType_1_eq] at sp
      cases e1 : ends w1 33 with
      | false =>
        refine ⟨false, ?_, den_of ?_⟩
        · rw [sp]
          by_cases p1 : 0 < w1.size
          · have b1 : (((w1.size : Nat) : Int) == 0) = false := by rw [beq_eq_false_iff_ne]; omega
            simp -implicitDefEqProofs only [b1, bF, Bool.not_false, branch_true, grd_at p1 h1, guarded_true, n33 p1 h1, e1, spec_SubType_2_eq]
          · have b1 : (((w1.size : Nat) : Int) == 0) = true := by rw [beq_iff_eq]; omega
            simp -implicitDefEqProofs only [b1, bF, Bool.not_true, branch_false, spec_SubType_2_eq, branch_true]
        · rw [im]; simp -implicitDefEqProofs only [e1, e2, branch_true, branch_false]
      | true =>
        have p1 := ends_pos e1
        have b1 : (((w1.size : Nat) : Int) == 0) = false := by rw [beq_eq_false_iff_ne]; omega
        obtain ⟨b, k1, k2⟩ := ih' (cut w1) (cut w2) (by rw [cut_size, cut_size]; omega) (by rw [cut_size]; omega) (by rw [cut_size]; omega)
        refine ⟨b, ?_, den_of ?_⟩
        · rw [sp]
          simp -implicitDefEqProofs only [b1, bF, Bool.not_false, Bool.not_true, branch_true, branch_false, grd_at p1 h1, guarded_true, n33 p1 h1, e1, spec_SubType_2_eq, grd_hi p1 h1, grd_hi p2 h2, cut_hi p1 h1, cut_hi p2 h2, k1]
        · rw [im]; simp -implicitDefEqProofs only [e1, e2, branch_true, if_true, k2, rBool_eq]
    | false =>
      have sp1 : spec_SubType_A Dn (spec_SubType_0 s ⟨n1, w1⟩ ⟨n2, w2⟩) = spec_SubType_A Dn (spec_SubType_1 w1.size w2.size false s ⟨n1, w1⟩ ⟨n2, w2⟩) := by
        rw [sp]
        by_cases p2 : 0 < w2.size
        · have q2 : ((w2.size : Nat) : Int) > 0 := by omega
          simp -implicitDefEqProofs only [q2, decide_true, bT, branch_true, grd_at p2 h2, guarded_true, s33 p2 h2, e2]
        · have q2 : ¬ ((w2.size : Nat) : Int) > 0 := by omega
          simp -implicitDefEqProofs only [q2, decide_false, bT, branch_false]
      have sp2 : spec_SubType_A Dn (spec_SubType_1 w1.size w2.size false s ⟨n1, w1⟩ ⟨n2, w2⟩) = spec_SubType_A Dn (spec_SubType_3 w1.size w2.size (ends w1 33) s ⟨n1, w1⟩ ⟨n2, w2⟩) := by
        rw [spec_SubType_1_eq]
        by_cases p1 : 0 < w1.size
        · have q1 : ((w1.size : Nat) : Int) > 0 := by omega
          simp -implicitDefEqProofs only [q1, decide_true, bT, branch_true, branch_false, grd_at p1 h1, guarded_true, s33 p1 h1]
        · have q1 : ¬ ((w1.size : Nat) : Int) > 0 := by omega
          simp -implicitDefEqProofs only [q1, decide_false, bT, branch_false, z0 p1]
      rw [sp1, sp2]
      cases e1 : ends w1 33 with
      | true =>
        have p1 := ends_pos e1
        obtain ⟨b, k1, k2⟩ := ih' (cut w1) w2 (by rw [cut_size]; omega) (by rw [cut_size]; omega) h2
        refine ⟨b, ?_, den_of ?_⟩
        · rw [spec_SubType_3_eq]
          simp -implicitDefEqProofs only [branch_true, grd_hi p1 h1, guarded_true, cut_hi p1 h1, k1]
        · rw [im]; simp -implicitDefEqProofs only [e1, e2, branch_true, branch_false, if_true, k2, rBool_eq]
      | false =>
        have sp3 : spec_SubType_A Dn (spec_SubType_3 w1.size w2.size false s ⟨n1, w1⟩ ⟨n2, w2⟩) = spec_SubType_A Dn (spec_SubType_4 w1.size w2.size (ends w1 93 && ends w2 93) s ⟨n1, w1⟩ ⟨n2, w2⟩) := by
          rw [spec_SubType_3_eq]
          by_cases p1 : 0 < w1.size
          · have q1 : ((w1.size : Nat) : Int) > 0 := by omega
            by_cases p2 : 0 < w2.size
            · have q2 : ((w2.size : Nat) : Int) > 0 := by omega
              simp -implicitDefEqProofs only [q1, q2, decide_true, bT, branch_true, branch_false, grd_at p1 h1, grd_at p2 h2, guarded_true, s93 p1 h1, s93 p2 h2]
              cases ends w1 93 <;> simp -implicitDefEqProofs only [branch_true, branch_false, Bool.true_and, Bool.false_and, if_true, Bool.false_eq_true, if_false]
            · have q2 : ¬ ((w2.size : Nat) : Int) > 0 := by omega
              simp -implicitDefEqProofs only [q1, q2, decide_true, decide_false, bT, branch_true, branch_false, z0 p2, Bool.and_false]
          · have q1 : ¬ ((w1.size : Nat) : Int) > 0 := by omega
            simp -implicitDefEqProofs only [q1, decide_false, bT, branch_false, z0 p1, Bool.false_and]
        have im2 : run2V Tryz.prog Dn Hs limR F.impl_SubType [.agg s.l, .agg (R_ss.l ⟨n1, w1⟩), .agg (R_ss.l ⟨n2, w2⟩)] [] = impl_SubType_A Dn (impl_SubType_0 (ends w1 93 && ends w2 93) s ⟨n1, w1⟩ ⟨n2, w2⟩ ⟨n1, if ends w1 93 = true then cut w1 else w1⟩ ⟨n2, if ends w2 93 = true then cut w2 else w2⟩) := by
          rw [im]
          simp -implicitDefEqProofs only [e1, e2, branch_false, bT]
          cases ends w1 93 <;> simp -implicitDefEqProofs only [branch_true, branch_false, Bool.true_and, Bool.false_and, if_true, Bool.false_eq_true, if_false]
        rw [sp3]
        cases hb : (ends w1 93 && ends w2 93) with
        | true =>
          obtain ⟨l1, l2⟩ : ends w1 93 = true ∧ ends w2 93 = true := by simpa using hb
          have p1 := ends_pos l1
          have p2 := ends_pos l2
          obtain ⟨b, k1, k2⟩ := ih' (cut w1) (cut w2) (by rw [cut_size, cut_size]; omega) (by rw [cut_size]; omega) (by rw [cut_size]; omega)
          refine ⟨b, ?_, den_of ?_⟩
          · rw [spec_SubType_4_eq]
            simp -implicitDefEqProofs only [branch_true, grd_hi p1 h1, grd_hi p2 h2, guarded_true, cut_hi p1 h1, cut_hi p2 h2, k1]
          · rw [im2, hb, impl_SubType_0_eq]
            simp -implicitDefEqProofs only [branch_true, l1, l2, if_true, k2, rBool_eq]
        | false =>
          have c1 := d_spec_l18Below (a := n1) (b := n2) hs
          have c2 := d_impl_subName (a := n1) (b := n2) hs
          refine ⟨((w1.size : Int) == 0) && (((w2.size : Int) == 0) && subN s n1 n2), ?_, den_of ?_⟩
          · rw [spec_SubType_4_eq]
            simp -implicitDefEqProofs only [branch_false, bT, c1, rBool_eq]
            cases ((w1.size : Int) == 0) <;> cases ((w2.size : Int) == 0) <;> simp -implicitDefEqProofs only [branch_true, branch_false, Bool.true_and, Bool.false_and]
          · rw [im2, hb, impl_SubType_0_eq]
            simp -implicitDefEqProofs only [branch_false, bT, c2, rBool_eq, emp_is]
            cases ((w1.size : Int) == 0) <;> cases ((w2.size : Int) == 0) <;> simp -implicitDefEqProofs only [branch_true, branch_false, Bool.true_and, Bool.false_and]
open Classical in
noncomputable def subT (s : R_eee) (x y : R_ss) : Bool := if h : IsSchema s.l ∧ x.a1.size ≤ maxLen ∧ y.a1.size ≤ maxLen then Classical.choose (sub_ex s h.1 _ x y rfl h.2.1 h.2.2) else false
theorem d_spec_SubType {s : R_eee} {x y : R_ss} (hs : IsSchema s.l) (h1 : x.a1.size ≤ maxLen) (h2 : y.a1.size ≤ maxLen) : Dn F.spec_SubType [.agg s.l, .agg x.l, .agg y.l] [] = some (vbool (subT s x y), []) := by
  have h : IsSchema s.l ∧ x.a1.size ≤ maxLen ∧ y.a1.size ≤ maxLen := ⟨hs, h1, h2⟩
  apply den_of
  rw [run_spec_SubType]
  unfold subT
  rw [dif_pos h]
  exact (Classical.choose_spec (sub_ex s h.1 _ x y rfl h.2.1 h.2.2)).1
theorem d_impl_SubType {s : R_eee} {x y : R_ss} (hs : IsSchema s.l) (h1 : x.a1.size ≤ maxLen) (h2 : y.a1.size ≤ maxLen) : Dn F.impl_SubType [.agg s.l, .agg x.l, .agg y.l] [] = some (vbool (subT s x y), []) := by
  have h : IsSchema s.l ∧ x.a1.size ≤ maxLen ∧ y.a1.size ≤ maxLen := ⟨hs, h1, h2⟩
  unfold subT
  rw [dif_pos h]
  exact (Classical.choose_spec (sub_ex s h.1 _ x y rfl h.2.1 h.2.2)).2
end Go.Vs
end
section
open Go Go.Vs Go.Proofs
set_option linter.unusedVariables false
set_option linter.unusedSimpArgs false
namespace Go.Vs
/-! ### Problems -/
def pb (code : Int) (o p : ByteArray) : El := [.int .i64 code, .str o, .str p]
theorem isPb {c : Int} {o p : ByteArray} : IsProblem (pb c o p) := .mk _ _ _
theorem ifPb {q : Bool} {c : Int} {o p : ByteArray} : ∀ e ∈ ifP q (pb c o p), IsProblem e := fun e he => by obtain ⟨_, rfl⟩ := ifP_mem he; exact isPb
theorem app_all {a b : List El} (ha : ∀ e ∈ a, IsProblem e) (hb : ∀ e ∈ b, IsProblem e) : ∀ e ∈ a ++ b, IsProblem e := fun e he => (List.mem_append.1 he).elim (ha e) (hb e)
theorem flat_all {g : Nat → El → List El} {l : List El} {i : Nat} (h : ∀ (j : Nat) (x : El), ∀ e ∈ g j x, IsProblem e) : ∀ e ∈ flatI g i l, IsProblem e := fun e he => by
  obtain ⟨j, hj, hx⟩ := flatI_mem l i he
  exact h _ _ e hx
theorem room1 {out : List El} {z : Nat} (ho : out.length + 1 ≤ 1000000000) (hz : z ≤ 100) : decide ((out.length + 1) * z ≤ maxBytes) = true := room (by omega) hz
theorem d_add {q : Bool} {c : Int} {o p : ByteArray} {out : List El} (ho : out.length + 1 ≤ 1000000000) : Dn F.impl_problems_add [.ptr 0 0, .leaf (.bool q), vint c, .leaf (.str o), .leaf (.str p)] [[.own (some T.impl_Problem) out]] =
    some (.tup [], [[.own (some T.impl_Problem) (out ++ ifP q (pb c o p))]]) := by
  apply den_of
  rw [run_impl_problems_add]
  cases q
  · simp -implicitDefEqProofs only [branch_false, ifP_false, List.append_nil]
  · simp -implicitDefEqProofs only [branch_true, ifP_true, room1 (z := 40) ho (by decide), Bool.and_true, guarded_true]; rfl
theorem d_all {l out : List El} (hl : ∀ e ∈ l, IsProblem e) (ho : out.length + l.length ≤ 1000000000) : Dn F.impl_problems_all [.ptr 0 0, .leaf (.sl fP l)] [[.own (some T.impl_Problem) out]] =
    some (.tup [], [[.own (some T.impl_Problem) (out ++ l)]]) := by
  apply den_of
  rw [run_impl_problems_all]
  simp -implicitDefEqProofs only [room (z := 40) (show out.length + l.length ≤ 1000000000000 by omega) (by decide), sized_all (fun e he => (hl e he).len), Bool.and_self, guarded_true]

/-- Are there too many parts? -/
def bigP (x : R_ibsseeeeebe) : Bool := decide ((x.a4.length : Int) > 100) || (decide ((x.a5.length : Int) > 100) || (decide ((x.a6.length : Int) > 100) || (decide ((x.a7.length : Int) > 100) || x.a5.any fun f => decide (((slAt f 2).length : Int) > 100))))
theorem bigP_not {x : R_ibsseeeeebe} (h : bigP x = false) : x.a4.length ≤ 100 ∧ x.a5.length ≤ 100 ∧ x.a6.length ≤ 100 ∧ x.a7.length ≤ 100 ∧ ∀ f ∈ x.a5, (slAt f 2).length ≤ 100 := by
  unfold bigP at h
  simp -implicitDefEqProofs only [Bool.or_eq_false_iff, decide_eq_false_iff_not, List.any_eq_false, decide_eq_true_eq] at h
  obtain ⟨h1, h2, h3, h4, h5⟩ := h
  exact ⟨by omega, by omega, by omega, by omega, fun f hf => by have := h5 f hf; omega⟩
theorem d_spec_l20Big {x : R_ibsseeeeebe} (hx : IsDef x.l) : Dn F.spec_l20Big [.agg x.l] [] = some (vbool (bigP x), []) := by
  obtain ⟨_, _, _, _, hl, hq, _⟩ := hx.p
  apply den_of
  rw [run_spec_l20Big]
  have := any_loop (es := x.a5) (p := fun f => decide (((slAt f 2).length : Int) > 100)) (A := fun i => spec_l20Big_A Dn (spec_l20Big_0 i x)) (yes := some (vbool true, []))
    (no := some (vbool (decide ((x.a4.length : Int) > 100) || (decide ((x.a5.length : Int) > 100) || (decide ((x.a6.length : Int) > 100) || decide ((x.a7.length : Int) > 100)))), [])) (by
      rw [spec_l20Big_0_eq]
      simp -implicitDefEqProofs only [Int.lt_irrefl, decide_false, branch_false, bF, branch_not]
      cases decide ((x.a4.length : Int) > 100) <;> cases decide ((x.a5.length : Int) > 100) <;> cases decide ((x.a6.length : Int) > 100) <;> rfl) fun i hi => by
    obtain ⟨y, hy, _⟩ := (hq _ (List.getElem_mem hi)).st
    rw [spec_l20Big_0_eq]
    simp -implicitDefEqProofs only [Int.ofNat_lt, decide_true, branch_true, Int.natCast_nonneg, Bool.and_true, Int.toNat_natCast, guarded_true, hi, wrap_upL (Nat.lt_of_lt_of_le hi hl), sized_all (fun e he => (hq e he).len), getD_lt hi, hy, R_ss.at_l, R_isee.at_l, R_sisee.at_l, R_se.at_l, R_ssssbiseee.at_l, R_ssesse.at_l, R_sse.at_l, R_is.at_l, R_ibsseeeeebe.at_l, R_eee.at_l, R_iss.at_l, R_issseee.at_l, R_sssbiseee.at_l, R_iseee.at_l, R_ssee.at_l, R_isi.at_l]
    rfl
  rw [this]
  unfold bigP
  cases hb : x.a5.any fun f => decide (((slAt f 2).length : Int) > 100)
  · simp -implicitDefEqProofs only [Bool.false_eq_true, if_false, Bool.or_false]
  · simp -implicitDefEqProofs only [if_true, Bool.or_true]
theorem d_impl_tooMany {x : R_ibsseeeeebe} (hx : IsDef x.l) : Dn F.impl_tooMany [.agg x.l] [] = some (vbool (bigP x), []) := by
  obtain ⟨_, _, _, _, hl, hq, _⟩ := hx.p
  have key : Dn F.slices_IndexFunc_S_impl_FieldDef_impl_FieldDef [vsl x.a5, .fn F.impl_tooMany_1 []] [] = some (vint (idxP (fun f => decide (((slAt f 2).length : Int) > 100)) 0 x.a5), []) := by
    apply den_of
    rw [run_slices_IndexFunc_S_impl_FieldDef_impl_FieldDef_c0]
    refine find_int (es := x.a5) (A := fun i => slices_IndexFunc_S_impl_FieldDef_impl_FieldDef_c0_A Dn (slices_IndexFunc_S_impl_FieldDef_impl_FieldDef_c0_0 x.a5 F.impl_tooMany_1 x.a5.length i)) (by rw [slices_IndexFunc_S_impl_FieldDef_impl_FieldDef_c0_0_eq]; simp) fun i hi => ?_
    obtain ⟨y, hy, _⟩ := (hq _ (List.getElem_mem hi)).st
    have hc : Dn F.impl_tooMany_1 [.agg y.l] [] = some (vbool (decide ((y.a2.length : Int) > 100)), []) := den_of (run_impl_tooMany_1 ..)
    rw [slices_IndexFunc_S_impl_FieldDef_impl_FieldDef_c0_0_eq]
    simp -implicitDefEqProofs only [Int.ofNat_lt, decide_true, branch_true, Int.natCast_nonneg, Bool.and_true, Int.toNat_natCast, guarded_true, hi, wrap_upL (Nat.lt_of_lt_of_le hi hl), sized_all (fun e he => (hq e he).len), getD_lt hi, hy, R_ssesse.rd_l, hc, rBool0_eq]
    rfl
  have k2 : Dn F.slices_ContainsFunc_S_impl_FieldDef_impl_FieldDef [vsl x.a5, .fn F.impl_tooMany_1 []] [] = some (vbool (x.a5.any fun f => decide (((slAt f 2).length : Int) > 100)), []) := by
    apply den_of
    rw [run_slices_ContainsFunc_S_impl_FieldDef_impl_FieldDef_c0, key, rInt0_eq, idxP_any _ _ _ (by omega)]
  apply den_of
  rw [run_impl_tooMany]
  unfold bigP
  simp -implicitDefEqProofs only [impl_tooMany_0_eq, k2, rBool0_eq, bF, branch_not]
  cases decide ((x.a4.length : Int) > 100) <;> cases decide ((x.a5.length : Int) > 100) <;> cases decide ((x.a6.length : Int) > 100) <;> cases decide ((x.a7.length : Int) > 100) <;> rfl

/-! ### A field against that of an interface -/
def argBad (m : List El) (a : El) : Bool := if idxP (at0 (strAt a 0)) 0 m < 0 then true else !(strAt (m.getD (idxP (at0 (strAt a 0)) 0 m).toNat []) 2 == strAt a 2 && (strAt (m.getD (idxP (at0 (strAt a 0)) 0 m).toNat []) 3 == strAt a 3 && true))
def argA (nm : ByteArray) (mine own : R_ssesse) (a : El) : List El := ifP (argBad mine.a2 a) (pb 11 nm own.a0)
def argB (nm : ByteArray) (own : R_ssesse) (e : El) : List El := ifP (decide (idxP (at0 (strAt e 0)) 0 own.a2 < 0)) (pb 11 nm own.a0)
def argP (nm : ByteArray) (mine own : R_ssesse) : List El := flatI (fun _ => argA nm mine own) 0 own.a2 ++ flatI (fun _ => argB nm own) 0 (reqIn mine.a2)
theorem argP_len (nm : ByteArray) (mine own : R_ssesse) : (argP nm mine own).length ≤ own.a2.length + mine.a2.length := by
  unfold argP
  have h1 := flatI_len (g := fun _ => argA nm mine own) (c := 1) own.a2 0 fun j hj => ifP_len _ _
  have h2 := flatI_len (g := fun _ => argB nm own) (c := 1) (reqIn mine.a2) 0 fun j hj => ifP_len _ _
  have h3 := reqIn_len mine.a2
  rw [List.length_append]; omega
theorem argP_all {nm : ByteArray} {mine own : R_ssesse} : ∀ e ∈ argP nm mine own, IsProblem e := app_all (flat_all fun j x => ifPb) (flat_all fun j x => ifPb)
theorem d_spec_l20Args {nm : ByteArray} {m o : R_ssesse} {out : List El} (hm : IsFieldDef m.l) (ho : IsFieldDef o.l) (lm : m.a2.length ≤ 1048576) (lo : o.a2.length ≤ 1048576) (hN : out.length ≤ 900000000) :
    Dn F.spec_l20Args [.leaf (.str nm), .agg m.l, .agg o.l, .own (some T.impl_Problem) out] [] = some (.own (some T.impl_Problem) (out ++ argP nm m o), []) := by
  have hml : (1048576 : Nat) ≤ maxLen := by decide
  obtain ⟨_, _, _, qm, _⟩ := hm.p
  obtain ⟨_, _, _, qo, _⟩ := ho.p
  have lreq := reqIn_len m.a2
  apply den_of
  rw [run_spec_l20Args_o3]
  unfold argP
  rw [← List.append_assoc]
  refine app_loop0 (es := o.a2) (g := fun _ => argA nm m o) (c := 1) (N := 910000000) (A := fun out i => spec_l20Args_o3_A Dn (spec_l20Args_o3_0 nm out i m o))
    (fin := fun out => some (.own (some T.impl_Problem) (out ++ flatI (fun _ => argB nm o) 0 (reqIn m.a2)), [])) (fun j hj => ifP_len _ _) (fun out1 ho1 => ?_) (fun i hi out1 ho1 => ?_) (by omega)
  · rw [spec_l20Args_o3_0_eq]
    simp -implicitDefEqProofs only [Int.lt_irrefl, decide_false, branch_false, d_spec_RequiredIn lm qm, rOwn_eq]
    refine app_loop0 (es := reqIn m.a2) (g := fun _ => argB nm o) (c := 1) (N := 920000000) (A := fun out i => spec_l20Args_o3_A Dn (spec_l20Args_o3_2 nm out (reqIn m.a2) i o))
      (fin := fun out => some (.own (some T.impl_Problem) out, [])) (fun j hj => ifP_len _ _) (fun out2 ho2 => by rw [spec_l20Args_o3_2_eq]; simp) (fun i hi out2 ho2 => ?_) (by omega)
    obtain ⟨u, hu, _⟩ := reqIn_all qm _ (List.getElem_mem hi)
    have hw := wrap_upL (Nat.lt_of_lt_of_le hi (Nat.le_trans lreq (Nat.le_trans lm hml)))
    rw [spec_l20Args_o3_2_eq, hu]
    simp -implicitDefEqProofs only [Int.ofNat_lt, decide_true, branch_true, Int.natCast_nonneg, Bool.and_true, Int.toNat_natCast, guarded_true, hi, sized_all (fun e he => (reqIn_all qm e he).len), getD_lt hi, hu, aStr_z, d_spec_InAt (s := u) (Nat.le_trans lo hml) qo, rInt_eq]
    unfold argB
    rw [show strAt [Leaf.str u] 0 = u from rfl]
    cases decide (idxP (at0 u) 0 o.a2 < 0) <;> simp -implicitDefEqProofs only [branch_true, branch_false, ifP_true, ifP_false, List.append_nil, room1 (z := 40) (show out2.length + 1 ≤ 1000000000 by omega) (by decide), Bool.and_true, guarded_true, spec_l20Args_o3_4_eq, hw] <;> rfl
  · obtain ⟨a, ha, _⟩ := (qo _ (List.getElem_mem hi)).st
    have hw := wrap_upL (Nat.lt_of_lt_of_le hi (Nat.le_trans lo hml))
    have step : ∀ b : Bool, spec_l20Args_o3_A Dn (spec_l20Args_o3_1 nm out1 i b m o) = spec_l20Args_o3_A Dn (spec_l20Args_o3_0 nm (out1 ++ ifP b (pb 11 nm o.a0)) ((i + 1 : Nat) : Int) m o) := fun b => by
      rw [spec_l20Args_o3_1_eq]
      cases b <;> simp -implicitDefEqProofs only [branch_true, branch_false, ifP_true, ifP_false, List.append_nil, room1 (z := 40) (show out1.length + 1 ≤ 1000000000 by omega) (by decide), Bool.and_true, guarded_true, spec_l20Args_o3_3_eq, hw] <;> rfl
    rw [spec_l20Args_o3_0_eq, ha]
    simp -implicitDefEqProofs only [Int.ofNat_lt, decide_true, branch_true, Int.natCast_nonneg, Bool.and_true, Int.toNat_natCast, guarded_true, hi, sized_all (fun e he => (qo e he).len), getD_lt hi, ha, bindE_eq, R_ss.at_l, R_isee.at_l, R_sisee.at_l, R_se.at_l, R_ssssbiseee.at_l, R_ssesse.at_l, R_sse.at_l, R_is.at_l, R_ibsseeeeebe.at_l, R_eee.at_l, R_iss.at_l, R_issseee.at_l, R_sssbiseee.at_l, R_iseee.at_l, R_ssee.at_l, R_isi.at_l, d_spec_InAt (s := a.a0) (Nat.le_trans lm hml) qm, rInt_eq, step]
    unfold argA argBad
    rw [show strAt a.l 0 = a.a0 from rfl, show strAt a.l 2 = a.a2 from rfl, show strAt a.l 3 = a.a3 from rfl]
    by_cases h : idxP (at0 a.a0) 0 m.a2 < 0
    · simp -implicitDefEqProofs only [h, decide_true, show (true == false) = false from rfl, branch_false, if_true]
    · obtain ⟨j, hj, hi2, _⟩ := idxP_get h
      obtain ⟨y, hy, _⟩ := (qm _ (List.getElem_mem hj)).st
      have hn : ¬ ((j : Int) < 0) := by omega
      rw [hi2]
      simp -implicitDefEqProofs only [hn, decide_false, beq_self_eq_true, branch_true, if_false, Int.ofNat_lt, decide_true, branch_true, Int.natCast_nonneg, Bool.and_true, Int.toNat_natCast, guarded_true, hj, sized_all (fun e he => (qm e he).len), getD_lt hj, hy, R_ss.at_l, R_isee.at_l, R_sisee.at_l, R_se.at_l, R_ssssbiseee.at_l, R_ssesse.at_l, R_sse.at_l, R_is.at_l, R_ibsseeeeebe.at_l, R_eee.at_l, R_iss.at_l, R_issseee.at_l, R_sssbiseee.at_l, R_iseee.at_l, R_ssee.at_l, R_isi.at_l]
      rfl
/-- What is wrong with the field that an interface wants. -/
noncomputable def fldP (s : R_eee) (d : R_ibsseeeeebe) (own : R_ssesse) : List El :=
  if (decide (idxP (at0 own.a0) 0 d.a5 < 0) || !subT s ⟨(fldOf d.a5 own.a0).a3, (fldOf d.a5 own.a0).a4⟩ ⟨own.a3, own.a4⟩) = true then [pb 10 d.a3 own.a0] else argP d.a3 (fldOf d.a5 own.a0) own
theorem fldP_all {s : R_eee} {d : R_ibsseeeeebe} {own : R_ssesse} : ∀ e ∈ fldP s d own, IsProblem e := by
  unfold fldP
  split
  · intro e he; rw [List.mem_singleton.1 he]; exact isPb
  · exact argP_all
theorem fldOf_args {es : List El} {s : ByteArray} {k : Nat} (hq : ∀ e ∈ es, IsFieldDef e) (h : ∀ f ∈ es, (slAt f 2).length ≤ k) : (fldOf es s).a2.length ≤ k := by
  unfold fldOf
  split
  · exact Nat.zero_le _
  · rename_i h'
    obtain ⟨j, hj, hi, _⟩ := idxP_get h'
    obtain ⟨y, hy, _⟩ := (hq _ (List.getElem_mem hj)).st
    have := h _ (List.getElem_mem hj)
    rw [hy] at this
    rw [hi, Int.toNat_natCast, getD_lt hj, hy]
    exact this
theorem fldP_len {s : R_eee} {d : R_ibsseeeeebe} {own : R_ssesse} (hd : IsDef d.l) (bd : bigP d = false) (bo : own.a2.length ≤ 100) : (fldP s d own).length ≤ 200 := by
  unfold fldP
  split
  · simp
  · have h1 := argP_len d.a3 (fldOf d.a5 own.a0) own
    have h2 := fldOf_args (s := own.a0) hd.p.2.2.2.2.2.1 (bigP_not bd).2.2.2.2
    omega
section
variable {s : R_eee} {d x : R_ibsseeeeebe}
theorem d_sameField (hs : IsSchema s.l) (hd : IsDef d.l) (hx : IsDef x.l) (bd : bigP d = false) (bx : bigP x = false) :
    Dn F.impl_sameFieldProblems [.agg s.l, .agg d.l, .agg x.l] [] = some (.own (some T.impl_Problem) (flatI (fun _ e => fldP s d (.of e)) 0 x.a5), []) := by
  have hml : (1048576 : Nat) ≤ maxLen := by decide
  obtain ⟨_, _, _, _, hl, hq, _⟩ := hx.p
  obtain ⟨_, _, _, _, hld, hqd, _⟩ := hd.p
  have big := (bigP_not bx).2.2.2.2
  have hl100 := (bigP_not bx).2.1
  apply den_of
  rw [run_impl_sameFieldProblems]
  refine app_loop1 (es := x.a5) (g := fun _ e => fldP s d (.of e)) (c := 200) (N := 900000000) (A := fun out i => impl_sameFieldProblems_A Dn (impl_sameFieldProblems_0 x.a5 x.a5.length i s d out))
    (fin := fun out => some (.own (some T.impl_Problem) out, [])) (fun j hj => ?_) (fun out _ => by rw [impl_sameFieldProblems_0_eq]; simp) (fun i hi out ho => ?_) (by omega)
  · obtain ⟨y, hy, _⟩ := (hq _ (List.getElem_mem hj)).st
    have := big _ (List.getElem_mem hj)
    rw [hy] at this ⊢
    exact fldP_len hd bd this
  obtain ⟨y, hy, iy⟩ := (hq _ (List.getElem_mem hi)).st
  have by100 := big _ (List.getElem_mem hi)
  rw [hy] at by100
  have by2 : y.a2.length ≤ 100 := by100
  have hw := wrap_upL (Nat.lt_of_lt_of_le hi hl)
  obtain ⟨_, _, ly, qy, ny3, ny4, _⟩ := iy.p
  have im := isFldOf (s := y.a0) hqd
  have lm : (fldOf d.a5 y.a0).a2.length ≤ 100 := fldOf_args hqd (bigP_not bd).2.2.2.2
  obtain ⟨_, _, _, qm, nm3, nm4, _⟩ := im.p
  have hsub := d_impl_SubType (x := ⟨(fldOf d.a5 y.a0).a3, (fldOf d.a5 y.a0).a4⟩) (y := ⟨y.a3, y.a4⟩) hs nm4 ny4
  have two : ∀ out' : List El, impl_sameFieldProblems_A Dn (impl_sameFieldProblems_2 x.a5 x.a5.length i s d out') = impl_sameFieldProblems_A Dn (impl_sameFieldProblems_0 x.a5 x.a5.length ((i + 1 : Nat) : Int) s d out') := fun out' => by rw [impl_sameFieldProblems_2_eq, hw]
  have one : ∀ b : Bool, impl_sameFieldProblems_A Dn (impl_sameFieldProblems_1 x.a5 x.a5.length i b s d y (fldOf d.a5 y.a0) out) =
      impl_sameFieldProblems_A Dn (impl_sameFieldProblems_0 x.a5 x.a5.length ((i + 1 : Nat) : Int) s d (out ++ if b = true then [pb 10 d.a3 y.a0] else argP d.a3 (fldOf d.a5 y.a0) y)) := fun b => by
    rw [impl_sameFieldProblems_1_eq]
    cases b with
    | true => simp -implicitDefEqProofs only [branch_true, d_add (out := out) (show out.length + 1 ≤ 1000000000 by omega), rCol_eq, two, if_true, ifP_true]
    | false =>
      simp -implicitDefEqProofs only [branch_false, Bool.false_eq_true, if_false]
      have lreq := reqIn_len (fldOf d.a5 y.a0).a2
      unfold argP
      rw [← List.append_assoc]
      refine app_loop0 (es := y.a2) (g := fun _ => argA d.a3 (fldOf d.a5 y.a0) y) (c := 1) (N := 910000000) (A := fun out k => impl_sameFieldProblems_A Dn (impl_sameFieldProblems_3 x.a5 x.a5.length i y.a2 y.a2.length k s d y (fldOf d.a5 y.a0) out))
        (fin := fun out => impl_sameFieldProblems_A Dn (impl_sameFieldProblems_0 x.a5 x.a5.length ((i + 1 : Nat) : Int) s d (out ++ flatI (fun _ => argB d.a3 y) 0 (reqIn (fldOf d.a5 y.a0).a2)))) (fun j hj => ifP_len _ _) (fun out1 ho1 => ?_) (fun k hk out1 ho1 => ?_) (by omega)
      · rw [impl_sameFieldProblems_3_eq]
        simp -implicitDefEqProofs only [Int.lt_irrefl, decide_false, branch_false, d_impl_RequiredIn (es := (fldOf d.a5 y.a0).a2) (by omega) qm, rOwn_eq]
        refine app_loop0 (es := reqIn (fldOf d.a5 y.a0).a2) (g := fun _ => argB d.a3 y) (c := 1) (N := 920000000) (A := fun out k => impl_sameFieldProblems_A Dn (impl_sameFieldProblems_5 x.a5 x.a5.length i (reqIn (fldOf d.a5 y.a0).a2) (reqIn (fldOf d.a5 y.a0).a2).length k s d y out))
          (fin := fun out => impl_sameFieldProblems_A Dn (impl_sameFieldProblems_0 x.a5 x.a5.length ((i + 1 : Nat) : Int) s d out)) (fun j hj => ifP_len _ _) (fun out2 ho2 => by rw [impl_sameFieldProblems_5_eq]; simp -implicitDefEqProofs only [Int.lt_irrefl, decide_false, branch_false, two]) (fun k hk out2 ho2 => ?_) (by omega)
        obtain ⟨u, hu, _⟩ := reqIn_all qm _ (List.getElem_mem hk)
        have hwk := wrap_upL (i := k) (by omega)
        rw [impl_sameFieldProblems_5_eq, hu]
        simp -implicitDefEqProofs only [Int.ofNat_lt, decide_true, branch_true, Int.natCast_nonneg, Bool.and_true, Int.toNat_natCast, guarded_true, hk, sized_all (fun e he => (reqIn_all qm e he).len), getD_lt hk, hu, aStr_z, d_impl_InAt (s := u) ly qy, rInt_eq, d_add (out := out2) (show out2.length + 1 ≤ 1000000000 by omega), rCol_eq, hwk]
        rfl
      · obtain ⟨a, ha, _⟩ := (qy _ (List.getElem_mem hk)).st
        have hwk := wrap_upL (i := k) (by omega)
        rw [impl_sameFieldProblems_3_eq, ha]
        simp -implicitDefEqProofs only [Int.ofNat_lt, decide_true, branch_true, Int.natCast_nonneg, Bool.and_true, Int.toNat_natCast, guarded_true, hk, sized_all (fun e he => (qy e he).len), getD_lt hk, ha, R_ssssbiseee.rd_l, d_impl_InAt (s := a.a0) (es := (fldOf d.a5 y.a0).a2) (by omega) qm, rInt_eq, d_add (out := out1) (show out1.length + 1 ≤ 1000000000 by omega), rCol_eq, impl_sameFieldProblems_4_eq, hwk]
        unfold argA argBad
        rw [show strAt a.l 0 = a.a0 from rfl, show strAt a.l 2 = a.a2 from rfl, show strAt a.l 3 = a.a3 from rfl]
        by_cases h : idxP (at0 a.a0) 0 (fldOf d.a5 y.a0).a2 < 0
        · simp -implicitDefEqProofs only [h, decide_true, show (true == false) = false from rfl, branch_false, if_true]
        · obtain ⟨j, hj, hi2, _⟩ := idxP_get h
          obtain ⟨z, hz, _⟩ := (qm _ (List.getElem_mem hj)).st
          have hn : ¬ ((j : Int) < 0) := by omega
          have hmx : (if 0 < (j : Int) then (j : Int) else 0) = (j : Int) := by split <;> omega
          rw [hi2]
          simp -implicitDefEqProofs only [hn, decide_false, beq_self_eq_true, branch_true, if_false, if_true, hmx, Int.ofNat_lt, decide_true, branch_true, Int.natCast_nonneg, Bool.and_true, Int.toNat_natCast, guarded_true, hj, sized_all (fun e he => (qm e he).len), getD_lt hj, hz, bindE_eq, R_ss.at_l, R_isee.at_l, R_sisee.at_l, R_se.at_l, R_ssssbiseee.at_l, R_ssesse.at_l, R_sse.at_l, R_is.at_l, R_ibsseeeeebe.at_l, R_eee.at_l, R_iss.at_l, R_issseee.at_l, R_sssbiseee.at_l, R_iseee.at_l, R_ssee.at_l, R_isi.at_l, d_add (out := out1) (show out1.length + 1 ≤ 1000000000 by omega), rCol_eq, impl_sameFieldProblems_4_eq, hwk]
          rfl
  rw [impl_sameFieldProblems_0_eq, hy]
  simp -implicitDefEqProofs only [Int.ofNat_lt, decide_true, branch_true, Int.natCast_nonneg, Bool.and_true, Int.toNat_natCast, guarded_true, hi, sized_all (fun e he => (hq e he).len), getD_lt hi, hy, R_ssesse.rd_l, R_ssesse.of_l, R_ssesse.va_l, d_impl_fieldOf hd, Option.bind_some, svTupK_tup, headK_cons, vBool_eq, lastK_nil, hsub, rBool_eq, one, Bool.not_not, bF]
  unfold fldP
  cases decide (idxP (at0 y.a0) 0 d.a5 < 0) <;> simp -implicitDefEqProofs only [branch_true, branch_false, Bool.not_true, Bool.not_false, Bool.true_or, Bool.false_or]
end
end Go.Vs
end
section
open Go Go.Vs Go.Proofs
set_option linter.unusedVariables false
set_option linter.unusedSimpArgs false
namespace Go.Vs
/-! ### What is wrong with the interfaces of a type -/
theorem kind3 {s : R_eee} {n : ByteArray} : (kindP s n != 3) = ((defOf s n).a0 != 3) := by
  unfold kindP
  by_cases h : typeP s n < 0
  · rw [if_pos h]
    have : defOf s n = noDef := by unfold defOf; rw [if_pos h]
    rw [this]
    cases builtP n <;> rfl
  · rw [if_neg h]
/-- Of one interface of a type. -/
noncomputable def faceB (s : R_eee) (d : R_ibsseeeeebe) (f : ByteArray) : List El :=
  if ((defOf s f).a0 != 3 || f.toList == d.a3.toList) = true then [pb 9 d.a3 f]
  else if bigP (defOf s f) = true then [pb 5 d.a3 f]
  else flatI (fun _ m => ifP (!d.a4.any (at0 (strAt m 0))) (pb 9 d.a3 f)) 0 (defOf s f).a4 ++ flatI (fun _ e => fldP s d (.of e)) 0 (defOf s f).a5
noncomputable def faceP (s : R_eee) (d : R_ibsseeeeebe) (i : Nat) (e : El) : List El := ifP ((d.a4.take i).any (at0 (strAt e 0))) (pb 2 d.a3 (strAt e 0)) ++ faceB s d (strAt e 0)
noncomputable def facesP (s : R_eee) (d : R_ibsseeeeebe) : List El := if bigP d = true then [pb 5 d.a3 nul] else flatI (faceP s d) 0 d.a4
theorem faceB_all {s : R_eee} {d : R_ibsseeeeebe} {f : ByteArray} : ∀ e ∈ faceB s d f, IsProblem e := by
  unfold faceB
  split
  · intro e he; rw [List.mem_singleton.1 he]; exact isPb
  · split
    · intro e he; rw [List.mem_singleton.1 he]; exact isPb
    · exact app_all (flat_all fun j x => ifPb) (flat_all fun j x => fldP_all)
theorem facesP_all {s : R_eee} {d : R_ibsseeeeebe} : ∀ e ∈ facesP s d, IsProblem e := by
  unfold facesP
  split
  · intro e he; rw [List.mem_singleton.1 he]; exact isPb
  · exact flat_all fun j x => app_all ifPb faceB_all
section
variable {s : R_eee} {d : R_ibsseeeeebe}
theorem fld_len {x : R_ibsseeeeebe} (hd : IsDef d.l) (hx : IsDef x.l) (bd : bigP d = false) (bx : bigP x = false) : (flatI (fun _ e => fldP s d (.of e)) 0 x.a5).length ≤ 20000 := by
  have h2 := flatI_len (g := fun _ e => fldP s d (.of e)) (c := 200) x.a5 0 fun j hj => by
    obtain ⟨y, hy, _⟩ := (hx.p.2.2.2.2.2.1 _ (List.getElem_mem hj)).st
    have := (bigP_not bx).2.2.2.2 _ (List.getElem_mem hj)
    rw [hy] at this ⊢
    exact fldP_len hd bd this
  have := (bigP_not bx).2.1
  omega
theorem faceB_len {f : ByteArray} (hs : IsSchema s.l) (hd : IsDef d.l) (bd : bigP d = false) : (faceB s d f).length ≤ 20100 := by
  unfold faceB
  split
  · simp
  · split
    · simp
    · rename_i h
      have hb : bigP (defOf s f) = false := by simpa using h
      have h1 := flatI_len (g := fun _ m => ifP (!d.a4.any (at0 (strAt m 0))) (pb 9 d.a3 f)) (c := 1) (defOf s f).a4 0 fun j hj => ifP_len _ _
      have h2 := fld_len (s := s) hd (isDefOf (n := f) hs) bd hb
      have := (bigP_not hb).1
      rw [List.length_append]; omega
theorem facesP_len (hs : IsSchema s.l) (hd : IsDef d.l) : (facesP s d).length ≤ 2010100 := by
  unfold facesP
  split
  · simp
  · rename_i h
    have hb : bigP d = false := by simpa using h
    have h2 := flatI_len (g := faceP s d) (c := 20101) d.a4 0 fun j hj => by
      have h1 := ifP_len ((d.a4.take (0 + j)).any (at0 (strAt d.a4[j] 0))) (pb 2 d.a3 (strAt d.a4[j] 0))
      have h2 := faceB_len (f := strAt d.a4[j] 0) hs hd hb
      unfold faceP
      rw [List.length_append]; omega
    have := (bigP_not hb).1
    omega
theorem face_len {i : Nat} {e : El} (hs : IsSchema s.l) (hd : IsDef d.l) (bd : bigP d = false) : (faceP s d i e).length ≤ 20101 := by
  have h1 := ifP_len ((d.a4.take i).any (at0 (strAt e 0))) (pb 2 d.a3 (strAt e 0))
  have h2 := faceB_len (f := strAt e 0) hs hd bd
  unfold faceP
  rw [List.length_append]; omega
/-- The reference, behind the fields. -/
theorem spec_f6 {x : R_ibsseeeeebe} {i : Nat} (hs : IsSchema s.l) (hd : IsDef d.l) (hx : IsDef x.l) (bd : bigP d = false) (bx : bigP x = false) {out : List El} (ho : out.length ≤ 800000000) :
    spec_FaceProblems_A Dn (spec_FaceProblems_6 out i 0 s d x) = spec_FaceProblems_A Dn (spec_FaceProblems_3 (out ++ flatI (fun _ e => fldP s d (.of e)) 0 x.a5) i s d) := by
  obtain ⟨_, _, _, _, hl, hq, _⟩ := hx.p
  obtain ⟨_, _, _, _, hld, hqd, _⟩ := hd.p
  have big := (bigP_not bx).2.2.2.2
  have bigd := (bigP_not bd).2.2.2.2
  have l100 := (bigP_not bx).2.1
  refine app_loop0 (es := x.a5) (g := fun _ e => fldP s d (.of e)) (c := 200) (N := 810000000) (A := fun out k => spec_FaceProblems_A Dn (spec_FaceProblems_6 out i k s d x))
    (fin := fun out => spec_FaceProblems_A Dn (spec_FaceProblems_3 out i s d)) (fun j hj => ?_) (fun out _ => by rw [spec_FaceProblems_6_eq]; simp -implicitDefEqProofs only [Int.lt_irrefl, decide_false, branch_false]) (fun k hk out1 ho1 => ?_) (by omega)
  · obtain ⟨y, hy, _⟩ := (hq _ (List.getElem_mem hj)).st
    have := big _ (List.getElem_mem hj)
    rw [hy] at this ⊢
    exact fldP_len hd bd this
  obtain ⟨y, hy, iy⟩ := (hq _ (List.getElem_mem hk)).st
  have by100 := big _ (List.getElem_mem hk)
  rw [hy] at by100
  have hw := wrap_upL (Nat.lt_of_lt_of_le hk hl)
  obtain ⟨_, _, ly, qy, ny3, ny4, _⟩ := iy.p
  rw [spec_FaceProblems_6_eq, hy]
  simp -implicitDefEqProofs only [Int.ofNat_lt, decide_true, branch_true, Int.natCast_nonneg, Bool.and_true, Int.toNat_natCast, guarded_true, hk, sized_all (fun e he => (hq e he).len), getD_lt hk, hy, R_ssesse.rd_l, R_ssesse.of_l, d_spec_l20Field (s := y.a0) hld hqd, rInt_eq, bF, branch_not, spec_FaceProblems_7_eq]
  unfold fldP fldOf
  by_cases h : idxP (at0 y.a0) 0 d.a5 < 0
  · simp -implicitDefEqProofs only [h, decide_true, branch_true, Bool.true_or, if_true, room1 (z := 40) (show out1.length + 1 ≤ 1000000000 by omega) (by decide), Bool.and_true, guarded_true, spec_FaceProblems_8_eq, hw]
    rfl
  · obtain ⟨j, hj, hi2, _⟩ := idxP_get h
    obtain ⟨m, hm, im⟩ := (hqd _ (List.getElem_mem hj)).st
    have lm := bigd _ (List.getElem_mem hj)
    rw [hm] at lm
    have lm' : m.a2.length ≤ 100 := lm
    obtain ⟨_, _, _, qm, nm3, nm4, _⟩ := im.p
    have hn : ¬ ((j : Int) < 0) := by omega
    have hsub := d_spec_SubType (x := ⟨m.a3, m.a4⟩) (y := ⟨y.a3, y.a4⟩) hs nm4 ny4
    have harg := d_spec_l20Args (nm := d.a3) (out := out1) im iy (by omega) (by have : y.a2.length ≤ 100 := by100; omega) (by omega)
    rw [hi2]
    simp -implicitDefEqProofs only [hn, decide_false, branch_false, if_false, Bool.false_or, Int.ofNat_lt, decide_true, branch_true, Int.natCast_nonneg, Bool.and_true, Int.toNat_natCast, guarded_true, hj, sized_all (fun e he => (hqd e he).len), getD_lt hj, hm, bindE_eq, R_ss.at_l, R_isee.at_l, R_sisee.at_l, R_se.at_l, R_ssssbiseee.at_l, R_ssesse.at_l, R_sse.at_l, R_is.at_l, R_ibsseeeeebe.at_l, R_eee.at_l, R_iss.at_l, R_issseee.at_l, R_sssbiseee.at_l, R_iseee.at_l, R_ssee.at_l, R_isi.at_l, hsub, rBool_eq, R_ssesse.rd_l, R_ssesse.of_l, harg, rOwn_eq, spec_FaceProblems_8_eq, hw, room1 (z := 40) (show out1.length + 1 ≤ 1000000000 by omega) (by decide)]
    cases subT s ⟨m.a3, m.a4⟩ ⟨y.a3, y.a4⟩ <;> simp -implicitDefEqProofs only [Bool.not_true, Bool.not_false, branch_true, branch_false, if_true, Bool.false_eq_true, if_false]
    rfl
theorem spec_f4 {x : R_ibsseeeeebe} {i : Nat} {f : ByteArray} (hs : IsSchema s.l) (hd : IsDef d.l) (hx : IsDef x.l) (bd : bigP d = false) (bx : bigP x = false) {out : List El} (ho : out.length ≤ 700000000) :
    spec_FaceProblems_A Dn (spec_FaceProblems_4 out i f 0 s d x) = spec_FaceProblems_A Dn (spec_FaceProblems_3 (out ++ (flatI (fun _ m => ifP (!d.a4.any (at0 (strAt m 0))) (pb 9 d.a3 f)) 0 x.a4 ++ flatI (fun _ e => fldP s d (.of e)) 0 x.a5)) i s d) := by
  obtain ⟨_, _, hl, hq, _⟩ := hx.p
  obtain ⟨_, _, hld, hqd, _⟩ := hd.p
  have l100 := (bigP_not bx).1
  rw [← List.append_assoc]
  refine app_loop0 (es := x.a4) (g := fun _ m => ifP (!d.a4.any (at0 (strAt m 0))) (pb 9 d.a3 f)) (c := 1) (N := 710000000) (A := fun out k => spec_FaceProblems_A Dn (spec_FaceProblems_4 out i f k s d x))
    (fin := fun out => spec_FaceProblems_A Dn (spec_FaceProblems_3 (out ++ flatI (fun _ e => fldP s d (.of e)) 0 x.a5) i s d)) (fun j hj => ifP_len _ _) (fun out1 ho1 => by
      rw [spec_FaceProblems_4_eq]; simp -implicitDefEqProofs only [Int.lt_irrefl, decide_false, branch_false, spec_f6 hs hd hx bd bx (show out1.length ≤ 800000000 by omega)]) (fun k hk out1 ho1 => ?_) (by omega)
  obtain ⟨u, hu, _⟩ := hq _ (List.getElem_mem hk)
  have hw := wrap_upL (Nat.lt_of_lt_of_le hk hl)
  rw [spec_FaceProblems_4_eq, hu]
  simp -implicitDefEqProofs only [Int.ofNat_lt, decide_true, branch_true, Int.natCast_nonneg, Bool.and_true, Int.toNat_natCast, guarded_true, hk, sized_all (fun e he => (hq e he).len), getD_lt hk, hu, aStr_z, d_spec_l18Has (s := u) hld hqd, rBool_eq, spec_FaceProblems_5_eq, hw, room1 (z := 40) (show out1.length + 1 ≤ 1000000000 by omega) (by decide)]
  rw [show strAt [Leaf.str u] 0 = u from rfl]
  cases d.a4.any (at0 u) <;> simp -implicitDefEqProofs only [Bool.not_true, Bool.not_false, branch_true, branch_false, ifP_true, ifP_false, List.append_nil]
  rfl
theorem d_spec_FaceProblems (hs : IsSchema s.l) (hd : IsDef d.l) : Dn F.spec_FaceProblems [.agg s.l, .agg d.l] [] = some (.own (some T.impl_Problem) (facesP s d), []) := by
  apply den_of
  rw [run_spec_FaceProblems, d_spec_l20Big hd, rBool_eq]
  unfold facesP
  cases bd : bigP d with
  | true => simp -implicitDefEqProofs only [branch_true, if_true]; rfl
  | false =>
    simp -implicitDefEqProofs only [branch_false, Bool.false_eq_true, if_false]
    obtain ⟨_, _, hl, hq, _⟩ := hd.p
    have l100 := (bigP_not bd).1
    refine app_loop1 (es := d.a4) (g := faceP s d) (c := 20101) (N := 600000000) (A := fun out k => spec_FaceProblems_A Dn (spec_FaceProblems_0 out k s d))
      (fin := fun out => some (.own (some T.impl_Problem) out, [])) (fun j hj => face_len hs hd bd) (fun out1 ho1 => by rw [spec_FaceProblems_0_eq]; simp -implicitDefEqProofs only [Int.lt_irrefl, decide_false, branch_false]) (fun i hi out ho => ?_) (by omega)
    obtain ⟨f, hf, _⟩ := hq _ (List.getElem_mem hi)
    have hw := wrap_upL (Nat.lt_of_lt_of_le hi hl)
    have il : i ≤ d.a4.length := by omega
    have tk := d_spec_l18Has (es := d.a4.take i) (s := f) (by rw [List.length_take]; omega) (fun e he => hq e (List.mem_of_mem_take he))
    have three : ∀ out' : List El, spec_FaceProblems_A Dn (spec_FaceProblems_3 out' i s d) = spec_FaceProblems_A Dn (spec_FaceProblems_0 out' ((i + 1 : Nat) : Int) s d) := fun out' => by rw [spec_FaceProblems_3_eq, hw]
    have ix := isDefOf (n := f) hs
    have one : ∀ out' : List El, out'.length + 1 ≤ 700000000 → spec_FaceProblems_A Dn (spec_FaceProblems_1 out' i f s d) = spec_FaceProblems_A Dn (spec_FaceProblems_0 (out' ++ faceB s d f) ((i + 1 : Nat) : Int) s d) := fun out' ho' => by
      rw [spec_FaceProblems_1_eq, d_spec_KindOf hs, rInt_eq, kind3]
      have two : ∀ b : Bool, b = ((defOf s f).a0 != 3 || f.toList == d.a3.toList) → spec_FaceProblems_A Dn (spec_FaceProblems_2 out' i f b s d) = spec_FaceProblems_A Dn (spec_FaceProblems_0 (out' ++ faceB s d f) ((i + 1 : Nat) : Int) s d) := fun b hb => by
        rw [spec_FaceProblems_2_eq]
        unfold faceB
        rw [← hb]
        cases b with
        | true =>
          simp -implicitDefEqProofs only [branch_true, if_true, room1 (z := 40) (show out'.length + 1 ≤ 1000000000 by omega) (by decide), Bool.and_true, guarded_true, three]
          rfl
        | false =>
          have hk : ¬ typeP s f < 0 := fun h => by
            have : defOf s f = noDef := by unfold defOf; rw [if_pos h]
            rw [this] at hb
            simp [noDef] at hb
          obtain ⟨j, hj, y, hi2, hy, iy⟩ := typeP_get hs hk
          have hy2 := defOf_at hi2 hy
          simp -implicitDefEqProofs only [branch_false, Bool.false_eq_true, if_false, d_spec_TypeAt hs, rInt_eq, hi2, Int.ofNat_lt, decide_true, branch_true, Int.natCast_nonneg, Bool.and_true, Int.toNat_natCast, guarded_true, hj, sized_all (fun e he => (hs.p.2.1 e he).len), getD_lt hj, hy, R_ibsseeeeebe.rd_l, d_spec_l20Big iy, rBool_eq, hy2]
          cases bx : bigP y with
          | true =>
            simp -implicitDefEqProofs only [branch_true, if_true, room1 (z := 40) (show out'.length + 1 ≤ 1000000000 by omega) (by decide), Bool.and_true, guarded_true, three]
            rfl
          | false =>
            simp -implicitDefEqProofs only [branch_false, Bool.false_eq_true, if_false, spec_f4 hs hd iy bd bx (show out'.length ≤ 700000000 by omega), three]
      cases h3 : ((defOf s f).a0 != 3) with
      | true => simp -implicitDefEqProofs only [show (true == false) = false from rfl, branch_false]; exact two true (by rw [h3]; rfl)
      | false => simp -implicitDefEqProofs only [beq_self_eq_true, branch_true]; exact two _ (by rw [h3]; rfl)
    rw [spec_FaceProblems_0_eq, hf]
    simp -implicitDefEqProofs only [Int.ofNat_lt, decide_true, branch_true, Int.natCast_nonneg, Bool.and_true, Int.toNat_natCast, guarded_true, hi, il, sized_all (fun e he => (hq e he).len), getD_lt hi, hf, aStr_z, List.drop_zero, tk, rBool_eq, room1 (z := 40) (show out.length + 1 ≤ 1000000000 by omega) (by decide)]
    unfold faceP
    rw [show strAt [Leaf.str f] 0 = f from rfl, ← List.append_assoc]
    cases (d.a4.take i).any (at0 f)
    · simp -implicitDefEqProofs only [branch_false, ifP_false, List.append_nil]; exact one out (by omega)
    · simp -implicitDefEqProofs only [branch_true, ifP_true]; exact one _ (by rw [List.length_append, List.length_singleton]; omega)
theorem impl_f3 {x : R_ibsseeeeebe} {i : Nat} {f : ByteArray} (hs : IsSchema s.l) (hd : IsDef d.l) (hx : IsDef x.l) (bd : bigP d = false) (bx : bigP x = false) {out : List El} (ho : out.length ≤ 700000000) :
    impl_FaceProblems_A Dn (impl_FaceProblems_3 f d.a4 d.a4.length i x.a4 x.a4.length 0 s d x out) = impl_FaceProblems_A Dn (impl_FaceProblems_2 d.a4 d.a4.length i s d (out ++ (flatI (fun _ m => ifP (!d.a4.any (at0 (strAt m 0))) (pb 9 d.a3 f)) 0 x.a4 ++ flatI (fun _ e => fldP s d (.of e)) 0 x.a5))) := by
  obtain ⟨_, _, hl, hq, _⟩ := hx.p
  obtain ⟨_, _, hld, hqd, _⟩ := hd.p
  have l100 := (bigP_not bx).1
  have hfl := fld_len (s := s) hd hx bd bx
  rw [← List.append_assoc]
  refine app_loop0 (es := x.a4) (g := fun _ m => ifP (!d.a4.any (at0 (strAt m 0))) (pb 9 d.a3 f)) (c := 1) (N := 710000000) (A := fun out k => impl_FaceProblems_A Dn (impl_FaceProblems_3 f d.a4 d.a4.length i x.a4 x.a4.length k s d x out))
    (fin := fun out => impl_FaceProblems_A Dn (impl_FaceProblems_2 d.a4 d.a4.length i s d (out ++ flatI (fun _ e => fldP s d (.of e)) 0 x.a5))) (fun j hj => ifP_len _ _) (fun out1 ho1 => by
      rw [impl_FaceProblems_3_eq]
      simp -implicitDefEqProofs only [Int.lt_irrefl, decide_false, branch_false, d_sameField hs hd hx bd bx, rOwn_eq, d_all (l := flatI (fun _ e => fldP s d (.of e)) 0 x.a5) (out := out1) (flat_all fun j x => fldP_all) (by omega), rCol_eq]) (fun k hk out1 ho1 => ?_) (by omega)
  obtain ⟨u, hu, _⟩ := hq _ (List.getElem_mem hk)
  have hw := wrap_upL (Nat.lt_of_lt_of_le hk hl)
  rw [impl_FaceProblems_3_eq, hu]
  simp -implicitDefEqProofs only [Int.ofNat_lt, decide_true, branch_true, Int.natCast_nonneg, Bool.and_true, Int.toNat_natCast, guarded_true, hk, sized_all (fun e he => (hq e he).len), getD_lt hk, hu, aStr_z, d_slices_Contains (s := u) hld hqd, rBool_eq, d_add (out := out1) (show out1.length + 1 ≤ 1000000000 by omega), rCol_eq, hw]
  rfl
theorem d_impl_FaceProblems (hs : IsSchema s.l) (hd : IsDef d.l) : Dn F.impl_FaceProblems [.agg s.l, .agg d.l] [] = some (.own (some T.impl_Problem) (facesP s d), []) := by
  apply den_of
  rw [run_impl_FaceProblems, d_impl_tooMany hd, rBool_eq]
  unfold facesP
  cases bd : bigP d with
  | true => simp -implicitDefEqProofs only [branch_true, if_true, d_add (out := []) (show ([] : List El).length + 1 ≤ 1000000000 by decide), rCol_eq]; rfl
  | false =>
    simp -implicitDefEqProofs only [branch_false, Bool.false_eq_true, if_false]
    obtain ⟨_, _, hl, hq, _⟩ := hd.p
    have l100 := (bigP_not bd).1
    refine app_loop1 (es := d.a4) (g := faceP s d) (c := 20101) (N := 600000000) (A := fun out k => impl_FaceProblems_A Dn (impl_FaceProblems_0 d.a4 d.a4.length k s d out))
      (fin := fun out => some (.own (some T.impl_Problem) out, [])) (fun j hj => face_len hs hd bd) (fun out1 ho1 => by rw [impl_FaceProblems_0_eq]; simp -implicitDefEqProofs only [Int.lt_irrefl, decide_false, branch_false]) (fun i hi out ho => ?_) (by omega)
    obtain ⟨f, hf, _⟩ := hq _ (List.getElem_mem hi)
    have hw := wrap_upL (Nat.lt_of_lt_of_le hi hl)
    have il : i ≤ d.a4.length := by omega
    have tk := d_slices_Contains (es := d.a4.take i) (s := f) (by rw [List.length_take]; omega) (fun e he => hq e (List.mem_of_mem_take he))
    have two : ∀ out' : List El, impl_FaceProblems_A Dn (impl_FaceProblems_2 d.a4 d.a4.length i s d out') = impl_FaceProblems_A Dn (impl_FaceProblems_0 d.a4 d.a4.length ((i + 1 : Nat) : Int) s d out') := fun out' => by rw [impl_FaceProblems_2_eq, hw]
    have ix := isDefOf (n := f) hs
    have one : ∀ (b : Bool) (out' : List El), out'.length + 1 ≤ 700000000 → b = ((defOf s f).a0 != 3 || f.toList == d.a3.toList) → impl_FaceProblems_A Dn (impl_FaceProblems_1 f d.a4 d.a4.length i b s d (defOf s f) out') = impl_FaceProblems_A Dn (impl_FaceProblems_0 d.a4 d.a4.length ((i + 1 : Nat) : Int) s d (out' ++ faceB s d f)) := fun b out' ho' hb => by
      rw [impl_FaceProblems_1_eq]
      unfold faceB
      rw [← hb]
      cases b with
      | true => simp -implicitDefEqProofs only [branch_true, if_true, d_add (out := out') (show out'.length + 1 ≤ 1000000000 by omega), rCol_eq, two, ifP_true]
      | false =>
        simp -implicitDefEqProofs only [branch_false, Bool.false_eq_true, if_false, d_impl_tooMany ix, rBool_eq]
        cases bx : bigP (defOf s f) with
        | true => simp -implicitDefEqProofs only [branch_true, if_true, d_add (out := out') (show out'.length + 1 ≤ 1000000000 by omega), rCol_eq, two, ifP_true]
        | false => simp -implicitDefEqProofs only [branch_false, Bool.false_eq_true, if_false, impl_f3 hs hd ix bd bx (show out'.length ≤ 700000000 by omega), two]
    have hlen := ifP_len ((d.a4.take i).any (at0 f)) (pb 2 d.a3 f)
    rw [impl_FaceProblems_0_eq, hf]
    simp -implicitDefEqProofs only [Int.ofNat_lt, decide_true, branch_true, Int.natCast_nonneg, Bool.and_true, Int.toNat_natCast, guarded_true, hi, il, sized_all (fun e he => (hq e he).len), getD_lt hi, hf, aStr_z, List.drop_zero, tk, rBool_eq, d_add (out := out) (show out.length + 1 ≤ 1000000000 by omega), rCol_eq, d_impl_typeDef hs, Option.bind_some, svTupK_tup, headK_cons, R_ibsseeeeebe.va_l, vBool_eq, lastK_nil]
    unfold faceP
    rw [show strAt [Leaf.str f] 0 = f from rfl, ← List.append_assoc]
    cases h3 : ((defOf s f).a0 != 3) with
    | true => simp -implicitDefEqProofs only [show (true == false) = false from rfl, branch_false]; exact one true _ (by rw [List.length_append]; omega) (by rw [h3]; rfl)
    | false => simp -implicitDefEqProofs only [beq_self_eq_true, branch_true]; exact one _ _ (by rw [List.length_append]; omega) (by rw [h3]; rfl)

end
end Go.Vs
end
section
open Go Go.Vs Go.Proofs
set_option linter.unusedVariables false
set_option linter.unusedSimpArgs false
namespace Go.Vs
section
variable {x0_0 : List (List (Leaf false))} {x0_1 : List (List (Leaf false))} {x0_2 : List (List (Leaf false))} {x1_0 : Int} {x1_1 : Bool} {x1_2 : ByteArray} {x1_3 : ByteArray} {x1_4 : List (List (Leaf false))} {x1_5 : List (List (Leaf false))} {x1_6 : List (List (Leaf false))} {x1_7 : List (List (Leaf false))} {x1_8 : List (List (Leaf false))} {x1_9 : Bool} {x1_10 : List (List (Leaf false))}
theorem szd0 (h : IsSchema [.sl fP x0_0, .sl fP x0_1, .sl fP x0_2]) (c : Fl true) (n : Int) (hn : 0 ≤ n) : Dd F.laws_szSchema [.agg [.sl c (reE (fl c) x0_0), .sl c (reE (fl c) x0_1), .sl c (reE (fl c) x0_2)], .leaf (.int .i64 n)] [] = some (.leaf (.int .i64 (szL [.sl fP x0_0, .sl fP x0_1, .sl fP x0_2] n)), []) :=
  dd_told rfl (d_laws_szSchema h hn) (by
    have t0 := reS_agg c [.sl fP x0_0, .sl fP x0_1, .sl fP x0_2]
    simp only [reL, reF] at t0
    rw [List.map_cons, t0]; rfl) rfl rfl
theorem eqd0 (h : IsSchema [.sl fP x0_0, .sl fP x0_1, .sl fP x0_2]) (c c' : Fl true) : Dd F.laws_eqSchema [.agg [.sl c (reE (fl c) x0_0), .sl c (reE (fl c) x0_1), .sl c (reE (fl c) x0_2)], .agg [.sl c' (reE (fl c') x0_0), .sl c' (reE (fl c') x0_1), .sl c' (reE (fl c') x0_2)]] [] = some (.leaf (.bool true), []) :=
  dd_told rfl (d_laws_eqSchema h) (by
    have t0 := reS_agg c [.sl fP x0_0, .sl fP x0_1, .sl fP x0_2]
    simp only [reL, reF] at t0
    have t := reS_agg c' [.sl fP x0_0, .sl fP x0_1, .sl fP x0_2]
    simp only [reL, reF] at t
    rw [List.map_cons, List.map_cons, t0, t]; rfl) rfl rfl
theorem tod0 (h : IsSchema [.sl fP x0_0, .sl fP x0_1, .sl fP x0_2]) (ht : tL [.sl fP x0_0, .sl fP x0_1, .sl fP x0_2] ≤ 1048576) (c : Fl true) : Dd F.laws_toSchema [.agg [.sl c (reE (fl c) x0_0), .sl c (reE (fl c) x0_1), .sl c (reE (fl c) x0_2)]] [] = some (.agg [.sl fNew (reE (fl fNew) x0_0), .sl fNew (reE (fl fNew) x0_1), .sl fNew (reE (fl fNew) x0_2)], []) := by
  have := t_laws_toSchema (c := c) h ht
  simpa only [reL, reF] using this
theorem mkd0 (h : IsSchema [.sl fP x0_0, .sl fP x0_1, .sl fP x0_2]) (k : Int) : Dd F.laws_markSchema [.agg [.sl fSoft (soE x0_0), .sl fSoft (soE x0_1), .sl fSoft (soE x0_2)], .leaf (.int .i64 k)] [] = some (.leaf (.int .i64 (msL [.sl fP x0_0, .sl fP x0_1, .sl fP x0_2] (k))), []) := by
  have := t_laws_markSchema h k
  simpa only [saL, saF] using this
theorem szd1 (h : IsDef [.int .i64 x1_0, .bool x1_1, .str x1_2, .str x1_3, .sl fP x1_4, .sl fP x1_5, .sl fP x1_6, .sl fP x1_7, .sl fP x1_8, .bool x1_9, .sl fP x1_10]) (c : Fl true) (n : Int) (hn : 0 ≤ n) : Dd F.laws_szDef [.agg [.int .i64 x1_0, .bool x1_1, .str x1_2, .str x1_3, .sl c (reE (fl c) x1_4), .sl c (reE (fl c) x1_5), .sl c (reE (fl c) x1_6), .sl c (reE (fl c) x1_7), .sl c (reE (fl c) x1_8), .bool x1_9, .sl c (reE (fl c) x1_10)], .leaf (.int .i64 n)] [] = some (.leaf (.int .i64 (szL [.int .i64 x1_0, .bool x1_1, .str x1_2, .str x1_3, .sl fP x1_4, .sl fP x1_5, .sl fP x1_6, .sl fP x1_7, .sl fP x1_8, .bool x1_9, .sl fP x1_10] n)), []) :=
  dd_told rfl (d_laws_szDef h hn) (by
    have t1 := reS_agg c [.int .i64 x1_0, .bool x1_1, .str x1_2, .str x1_3, .sl fP x1_4, .sl fP x1_5, .sl fP x1_6, .sl fP x1_7, .sl fP x1_8, .bool x1_9, .sl fP x1_10]
    simp only [reL, reF] at t1
    rw [List.map_cons, t1]; rfl) rfl rfl
theorem eqd1 (h : IsDef [.int .i64 x1_0, .bool x1_1, .str x1_2, .str x1_3, .sl fP x1_4, .sl fP x1_5, .sl fP x1_6, .sl fP x1_7, .sl fP x1_8, .bool x1_9, .sl fP x1_10]) (c c' : Fl true) : Dd F.laws_eqDef [.agg [.int .i64 x1_0, .bool x1_1, .str x1_2, .str x1_3, .sl c (reE (fl c) x1_4), .sl c (reE (fl c) x1_5), .sl c (reE (fl c) x1_6), .sl c (reE (fl c) x1_7), .sl c (reE (fl c) x1_8), .bool x1_9, .sl c (reE (fl c) x1_10)], .agg [.int .i64 x1_0, .bool x1_1, .str x1_2, .str x1_3, .sl c' (reE (fl c') x1_4), .sl c' (reE (fl c') x1_5), .sl c' (reE (fl c') x1_6), .sl c' (reE (fl c') x1_7), .sl c' (reE (fl c') x1_8), .bool x1_9, .sl c' (reE (fl c') x1_10)]] [] = some (.leaf (.bool true), []) :=
  dd_told rfl (d_laws_eqDef h) (by
    have t1 := reS_agg c [.int .i64 x1_0, .bool x1_1, .str x1_2, .str x1_3, .sl fP x1_4, .sl fP x1_5, .sl fP x1_6, .sl fP x1_7, .sl fP x1_8, .bool x1_9, .sl fP x1_10]
    simp only [reL, reF] at t1
    have t := reS_agg c' [.int .i64 x1_0, .bool x1_1, .str x1_2, .str x1_3, .sl fP x1_4, .sl fP x1_5, .sl fP x1_6, .sl fP x1_7, .sl fP x1_8, .bool x1_9, .sl fP x1_10]
    simp only [reL, reF] at t
    rw [List.map_cons, List.map_cons, t1, t]; rfl) rfl rfl
theorem tod1 (h : IsDef [.int .i64 x1_0, .bool x1_1, .str x1_2, .str x1_3, .sl fP x1_4, .sl fP x1_5, .sl fP x1_6, .sl fP x1_7, .sl fP x1_8, .bool x1_9, .sl fP x1_10]) (ht : tL [.int .i64 x1_0, .bool x1_1, .str x1_2, .str x1_3, .sl fP x1_4, .sl fP x1_5, .sl fP x1_6, .sl fP x1_7, .sl fP x1_8, .bool x1_9, .sl fP x1_10] ≤ 1048576) (c : Fl true) : Dd F.laws_toDef [.agg [.int .i64 x1_0, .bool x1_1, .str x1_2, .str x1_3, .sl c (reE (fl c) x1_4), .sl c (reE (fl c) x1_5), .sl c (reE (fl c) x1_6), .sl c (reE (fl c) x1_7), .sl c (reE (fl c) x1_8), .bool x1_9, .sl c (reE (fl c) x1_10)]] [] = some (.agg [.int .i64 x1_0, .bool x1_1, .str x1_2, .str x1_3, .sl fNew (reE (fl fNew) x1_4), .sl fNew (reE (fl fNew) x1_5), .sl fNew (reE (fl fNew) x1_6), .sl fNew (reE (fl fNew) x1_7), .sl fNew (reE (fl fNew) x1_8), .bool x1_9, .sl fNew (reE (fl fNew) x1_10)], []) := by
  have := t_laws_toDef (c := c) h ht
  simpa only [reL, reF] using this
theorem mkd1 (h : IsDef [.int .i64 x1_0, .bool x1_1, .str x1_2, .str x1_3, .sl fP x1_4, .sl fP x1_5, .sl fP x1_6, .sl fP x1_7, .sl fP x1_8, .bool x1_9, .sl fP x1_10]) (k : Int) : Dd F.laws_markDef [.agg [.int .i64 x1_0, .bool x1_1, .str x1_2, .str x1_3, .sl fSoft (soE x1_4), .sl fSoft (soE x1_5), .sl fSoft (soE x1_6), .sl fSoft (soE x1_7), .sl fSoft (soE x1_8), .bool x1_9, .sl fSoft (soE x1_10)], .leaf (.int .i64 k)] [] = some (.leaf (.int .i64 (msL [.int .i64 x1_0, .bool x1_1, .str x1_2, .str x1_3, .sl fP x1_4, .sl fP x1_5, .sl fP x1_6, .sl fP x1_7, .sl fP x1_8, .bool x1_9, .sl fP x1_10] (k))), []) := by
  have := t_laws_markDef h k
  simpa only [saL, saF] using this
theorem spd (h0 : IsSchema [.sl fP x0_0, .sl fP x0_1, .sl fP x0_2]) (B0 : bdL 1048576 [.sl fP x0_0, .sl fP x0_1, .sl fP x0_2]) (h1 : IsDef [.int .i64 x1_0, .bool x1_1, .str x1_2, .str x1_3, .sl fP x1_4, .sl fP x1_5, .sl fP x1_6, .sl fP x1_7, .sl fP x1_8, .bool x1_9, .sl fP x1_10]) (B1 : bdL 1048576 [.int .i64 x1_0, .bool x1_1, .str x1_2, .str x1_3, .sl fP x1_4, .sl fP x1_5, .sl fP x1_6, .sl fP x1_7, .sl fP x1_8, .bool x1_9, .sl fP x1_10]) (c0 c1 : Fl true) : Dd F.spec_FaceProblems [.agg [.sl c0 (reE (fl c0) x0_0), .sl c0 (reE (fl c0) x0_1), .sl c0 (reE (fl c0) x0_2)], .agg [.int .i64 x1_0, .bool x1_1, .str x1_2, .str x1_3, .sl c1 (reE (fl c1) x1_4), .sl c1 (reE (fl c1) x1_5), .sl c1 (reE (fl c1) x1_6), .sl c1 (reE (fl c1) x1_7), .sl c1 (reE (fl c1) x1_8), .bool x1_9, .sl c1 (reE (fl c1) x1_10)]] [] = some (.own (some T.impl_Problem) (reE (fl fOld) (facesP (⟨x0_0, x0_1, x0_2⟩ : R_eee) (⟨x1_0, x1_1, x1_2, x1_3, x1_4, x1_5, x1_6, x1_7, x1_8, x1_9, x1_10⟩ : R_ibsseeeeebe))), []) :=
  dd_told rfl (d_spec_FaceProblems (s := (⟨x0_0, x0_1, x0_2⟩ : R_eee)) (d := (⟨x1_0, x1_1, x1_2, x1_3, x1_4, x1_5, x1_6, x1_7, x1_8, x1_9, x1_10⟩ : R_ibsseeeeebe)) h0 h1) (by
    have t0 := reS_agg c0 [.sl fP x0_0, .sl fP x0_1, .sl fP x0_2]
    simp only [reL, reF] at t0
    have t1 := reS_agg c1 [.int .i64 x1_0, .bool x1_1, .str x1_2, .str x1_3, .sl fP x1_4, .sl fP x1_5, .sl fP x1_6, .sl fP x1_7, .sl fP x1_8, .bool x1_9, .sl fP x1_10]
    simp only [reL, reF] at t1
    rw [List.map_cons, t0, List.map_cons, t1]; rfl) rfl rfl
theorem imd (h0 : IsSchema [.sl fP x0_0, .sl fP x0_1, .sl fP x0_2]) (B0 : bdL 1048576 [.sl fP x0_0, .sl fP x0_1, .sl fP x0_2]) (h1 : IsDef [.int .i64 x1_0, .bool x1_1, .str x1_2, .str x1_3, .sl fP x1_4, .sl fP x1_5, .sl fP x1_6, .sl fP x1_7, .sl fP x1_8, .bool x1_9, .sl fP x1_10]) (B1 : bdL 1048576 [.int .i64 x1_0, .bool x1_1, .str x1_2, .str x1_3, .sl fP x1_4, .sl fP x1_5, .sl fP x1_6, .sl fP x1_7, .sl fP x1_8, .bool x1_9, .sl fP x1_10]) (c0 c1 : Fl true) : Dd F.impl_FaceProblems [.agg [.sl c0 (reE (fl c0) x0_0), .sl c0 (reE (fl c0) x0_1), .sl c0 (reE (fl c0) x0_2)], .agg [.int .i64 x1_0, .bool x1_1, .str x1_2, .str x1_3, .sl c1 (reE (fl c1) x1_4), .sl c1 (reE (fl c1) x1_5), .sl c1 (reE (fl c1) x1_6), .sl c1 (reE (fl c1) x1_7), .sl c1 (reE (fl c1) x1_8), .bool x1_9, .sl c1 (reE (fl c1) x1_10)]] [] = some (.own (some T.impl_Problem) (reE (fl fOld) (facesP (⟨x0_0, x0_1, x0_2⟩ : R_eee) (⟨x1_0, x1_1, x1_2, x1_3, x1_4, x1_5, x1_6, x1_7, x1_8, x1_9, x1_10⟩ : R_ibsseeeeebe))), []) :=
  dd_told rfl (d_impl_FaceProblems (s := (⟨x0_0, x0_1, x0_2⟩ : R_eee)) (d := (⟨x1_0, x1_1, x1_2, x1_3, x1_4, x1_5, x1_6, x1_7, x1_8, x1_9, x1_10⟩ : R_ibsseeeeebe)) h0 h1) (by
    have t0 := reS_agg c0 [.sl fP x0_0, .sl fP x0_1, .sl fP x0_2]
    simp only [reL, reF] at t0
    have t1 := reS_agg c1 [.int .i64 x1_0, .bool x1_1, .str x1_2, .str x1_3, .sl fP x1_4, .sl fP x1_5, .sl fP x1_6, .sl fP x1_7, .sl fP x1_8, .bool x1_9, .sl fP x1_10]
    simp only [reL, reF] at t1
    rw [List.map_cons, t0, List.map_cons, t1]; rfl) rfl rfl
theorem fitsD (h0 : IsSchema [.sl fP x0_0, .sl fP x0_1, .sl fP x0_2]) (h1 : IsDef [.int .i64 x1_0, .bool x1_1, .str x1_2, .str x1_3, .sl fP x1_4, .sl fP x1_5, .sl fP x1_6, .sl fP x1_7, .sl fP x1_8, .bool x1_9, .sl fP x1_10])  (q0 : 0 ≤ szL [.sl fP x0_0, .sl fP x0_1, .sl fP x0_2] 1048576) (q1 : 0 ≤ szL [.int .i64 x1_0, .bool x1_1, .str x1_2, .str x1_3, .sl fP x1_4, .sl fP x1_5, .sl fP x1_6, .sl fP x1_7, .sl fP x1_8, .bool x1_9, .sl fP x1_10] (szL [.sl fP x0_0, .sl fP x0_1, .sl fP x0_2] 1048576)) : Fits x0_0 x0_1 x0_2 x1_0 x1_1 x1_2 x1_3 x1_4 x1_5 x1_6 x1_7 x1_8 x1_9 x1_10 (facesP (⟨x0_0, x0_1, x0_2⟩ : R_eee) (⟨x1_0, x1_1, x1_2, x1_3, x1_4, x1_5, x1_6, x1_7, x1_8, x1_9, x1_10⟩ : R_ibsseeeeebe)) := by
  have hm : maxLen = 9223372036854775807 := rfl
  have t0 := szL_t [.sl fP x0_0, .sl fP x0_1, .sl fP x0_2] 1048576 h0.ok (by omega) (by simp only [cap]; omega) q0
  have B0 := szL_bd (B := 1048576) (by simp only [cap]; omega) [.sl fP x0_0, .sl fP x0_1, .sl fP x0_2] 1048576 h0.ok (by omega) (by omega) q0
  have t1 := szL_t [.int .i64 x1_0, .bool x1_1, .str x1_2, .str x1_3, .sl fP x1_4, .sl fP x1_5, .sl fP x1_6, .sl fP x1_7, .sl fP x1_8, .bool x1_9, .sl fP x1_10] (szL [.sl fP x0_0, .sl fP x0_1, .sl fP x0_2] 1048576) h1.ok q0 (by simp only [cap]; omega) q1
  have B1 := szL_bd (B := 1048576) (by simp only [cap]; omega) [.int .i64 x1_0, .bool x1_1, .str x1_2, .str x1_3, .sl fP x1_4, .sl fP x1_5, .sl fP x1_6, .sl fP x1_7, .sl fP x1_8, .bool x1_9, .sl fP x1_10] (szL [.sl fP x0_0, .sl fP x0_1, .sl fP x0_2] 1048576) h1.ok q0 (by omega) q1
  have len := facesP_len (s := (⟨x0_0, x0_1, x0_2⟩ : R_eee)) (d := (⟨x1_0, x1_1, x1_2, x1_3, x1_4, x1_5, x1_6, x1_7, x1_8, x1_9, x1_10⟩ : R_ibsseeeeebe)) h0 h1
  have k0 := msL_t [.sl fP x0_0, .sl fP x0_1, .sl fP x0_2] (1) h0.ok (by omega) (by simp only [cap]; omega)
  have k1 := msL_t [.int .i64 x1_0, .bool x1_1, .str x1_2, .str x1_3, .sl fP x1_4, .sl fP x1_5, .sl fP x1_6, .sl fP x1_7, .sl fP x1_8, .bool x1_9, .sl fP x1_10] (msL [.sl fP x0_0, .sl fP x0_1, .sl fP x0_2] (1)) h1.ok (by omega) (by simp only [cap]; omega)
  exact { wl := by omega, wc := by simp only [cap]; omega, wq := facesP_all (s := (⟨x0_0, x0_1, x0_2⟩ : R_eee)) (d := (⟨x1_0, x1_1, x1_2, x1_3, x1_4, x1_5, x1_6, x1_7, x1_8, x1_9, x1_10⟩ : R_ibsseeeeebe)), spc := fun c0 c1 => spd h0 B0 h1 B1 c0 c1, imp := fun c0 c1 => by rw [imd h0 B0 h1 B1 c0 c1, reE_nosl (φ := fl fOld) (ψ := fl fNew) (fun e he => ((facesP_all (s := (⟨x0_0, x0_1, x0_2⟩ : R_eee)) (d := (⟨x1_0, x1_1, x1_2, x1_3, x1_4, x1_5, x1_6, x1_7, x1_8, x1_9, x1_10⟩ : R_ibsseeeeebe))) e he).nosl)], mn := by omega,
           to0 := tod0 h0 (by omega), eq0 := eqd0 h0, mk0 := mkd0 h0, to1 := tod1 h1 (by omega), eq1 := eqd1 h1, mk1 := mkd1 h1 }
end
end Go.Vs
end
section
/- Leaves of a type's shape, kind by kind. -/
namespace Go.Vs
variable {m : Bool} {P : Program} {c : Fl m}
theorem sh_bool {n : Nat} {t : TypeId} {ls : List (Leaf m)} (hu : P.underlying t = some .bool) (h : Shaped P c n t ls) : ∃ b, ls = [.bool b] := by
  cases n with
  | zero => exact h.elim
  | succ n => unfold Shaped at h; simp only [hu] at h; exact h
theorem sh_int {n : Nat} {t : TypeId} {k : IntKind} {ls : List (Leaf m)} (hu : P.underlying t = some (.int k)) (h : Shaped P c n t ls) : ∃ z, ls = [.int k z] := by
  cases n with
  | zero => exact h.elim
  | succ n =>
    unfold Shaped at h
    simp only [hu] at h
    obtain ⟨z, e, _⟩ := h
    exact ⟨z, e⟩
theorem sh_str {n : Nat} {t : TypeId} {ls : List (Leaf m)} (hu : P.underlying t = some .string) (h : Shaped P c n t ls) : ∃ s : ByteArray, ls = [.str s] ∧ s.size ≤ maxLen := by
  cases n with
  | zero => exact h.elim
  | succ n => unfold Shaped at h; simp only [hu] at h; exact h
theorem sh_sl {n : Nat} {t e : TypeId} {ls : List (Leaf m)} (hu : P.underlying t = some (.slice e)) (h : Shaped P c n t ls) : ∃ k es, n = k + 1 ∧ ls = [.sl c es] ∧ es.length ≤ maxLen ∧ ∀ x ∈ es, Shaped P c k e x := by
  cases n with
  | zero => exact h.elim
  | succ n =>
    unfold Shaped at h
    simp only [hu] at h
    obtain ⟨es, e1, e2, e3⟩ := h
    exact ⟨n, es, rfl, e1, e2, e3⟩
theorem sh_struct {n : Nat} {t : TypeId} {fs : Array Field} {ts : List TypeId} {ls : List (Leaf m)} (hu : P.underlying t = some (.struct fs)) (hts : fs.toList.map Field.type = ts) (h : Shaped P c n t ls) : ∃ k, n = k + 1 ∧ Parts (Shaped P c k) ts ls := by
  subst hts
  cases n with
  | zero => exact h.elim
  | succ n =>
    unfold Shaped at h
    simp only [hu] at h
    exact ⟨n, rfl, h⟩
end Go.Vs
end
