/- What the program's functions compute, read off their text by the shadow runner (HTf, VsShape, HTx, VsDoor); no condition. -/
import Derived.Test.YtndacingbfeonaaGreatDoorRows
import Derived.FnData
import Derived.MakeChecks
import Derived.Test.YtndacingbfeonaaGreatDoorVB9
section
open Go Go.Vs Go.Proofs
set_option linter.unusedVariables false
set_option linter.unusedSimpArgs false
namespace Go.Vs
section
variable {x0_0 : List (List (Leaf false))} {x0_1 : List (List (Leaf false))} {x0_2 : List (List (Leaf false))} {x1 : ByteArray} {x2 : List (List (Leaf false))} {x3 : List (List (Leaf false))}
theorem szd0 (h : IsSchema [.sl fP x0_0, .sl fP x0_1, .sl fP x0_2]) (c : Fl true) (n : Int) (hn : 0 ≤ n) : Dd F.laws_szSchema [.agg [.sl c (reE (fl c) x0_0), .sl c (reE (fl c) x0_1), .sl c (reE (fl c) x0_2)], .leaf (.int .i64 n)] [] = some (.leaf (.int .i64 (szL [.sl fP x0_0, .sl fP x0_1, .sl fP x0_2] n)), []) :=
  dd_told rfl (d_laws_szSchema h hn) (by
    have t0 := reS_agg c [.sl fP x0_0, .sl fP x0_1, .sl fP x0_2]
    simp only [reL, reF] at t0
    rw [List.map_cons, t0]; rfl) rfl rfl
theorem eqd0 (h : IsSchema [.sl fP x0_0, .sl fP x0_1, .sl fP x0_2]) (c c' : Fl true) : Dd F.laws_eqSchema [.agg [.sl c (reE (fl c) x0_0), .sl c (reE (fl c) x0_1), .sl c (reE (fl c) x0_2)], .agg [.sl c' (reE (fl c') x0_0), .sl c' (reE (fl c') x0_1), .sl c' (reE (fl c') x0_2)]] [] = some (.leaf (.bool true), []) :=
  dd_told rfl (d_laws_eqSchema h) (by
    have t0 := reS_agg c [.sl fP x0_0, .sl fP x0_1, .sl fP x0_2]
    simp only [reL, reF] at t0
    have t := reS_agg c' [.sl fP x0_0, .sl fP x0_1, .sl fP x0_2]
    simp only [reL, reF] at t
    rw [List.map_cons, List.map_cons, t0, t]; rfl) rfl rfl
theorem tod0 (h : IsSchema [.sl fP x0_0, .sl fP x0_1, .sl fP x0_2]) (ht : tL [.sl fP x0_0, .sl fP x0_1, .sl fP x0_2] ≤ 1048576) (c : Fl true) : Dd F.laws_toSchema [.agg [.sl c (reE (fl c) x0_0), .sl c (reE (fl c) x0_1), .sl c (reE (fl c) x0_2)]] [] = some (.agg [.sl fNew (reE (fl fNew) x0_0), .sl fNew (reE (fl fNew) x0_1), .sl fNew (reE (fl fNew) x0_2)], []) := by
  have := t_laws_toSchema (c := c) h ht
  simpa only [reL, reF] using this
theorem mkd0 (h : IsSchema [.sl fP x0_0, .sl fP x0_1, .sl fP x0_2]) (k : Int) : Dd F.laws_markSchema [.agg [.sl fSoft (soE x0_0), .sl fSoft (soE x0_1), .sl fSoft (soE x0_2)], .leaf (.int .i64 k)] [] = some (.leaf (.int .i64 (msL [.sl fP x0_0, .sl fP x0_1, .sl fP x0_2] (k))), []) := by
  have := t_laws_markSchema h k
  simpa only [saL, saF] using this
theorem szd2 (hl : x2.length ≤ maxLen) (h : ∀ e ∈ x2, IsInDef e) (c : Fl true) (n : Int) (hn : 0 ≤ n) : Dd F.laws_szInDefS [.leaf (.sl c (reE (fl c) x2)), .leaf (.int .i64 n)] [] = some (.leaf (.int .i64 (szF (.sl fP x2) n)), []) :=
  dd_told rfl (d_laws_szInDefS hl h hn) (by
    rw [List.map_cons, reS_sl]; rfl) rfl rfl
theorem eqd2 (hl : x2.length ≤ maxLen) (h : ∀ e ∈ x2, IsInDef e) (c c' : Fl true) : Dd F.laws_eqInDefS [.leaf (.sl c (reE (fl c) x2)), .leaf (.sl c' (reE (fl c') x2))] [] = some (.leaf (.bool true), []) :=
  dd_told rfl (d_laws_eqInDefS hl h) (by
    rw [List.map_cons, List.map_cons, reS_sl, reS_sl]; rfl) rfl rfl
theorem tod2 (h : ∀ e ∈ x2, IsInDef e) (ht : x2.length + tE x2 ≤ 1048576) (c : Fl true) : Dd F.laws_toInDefS [.leaf (.sl c (reE (fl c) x2))] [] = some (.leaf (.sl fNew (reE (fl fNew) x2)), []) := t_laws_toInDefS ht h
theorem mkd2 (hl : x2.length ≤ maxLen) (h : ∀ e ∈ x2, IsInDef e) (k : Int) : Dd F.laws_markInDefS [.leaf (.sl fSoft (soE x2)), .leaf (.int .i64 k)] [] = some (.leaf (.int .i64 (mkE x2 (k))), []) := t_laws_markInDefS hl h k
theorem szd3 (hl : x3.length ≤ maxLen) (h : ∀ e ∈ x3, IsArg e) (c : Fl true) (n : Int) (hn : 0 ≤ n) : Dd F.laws_szArgS [.leaf (.sl c (reE (fl c) x3)), .leaf (.int .i64 n)] [] = some (.leaf (.int .i64 (szF (.sl fP x3) n)), []) :=
  dd_told rfl (d_laws_szArgS hl h hn) (by
    rw [List.map_cons, reS_sl]; rfl) rfl rfl
theorem eqd3 (hl : x3.length ≤ maxLen) (h : ∀ e ∈ x3, IsArg e) (c c' : Fl true) : Dd F.laws_eqArgS [.leaf (.sl c (reE (fl c) x3)), .leaf (.sl c' (reE (fl c') x3))] [] = some (.leaf (.bool true), []) :=
  dd_told rfl (d_laws_eqArgS hl h) (by
    rw [List.map_cons, List.map_cons, reS_sl, reS_sl]; rfl) rfl rfl
theorem tod3 (h : ∀ e ∈ x3, IsArg e) (ht : x3.length + tE x3 ≤ 1048576) (c : Fl true) : Dd F.laws_toArgS [.leaf (.sl c (reE (fl c) x3))] [] = some (.leaf (.sl fNew (reE (fl fNew) x3)), []) := t_laws_toArgS ht h
theorem mkd3 (hl : x3.length ≤ maxLen) (h : ∀ e ∈ x3, IsArg e) (k : Int) : Dd F.laws_markArgS [.leaf (.sl fSoft (soE x3)), .leaf (.int .i64 k)] [] = some (.leaf (.int .i64 (mkE x3 (k))), []) := t_laws_markArgS hl h k
theorem spd (h0 : IsSchema [.sl fP x0_0, .sl fP x0_1, .sl fP x0_2]) (B0 : bdL 1048576 [.sl fP x0_0, .sl fP x0_1, .sl fP x0_2]) (l1 : x1.size ≤ 1048576) (l2 : x2.length ≤ 1048576) (h2 : ∀ e ∈ x2, IsInDef e) (B2 : bdE 1048576 x2) (l3 : x3.length ≤ 1048576) (h3 : ∀ e ∈ x3, IsArg e) (B3 : bdE 1048576 x3) (c0 c2 c3 : Fl true) : Dd F.spec_ArgProblems [.agg [.sl c0 (reE (fl c0) x0_0), .sl c0 (reE (fl c0) x0_1), .sl c0 (reE (fl c0) x0_2)], .leaf (.str x1), .leaf (.sl c2 (reE (fl c2) x2)), .leaf (.sl c3 (reE (fl c3) x3))] [] = some (.own (some T.impl_Problem) (reE (fl fOld) (argsP (⟨x0_0, x0_1, x0_2⟩ : R_eee) x1 x2 x3)), []) :=
  dd_told rfl (d_spec_ArgProblems (s := (⟨x0_0, x0_1, x0_2⟩ : R_eee)) (o := x1) (list := x2) (args := x3) h0 B0 l2 h2 (Nat.le_trans l3 (by decide)) h3 B3) (by
    have t0 := reS_agg c0 [.sl fP x0_0, .sl fP x0_1, .sl fP x0_2]
    simp only [reL, reF] at t0
    rw [List.map_cons, t0, List.map_cons, List.map_cons, reS_sl, List.map_cons, reS_sl]; rfl) rfl rfl
theorem imd (h0 : IsSchema [.sl fP x0_0, .sl fP x0_1, .sl fP x0_2]) (B0 : bdL 1048576 [.sl fP x0_0, .sl fP x0_1, .sl fP x0_2]) (l1 : x1.size ≤ 1048576) (l2 : x2.length ≤ 1048576) (h2 : ∀ e ∈ x2, IsInDef e) (B2 : bdE 1048576 x2) (l3 : x3.length ≤ 1048576) (h3 : ∀ e ∈ x3, IsArg e) (B3 : bdE 1048576 x3) (c0 c2 c3 : Fl true) : Dd F.impl_ArgProblems [.agg [.sl c0 (reE (fl c0) x0_0), .sl c0 (reE (fl c0) x0_1), .sl c0 (reE (fl c0) x0_2)], .leaf (.str x1), .leaf (.sl c2 (reE (fl c2) x2)), .leaf (.sl c3 (reE (fl c3) x3))] [] = some (.own (some T.impl_Problem) (reE (fl fOld) (argsP (⟨x0_0, x0_1, x0_2⟩ : R_eee) x1 x2 x3)), []) :=
  dd_told rfl (d_impl_ArgProblems (s := (⟨x0_0, x0_1, x0_2⟩ : R_eee)) (o := x1) (list := x2) (args := x3) h0 B0 l2 h2 (Nat.le_trans l3 (by decide)) h3 B3) (by
    have t0 := reS_agg c0 [.sl fP x0_0, .sl fP x0_1, .sl fP x0_2]
    simp only [reL, reF] at t0
    rw [List.map_cons, t0, List.map_cons, List.map_cons, reS_sl, List.map_cons, reS_sl]; rfl) rfl rfl
theorem fitsD (h0 : IsSchema [.sl fP x0_0, .sl fP x0_1, .sl fP x0_2]) (hl2 : x2.length ≤ maxLen) (h2 : ∀ e ∈ x2, IsInDef e) (hl3 : x3.length ≤ maxLen) (h3 : ∀ e ∈ x3, IsArg e) (q1 : x1.size ≤ 1048576) (q0 : 0 ≤ szL [.sl fP x0_0, .sl fP x0_1, .sl fP x0_2] 1048576) (q2 : 0 ≤ szF (.sl fP x2) (szL [.sl fP x0_0, .sl fP x0_1, .sl fP x0_2] 1048576)) (q3 : 0 ≤ szF (.sl fP x3) (szF (.sl fP x2) (szL [.sl fP x0_0, .sl fP x0_1, .sl fP x0_2] 1048576))) : Fits x0_0 x0_1 x0_2 x1 x2 x3 (argsP (⟨x0_0, x0_1, x0_2⟩ : R_eee) x1 x2 x3) := by
  have hm : maxLen = 9223372036854775807 := rfl
  have t0 := szL_t [.sl fP x0_0, .sl fP x0_1, .sl fP x0_2] 1048576 h0.ok (by omega) (by simp only [cap]; omega) q0
  have B0 := szL_bd (B := 1048576) (by simp only [cap]; omega) [.sl fP x0_0, .sl fP x0_1, .sl fP x0_2] 1048576 h0.ok (by omega) (by omega) q0
  have ok2 : okF 16 (.sl fP x2) := ⟨hl2, okE_of fun e he => ⟨by have := (h2 e he).len; omega, (h2 e he).ok⟩⟩
  have t2 := szF_t (z := 16) (.sl fP x2) (szL [.sl fP x0_0, .sl fP x0_1, .sl fP x0_2] 1048576) ok2 q0 (by simp only [cap]; omega) q2
  have bb2 := szF_bd (z := 16) (B := 1048576) (by simp only [cap]; omega) (.sl fP x2) (szL [.sl fP x0_0, .sl fP x0_1, .sl fP x0_2] 1048576) ok2 q0 (by omega) q2
  obtain ⟨l2, B2⟩ : x2.length ≤ 1048576 ∧ bdE 1048576 x2 := bb2
  have tt2 : (tF (.sl fP x2) : Int) = x2.length + tE x2 := by simp [tF]
  have ok3 : okF 16 (.sl fP x3) := ⟨hl3, okE_of fun e he => ⟨by have := (h3 e he).len; omega, (h3 e he).ok⟩⟩
  have t3 := szF_t (z := 16) (.sl fP x3) (szF (.sl fP x2) (szL [.sl fP x0_0, .sl fP x0_1, .sl fP x0_2] 1048576)) ok3 q2 (by simp only [cap]; omega) q3
  have bb3 := szF_bd (z := 16) (B := 1048576) (by simp only [cap]; omega) (.sl fP x3) (szF (.sl fP x2) (szL [.sl fP x0_0, .sl fP x0_1, .sl fP x0_2] 1048576)) ok3 q2 (by omega) q3
  obtain ⟨l3, B3⟩ : x3.length ≤ 1048576 ∧ bdE 1048576 x3 := bb3
  have tt3 : (tF (.sl fP x3) : Int) = x3.length + tE x3 := by simp [tF]
  have l1 := q1
  have len := argsP_len (s := (⟨x0_0, x0_1, x0_2⟩ : R_eee)) (o := x1) (list := x2) (args := x3)
  have k0 := msL_t [.sl fP x0_0, .sl fP x0_1, .sl fP x0_2] (1) h0.ok (by omega) (by simp only [cap]; omega)
  have k2 := mkE_t x2 (msL [.sl fP x0_0, .sl fP x0_1, .sl fP x0_2] (1)) ok2.2 (by omega) (by simp only [cap]; omega)
  have k3 := mkE_t x3 (mkE x2 (msL [.sl fP x0_0, .sl fP x0_1, .sl fP x0_2] (1))) ok3.2 (by omega) (by simp only [cap]; omega)
  exact { wl := by omega, wc := by simp only [cap]; omega, wq := argsP_all (s := (⟨x0_0, x0_1, x0_2⟩ : R_eee)) (o := x1) (list := x2) (args := x3), spc := fun c0 c2 c3 => spd h0 B0 l1 l2 h2 B2 l3 h3 B3 c0 c2 c3, imp := fun c0 c2 c3 => by rw [imd h0 B0 l1 l2 h2 B2 l3 h3 B3 c0 c2 c3, reE_nosl (φ := fl fOld) (ψ := fl fNew) (fun e he => ((argsP_all (s := (⟨x0_0, x0_1, x0_2⟩ : R_eee)) (o := x1) (list := x2) (args := x3)) e he).nosl)], mn := by omega,
           to0 := tod0 h0 (by omega), eq0 := eqd0 h0, mk0 := mkd0 h0, to2 := tod2 h2 (by omega), eq2 := eqd2 hl2 h2, mk2 := mkd2 hl2 h2, to3 := tod3 h3 (by omega), eq3 := eqd3 hl3 h3, mk3 := mkd3 hl3 h3 }
end
end Go.Vs
end
section
/- Leaves of a type's shape, kind by kind. -/
namespace Go.Vs
variable {m : Bool} {P : Program} {c : Fl m}
theorem sh_bool {n : Nat} {t : TypeId} {ls : List (Leaf m)} (hu : P.underlying t = some .bool) (h : Shaped P c n t ls) : ∃ b, ls = [.bool b] := by
  cases n with
  | zero => exact h.elim
  | succ n => unfold Shaped at h; simp only [hu] at h; exact h
theorem sh_int {n : Nat} {t : TypeId} {k : IntKind} {ls : List (Leaf m)} (hu : P.underlying t = some (.int k)) (h : Shaped P c n t ls) : ∃ z, ls = [.int k z] := by
  cases n with
  | zero => exact h.elim
  | succ n =>
    unfold Shaped at h
    simp only [hu] at h
    obtain ⟨z, e, _⟩ := h
    exact ⟨z, e⟩
theorem sh_str {n : Nat} {t : TypeId} {ls : List (Leaf m)} (hu : P.underlying t = some .string) (h : Shaped P c n t ls) : ∃ s : ByteArray, ls = [.str s] ∧ s.size ≤ maxLen := by
  cases n with
  | zero => exact h.elim
  | succ n => unfold Shaped at h; simp only [hu] at h; exact h
theorem sh_sl {n : Nat} {t e : TypeId} {ls : List (Leaf m)} (hu : P.underlying t = some (.slice e)) (h : Shaped P c n t ls) : ∃ k es, n = k + 1 ∧ ls = [.sl c es] ∧ es.length ≤ maxLen ∧ ∀ x ∈ es, Shaped P c k e x := by
  cases n with
  | zero => exact h.elim
  | succ n =>
    unfold Shaped at h
    simp only [hu] at h
    obtain ⟨es, e1, e2, e3⟩ := h
    exact ⟨n, es, rfl, e1, e2, e3⟩
theorem sh_struct {n : Nat} {t : TypeId} {fs : Array Field} {ts : List TypeId} {ls : List (Leaf m)} (hu : P.underlying t = some (.struct fs)) (hts : fs.toList.map Field.type = ts) (h : Shaped P c n t ls) : ∃ k, n = k + 1 ∧ Parts (Shaped P c k) ts ls := by
  subst hts
  cases n with
  | zero => exact h.elim
  | succ n =>
    unfold Shaped at h
    simp only [hu] at h
    exact ⟨n, rfl, h⟩
end Go.Vs
end
section
open Go Go.Vs Go.Proofs
set_option linter.unusedVariables false
set_option linter.unusedSimpArgs false
namespace Go.Vs
theorem isType_of {n : Nat} {ls : List (Leaf false)} (h : Shaped Tryz.prog fP n 90 ls) : IsType ls := by
  obtain ⟨k, rfl, hh⟩ := sh_struct Tryz.underlying90 (ts := [9, 9]) (by kernel_rfl) h
  simp only [Parts] at hh
  obtain ⟨a0, _, rfl, g0, a1, _, rfl, g1, rfl⟩ := hh
  obtain ⟨s0, rfl, h0⟩ := sh_str Tryz.underlying9 g0
  obtain ⟨s1, rfl, h1⟩ := sh_str Tryz.underlying9 g1
  exact .mk s0 s1 h0 h1
theorem isValue_of {n : Nat} {ls : List (Leaf false)} (h : Shaped Tryz.prog fP n 93 ls) : IsValue ls := by
  induction n using Nat.strongRecOn generalizing ls with
  | ind n ih =>
    obtain ⟨k, rfl, hh⟩ := sh_struct Tryz.underlying93 (ts := [3, 9, 91, 61]) (by kernel_rfl) h
    simp only [Parts] at hh
    obtain ⟨a0, _, rfl, g0, a1, _, rfl, g1, a2, _, rfl, g2, a3, _, rfl, g3, rfl⟩ := hh
    obtain ⟨i0, rfl⟩ := sh_int Tryz.underlying3 g0
    obtain ⟨s1, rfl, h1⟩ := sh_str Tryz.underlying9 g1
    obtain ⟨k2, e2, hk2, rfl, h2, g2⟩ := sh_sl Tryz.underlying91 g2
    have q2 : ∀ e ∈ e2, IsValue e := fun e he => ih k2 (by omega) (g2 e he)
    obtain ⟨k3, e3, hk3, rfl, h3, g3⟩ := sh_sl Tryz.underlying61 g3
    have q3 : ∀ e ∈ e3, IsStr e := fun e he => sh_str Tryz.underlying9 (g3 e he)
    exact .mk i0 s1 e2 e3 h1 h2 q2 h3 q3
theorem isArg_of {n : Nat} {ls : List (Leaf false)} (h : Shaped Tryz.prog fP n 98 ls) : IsArg ls := by
  obtain ⟨k, rfl, hh⟩ := sh_struct Tryz.underlying98 (ts := [9, 93]) (by kernel_rfl) h
  simp only [Parts] at hh
  obtain ⟨a0, _, rfl, g0, a1, _, rfl, g1, rfl⟩ := hh
  obtain ⟨s0, rfl, h0⟩ := sh_str Tryz.underlying9 g0
  obtain ⟨i1, s2, e3, e4, rfl, h2, h3, q3, h4, q4⟩ := (isValue_of g1).ex
  exact .mk s0 i1 s2 e3 e4 h0 h2 h3 q3 h4 q4
theorem isDir_of {n : Nat} {ls : List (Leaf false)} (h : Shaped Tryz.prog fP n 137 ls) : IsDir ls := by
  obtain ⟨k, rfl, hh⟩ := sh_struct Tryz.underlying137 (ts := [9, 27]) (by kernel_rfl) h
  simp only [Parts] at hh
  obtain ⟨a0, _, rfl, g0, a1, _, rfl, g1, rfl⟩ := hh
  obtain ⟨s0, rfl, h0⟩ := sh_str Tryz.underlying9 g0
  obtain ⟨k1, e1, hk1, rfl, h1, g1⟩ := sh_sl Tryz.underlying27 g1
  have q1 : ∀ e ∈ e1, IsArg e := fun e he => isArg_of (g1 e he)
  exact .mk s0 e1 h0 h1 q1
theorem isInDef_of {n : Nat} {ls : List (Leaf false)} (h : Shaped Tryz.prog fP n 95 ls) : IsInDef ls := by
  obtain ⟨k, rfl, hh⟩ := sh_struct Tryz.underlying95 (ts := [9, 9, 90, 4, 93, 53]) (by kernel_rfl) h
  simp only [Parts] at hh
  obtain ⟨a0, _, rfl, g0, a1, _, rfl, g1, a2, _, rfl, g2, a3, _, rfl, g3, a4, _, rfl, g4, a5, _, rfl, g5, rfl⟩ := hh
  obtain ⟨s0, rfl, h0⟩ := sh_str Tryz.underlying9 g0
  obtain ⟨s1, rfl, h1⟩ := sh_str Tryz.underlying9 g1
  obtain ⟨s2, s3, rfl, h2, h3⟩ := (isType_of g2).ex
  obtain ⟨b4, rfl⟩ := sh_bool Tryz.underlying4 g3
  obtain ⟨i5, s6, e7, e8, rfl, h6, h7, q7, h8, q8⟩ := (isValue_of g4).ex
  obtain ⟨k9, e9, hk9, rfl, h9, g5⟩ := sh_sl Tryz.underlying53 g5
  have q9 : ∀ e ∈ e9, IsDir e := fun e he => isDir_of (g5 e he)
  exact .mk s0 s1 s2 s3 b4 i5 s6 e7 e8 e9 h0 h1 h2 h3 h6 h7 q7 h8 q8 h9 q9
theorem isFieldDef_of {n : Nat} {ls : List (Leaf false)} (h : Shaped Tryz.prog fP n 217 ls) : IsFieldDef ls := by
  obtain ⟨k, rfl, hh⟩ := sh_struct Tryz.underlying217 (ts := [9, 9, 26, 90, 53]) (by kernel_rfl) h
  simp only [Parts] at hh
  obtain ⟨a0, _, rfl, g0, a1, _, rfl, g1, a2, _, rfl, g2, a3, _, rfl, g3, a4, _, rfl, g4, rfl⟩ := hh
  obtain ⟨s0, rfl, h0⟩ := sh_str Tryz.underlying9 g0
  obtain ⟨s1, rfl, h1⟩ := sh_str Tryz.underlying9 g1
  obtain ⟨k2, e2, hk2, rfl, h2, g2⟩ := sh_sl Tryz.underlying26 g2
  have q2 : ∀ e ∈ e2, IsInDef e := fun e he => isInDef_of (g2 e he)
  obtain ⟨s3, s4, rfl, h3, h4⟩ := (isType_of g3).ex
  obtain ⟨k5, e5, hk5, rfl, h5, g4⟩ := sh_sl Tryz.underlying53 g4
  have q5 : ∀ e ∈ e5, IsDir e := fun e he => isDir_of (g4 e he)
  exact .mk s0 s1 e2 s3 s4 e5 h0 h1 h2 q2 h3 h4 h5 q5
theorem isEnumDef_of {n : Nat} {ls : List (Leaf false)} (h : Shaped Tryz.prog fP n 220 ls) : IsEnumDef ls := by
  obtain ⟨k, rfl, hh⟩ := sh_struct Tryz.underlying220 (ts := [9, 9, 53]) (by kernel_rfl) h
  simp only [Parts] at hh
  obtain ⟨a0, _, rfl, g0, a1, _, rfl, g1, a2, _, rfl, g2, rfl⟩ := hh
  obtain ⟨s0, rfl, h0⟩ := sh_str Tryz.underlying9 g0
  obtain ⟨s1, rfl, h1⟩ := sh_str Tryz.underlying9 g1
  obtain ⟨k2, e2, hk2, rfl, h2, g2⟩ := sh_sl Tryz.underlying53 g2
  have q2 : ∀ e ∈ e2, IsDir e := fun e he => isDir_of (g2 e he)
  exact .mk s0 s1 e2 h0 h1 h2 q2
theorem isRoot_of {n : Nat} {ls : List (Leaf false)} (h : Shaped Tryz.prog fP n 189 ls) : IsRoot ls := by
  obtain ⟨k, rfl, hh⟩ := sh_struct Tryz.underlying189 (ts := [3, 9]) (by kernel_rfl) h
  simp only [Parts] at hh
  obtain ⟨a0, _, rfl, g0, a1, _, rfl, g1, rfl⟩ := hh
  obtain ⟨i0, rfl⟩ := sh_int Tryz.underlying3 g0
  obtain ⟨s1, rfl, h1⟩ := sh_str Tryz.underlying9 g1
  exact .mk i0 s1 h1
theorem isDef_of {n : Nat} {ls : List (Leaf false)} (h : Shaped Tryz.prog fP n 65 ls) : IsDef ls := by
  obtain ⟨k, rfl, hh⟩ := sh_struct Tryz.underlying65 (ts := [3, 4, 9, 9, 61, 62, 26, 63, 23, 4, 53]) (by kernel_rfl) h
  simp only [Parts] at hh
  obtain ⟨a0, _, rfl, g0, a1, _, rfl, g1, a2, _, rfl, g2, a3, _, rfl, g3, a4, _, rfl, g4, a5, _, rfl, g5, a6, _, rfl, g6, a7, _, rfl, g7, a8, _, rfl, g8, a9, _, rfl, g9, a10, _, rfl, g10, rfl⟩ := hh
  obtain ⟨i0, rfl⟩ := sh_int Tryz.underlying3 g0
  obtain ⟨b1, rfl⟩ := sh_bool Tryz.underlying4 g1
  obtain ⟨s2, rfl, h2⟩ := sh_str Tryz.underlying9 g2
  obtain ⟨s3, rfl, h3⟩ := sh_str Tryz.underlying9 g3
  obtain ⟨k4, e4, hk4, rfl, h4, g4⟩ := sh_sl Tryz.underlying61 g4
  have q4 : ∀ e ∈ e4, IsStr e := fun e he => sh_str Tryz.underlying9 (g4 e he)
  obtain ⟨k5, e5, hk5, rfl, h5, g5⟩ := sh_sl Tryz.underlying62 g5
  have q5 : ∀ e ∈ e5, IsFieldDef e := fun e he => isFieldDef_of (g5 e he)
  obtain ⟨k6, e6, hk6, rfl, h6, g6⟩ := sh_sl Tryz.underlying26 g6
  have q6 : ∀ e ∈ e6, IsInDef e := fun e he => isInDef_of (g6 e he)
  obtain ⟨k7, e7, hk7, rfl, h7, g7⟩ := sh_sl Tryz.underlying63 g7
  have q7 : ∀ e ∈ e7, IsEnumDef e := fun e he => isEnumDef_of (g7 e he)
  obtain ⟨k8, e8, hk8, rfl, h8, g8⟩ := sh_sl Tryz.underlying23 g8
  have q8 : ∀ e ∈ e8, IsRoot e := fun e he => isRoot_of (g8 e he)
  obtain ⟨b9, rfl⟩ := sh_bool Tryz.underlying4 g9
  obtain ⟨k10, e10, hk10, rfl, h10, g10⟩ := sh_sl Tryz.underlying53 g10
  have q10 : ∀ e ∈ e10, IsDir e := fun e he => isDir_of (g10 e he)
  exact .mk i0 b1 s2 s3 e4 e5 e6 e7 e8 b9 e10 h2 h3 h4 q4 h5 q5 h6 q6 h7 q7 h8 q8 h10 q10
theorem isSchema_of {n : Nat} {ls : List (Leaf false)} (h : Shaped Tryz.prog fP n 25 ls) : IsSchema ls := by
  obtain ⟨k, rfl, hh⟩ := sh_struct Tryz.underlying25 (ts := [22, 22, 23]) (by kernel_rfl) h
  simp only [Parts] at hh
  obtain ⟨a0, _, rfl, g0, a1, _, rfl, g1, a2, _, rfl, g2, rfl⟩ := hh
  obtain ⟨k0, e0, hk0, rfl, h0, g0⟩ := sh_sl Tryz.underlying22 g0
  have q0 : ∀ e ∈ e0, IsDef e := fun e he => isDef_of (g0 e he)
  obtain ⟨k1, e1, hk1, rfl, h1, g1⟩ := sh_sl Tryz.underlying22 g1
  have q1 : ∀ e ∈ e1, IsDef e := fun e he => isDef_of (g1 e he)
  obtain ⟨k2, e2, hk2, rfl, h2, g2⟩ := sh_sl Tryz.underlying23 g2
  have q2 : ∀ e ∈ e2, IsRoot e := fun e he => isRoot_of (g2 e he)
  exact .mk e0 e1 e2 h0 q0 h1 q1 h2 q2

theorem isRow2 {n : Nat} {ls : List (Leaf false)} (h : Shaped Tryz.prog fP n 26 ls) : ∃ x : List El, ls = [.sl fP x] ∧ x.length ≤ maxLen ∧ ∀ e ∈ x, IsInDef e := by
  obtain ⟨k, x, hk, rfl, h1, g⟩ := sh_sl Tryz.underlying26 h
  exact ⟨x, rfl, h1, fun e he => isInDef_of (g e he)⟩
theorem isRow3 {n : Nat} {ls : List (Leaf false)} (h : Shaped Tryz.prog fP n 27 ls) : ∃ x : List El, ls = [.sl fP x] ∧ x.length ≤ maxLen ∧ ∀ e ∈ x, IsArg e := by
  obtain ⟨k, x, hk, rfl, h1, g⟩ := sh_sl Tryz.underlying27 h
  exact ⟨x, rfl, h1, fun e he => isArg_of (g e he)⟩
end Go.Vs
end
section
/- What lies in the package's variables when a call begins: errors. -/
set_option linter.unusedVariables false
namespace Go.Vs
theorem trod_iface {H : Type} {enc : TypeId × Value → H} {P : Program} {w : World} {base : Nat} {spare : Nat → Bool} {held : Bool} {fuel : Nat} {t : TypeId} {cs : List Value} {x : DataW H × List MemPlace} {ms : Array (String × TypeId)}
    (ht : P.underlying t = some (.interface ms)) (h : DataW.trod enc P w base spare held fuel t cs = some x) : cs = [.nilIface] ∨ ∃ u v, cs = [.iface u v] := by
  cases fuel with
  | zero => simp [DataW.trod] at h
  | succ n =>
    unfold DataW.trod at h
    rw [ht] at h
    split at h <;> simp_all
/-- What a laid error holds. -/
theorem laid_err {P : Program} {w : World} {n : String} {d : DataW Unit} {g t : Nat} {ms : Array (String × TypeId)} (hg : P.globalNamed n = some g) (ht : (P.globals[g]?).map (·.type) = some t) (hu : P.underlying t = some (.interface ms)) :
    ∀ {l : List (String × DataW Unit)} {ps : List MemPlace}, DataW.LaidVars P w l ps → (n, d) ∈ l → ∃ ev, w.cell? ⟨g, 0, none⟩ = some ev ∧ (ev = .nilIface ∨ ∃ te pe, ev = .iface te pe)
  | [], _, _, hm => by cases hm
  | (n', d') :: r, ps, h, hm => by
    obtain ⟨g', t', cs, fuel, p, q, hg', ht', hv, hd, hr, _⟩ := h
    rcases List.mem_cons.1 hm with e | hm
    · obtain ⟨rfl, rfl⟩ := Prod.mk.inj e
      obtain rfl := Option.some.inj (hg.symm.trans hg')
      obtain rfl := Option.some.inj (ht.symm.trans ht')
      have hc := World.var?_cell hg hv 0
      obtain ⟨l⟩ := cs
      rcases trod_iface hu hd with e | ⟨u, v, e⟩
      · simp at e; subst e
        exact ⟨_, hc, .inl rfl⟩
      · simp at e; subst e
        exact ⟨_, hc, .inr ⟨u, v, rfl⟩⟩
    · exact laid_err hg ht hu hr hm
end Go.Vs
end
