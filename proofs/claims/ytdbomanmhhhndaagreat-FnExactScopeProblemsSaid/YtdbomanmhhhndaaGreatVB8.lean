/- What the program's functions compute, read off their text by the shadow runner (UTf, VsShape, UTx); no condition. -/
import Derived.Test.YtdbomanmhhhndaaGreatRows
import Derived.Test.YtdbomanmhhhndaaGreatVB7
section
open Go Go.Vs Go.Proofs
set_option linter.unusedVariables false
set_option linter.unusedSimpArgs false
namespace Go.Vs
section
variable {x0_0 : List (List (aB false))} {x0_1 : List (List (aB false))} {x0_2 : List (List (aB false))} {x1 : ByteArray} {x2 : List (List (aB false))}
theorem aP8 (h : bK [.sl fP x0_0, .sl fP x0_1, .sl fP x0_2]) (c : Fl true) (n : Int) (hn : 0 ≤ n) : Dd F.aQ7 [.agg [.sl c (reE (fl c) x0_0), .sl c (reE (fl c) x0_1), .sl c (reE (fl c) x0_2)], .leaf (.int .i64 n)] [] = some (.leaf (.int .i64 (szL [.sl fP x0_0, .sl fP x0_1, .sl fP x0_2] n)), []) :=
  oW rfl (aG1 h hn) (by
    have t0 := aEp c [.sl fP x0_0, .sl fP x0_1, .sl fP x0_2]
    simp only [reL, reF] at t0
    rw [List.map_cons, t0]; rfl) rfl rfl
theorem aP7 (h : bK [.sl fP x0_0, .sl fP x0_1, .sl fP x0_2]) (c c' : Fl true) : Dd F.aRe [.agg [.sl c (reE (fl c) x0_0), .sl c (reE (fl c) x0_1), .sl c (reE (fl c) x0_2)], .agg [.sl c' (reE (fl c') x0_0), .sl c' (reE (fl c') x0_1), .sl c' (reE (fl c') x0_2)]] [] = some (.leaf (.bool true), []) :=
  oW rfl (aGQ h) (by
    have t0 := aEp c [.sl fP x0_0, .sl fP x0_1, .sl fP x0_2]
    simp only [reL, reF] at t0
    have t := aEp c' [.sl fP x0_0, .sl fP x0_1, .sl fP x0_2]
    simp only [reL, reF] at t
    rw [List.map_cons, List.map_cons, t0, t]; rfl) rfl rfl
theorem aQc (h : bK [.sl fP x0_0, .sl fP x0_1, .sl fP x0_2]) (ht : tL [.sl fP x0_0, .sl fP x0_1, .sl fP x0_2] ≤ 1048576) (c : Fl true) : Dd F.aQ6 [.agg [.sl c (reE (fl c) x0_0), .sl c (reE (fl c) x0_1), .sl c (reE (fl c) x0_2)]] [] = some (.agg [.sl aO (reE (fl aO) x0_0), .sl aO (reE (fl aO) x0_1), .sl aO (reE (fl aO) x0_2)], []) := by
  have := aGV (c := c) h ht
  simpa only [reL, reF] using this
theorem aQa (h : bK [.sl fP x0_0, .sl fP x0_1, .sl fP x0_2]) (k : Int) : Dd F.aQN [.agg [.sl eM (soE x0_0), .sl eM (soE x0_1), .sl eM (soE x0_2)], .leaf (.int .i64 k)] [] = some (.leaf (.int .i64 (msL [.sl fP x0_0, .sl fP x0_1, .sl fP x0_2] (k))), []) := by
  have := aED h k
  simpa only [saL, saF] using this
theorem aP9 (hl : x2.length ≤ maxLen) (h : ∀ e ∈ x2, dM e) (c : Fl true) (n : Int) (hn : 0 ≤ n) : Dd F.aRV [.leaf (.sl c (reE (fl c) x2)), .leaf (.int .i64 n)] [] = some (.leaf (.int .i64 (szF (.sl fP x2) n)), []) :=
  oW rfl (aIJ hl h hn) (by
    rw [List.map_cons, aD3]; rfl) rfl rfl
theorem aQd (hl : x2.length ≤ maxLen) (h : ∀ e ∈ x2, dM e) (c c' : Fl true) : Dd F.aR0 [.leaf (.sl c (reE (fl c) x2)), .leaf (.sl c' (reE (fl c') x2))] [] = some (.leaf (.bool true), []) :=
  oW rfl (aIG hl h) (by
    rw [List.map_cons, List.map_cons, aD3, aD3]; rfl) rfl rfl
theorem aQe (h : ∀ e ∈ x2, dM e) (ht : x2.length + tE x2 ≤ 1048576) (c : Fl true) : Dd F.aRH [.leaf (.sl c (reE (fl c) x2))] [] = some (.leaf (.sl aO (reE (fl aO) x2)), []) := aIF ht h
theorem aQb (hl : x2.length ≤ maxLen) (h : ∀ e ∈ x2, dM e) (k : Int) : Dd F.aRf [.leaf (.sl eM (soE x2)), .leaf (.int .i64 k)] [] = some (.leaf (.int .i64 (mkE x2 (k))), []) := aG2 hl h k
theorem spd (h0 : bK [.sl fP x0_0, .sl fP x0_1, .sl fP x0_2]) (B0 : bdL 1048576 [.sl fP x0_0, .sl fP x0_1, .sl fP x0_2]) (l1 : x1.size ≤ 1048576) (l2 : x2.length ≤ 1048576) (h2 : ∀ e ∈ x2, dM e) (B2 : bdE 1048576 x2) (s2 : x2.length + tE x2 ≤ 1048576) (c0 c2 : Fl true) : Dd F.aQp [.agg [.sl c0 (reE (fl c0) x0_0), .sl c0 (reE (fl c0) x0_1), .sl c0 (reE (fl c0) x0_2)], .leaf (.str x1), .leaf (.sl c2 (reE (fl c2) x2))] [] = some (.own (some T.aRj) (reE (fl cN) (pD (⟨x0_0, x0_1, x0_2⟩ : cA) x1 x2)), []) :=
  oW rfl (aA7 (s := (⟨x0_0, x0_1, x0_2⟩ : cA)) (o := x1) (es := x2) h0 l2 h2) (by
    have t0 := aEp c0 [.sl fP x0_0, .sl fP x0_1, .sl fP x0_2]
    simp only [reL, reF] at t0
    rw [List.map_cons, t0, List.map_cons, List.map_cons, aD3]; rfl) rfl rfl
theorem imd (h0 : bK [.sl fP x0_0, .sl fP x0_1, .sl fP x0_2]) (B0 : bdL 1048576 [.sl fP x0_0, .sl fP x0_1, .sl fP x0_2]) (l1 : x1.size ≤ 1048576) (l2 : x2.length ≤ 1048576) (h2 : ∀ e ∈ x2, dM e) (B2 : bdE 1048576 x2) (s2 : x2.length + tE x2 ≤ 1048576) (c0 c2 : Fl true) : Dd F.aQo [.agg [.sl c0 (reE (fl c0) x0_0), .sl c0 (reE (fl c0) x0_1), .sl c0 (reE (fl c0) x0_2)], .leaf (.str x1), .leaf (.sl c2 (reE (fl c2) x2))] [] = some (.own (some T.aRj) (reE (fl cN) (pD (⟨x0_0, x0_1, x0_2⟩ : cA) x1 x2)), []) :=
  oW rfl (aBi (s := (⟨x0_0, x0_1, x0_2⟩ : cA)) (o := x1) (es := x2) h0 l2 h2 s2) (by
    have t0 := aEp c0 [.sl fP x0_0, .sl fP x0_1, .sl fP x0_2]
    simp only [reL, reF] at t0
    rw [List.map_cons, t0, List.map_cons, List.map_cons, aD3]; rfl) rfl rfl
theorem aPN (h0 : bK [.sl fP x0_0, .sl fP x0_1, .sl fP x0_2]) (hl2 : x2.length ≤ maxLen) (h2 : ∀ e ∈ x2, dM e) (q1 : x1.size ≤ 1048576) (q0 : 0 ≤ szL [.sl fP x0_0, .sl fP x0_1, .sl fP x0_2] 1048576) (q2 : 0 ≤ szF (.sl fP x2) (szL [.sl fP x0_0, .sl fP x0_1, .sl fP x0_2] 1048576)) : aKF x0_0 x0_1 x0_2 x1 x2 (pD (⟨x0_0, x0_1, x0_2⟩ : cA) x1 x2) := by
  have hm : maxLen = 9223372036854775807 := rfl
  have t0 := aMD [.sl fP x0_0, .sl fP x0_1, .sl fP x0_2] 1048576 h0.ok (by omega) (by simp only [cap]; omega) q0
  have B0 := aL4 (B := 1048576) (by simp only [cap]; omega) [.sl fP x0_0, .sl fP x0_1, .sl fP x0_2] 1048576 h0.ok (by omega) (by omega) q0
  have ok2 : okF 16 (.sl fP x2) := ⟨hl2, iP fun e he => ⟨by have := (h2 e he).len; omega, (h2 e he).ok⟩⟩
  have t2 := aOf (z := 16) (.sl fP x2) (szL [.sl fP x0_0, .sl fP x0_1, .sl fP x0_2] 1048576) ok2 q0 (by simp only [cap]; omega) q2
  have bb2 := aN0 (z := 16) (B := 1048576) (by simp only [cap]; omega) (.sl fP x2) (szL [.sl fP x0_0, .sl fP x0_1, .sl fP x0_2] 1048576) ok2 q0 (by omega) q2
  obtain ⟨l2, B2⟩ : x2.length ≤ 1048576 ∧ bdE 1048576 x2 := bb2
  have tt2 : (tF (.sl fP x2) : Int) = x2.length + tE x2 := by simp [tF]
  have s2 : x2.length + tE x2 ≤ 1048576 := by omega
  have l1 := q1
  have len := aMt (s := (⟨x0_0, x0_1, x0_2⟩ : cA)) (o := x1) (es := x2) h0 l2 h2
  have k0 := aHA [.sl fP x0_0, .sl fP x0_1, .sl fP x0_2] (1) h0.ok (by omega) (by simp only [cap]; omega)
  have k2 := aMB x2 (msL [.sl fP x0_0, .sl fP x0_1, .sl fP x0_2] (1)) ok2.2 (by omega) (by simp only [cap]; omega)
  exact { wl := by omega, wc := by simp only [cap]; omega, wq := aHB (s := (⟨x0_0, x0_1, x0_2⟩ : cA)) (o := x1) (es := x2) h0 l2 h2, spc := fun c0 c2 => spd h0 B0 l1 l2 h2 B2 s2 c0 c2, imp := fun c0 c2 => by rw [imd h0 B0 l1 l2 h2 B2 s2 c0 c2, aOv (φ := fl cN) (ψ := fl aO) (fun e he => ((aHB (s := (⟨x0_0, x0_1, x0_2⟩ : cA)) (o := x1) (es := x2) h0 l2 h2) e he).nosl)], mn := by omega,
           to0 := aQc h0 (by omega), eq0 := aP7 h0, mk0 := aQa h0, to2 := aQe h2 (by omega), eq2 := aQd hl2 h2, mk2 := aQb hl2 h2 }
end
end Go.Vs
end
section
namespace Go.Vs
variable {m : Bool} {P : Program} {c : Fl m}
theorem aKj {n : Nat} {t : TypeId} {ls : List (aB m)} (hu : P.underlying t = some .bool) (h : dY P c n t ls) : ∃ b, ls = [.bool b] := by
  cases n with
  | zero => exact h.elim
  | succ n => unfold dY at h; simp only [hu] at h; exact h
theorem aKe {n : Nat} {t : TypeId} {k : IntKind} {ls : List (aB m)} (hu : P.underlying t = some (.int k)) (h : dY P c n t ls) : ∃ z, ls = [.int k z] := by
  cases n with
  | zero => exact h.elim
  | succ n =>
    unfold dY at h
    simp only [hu] at h
    obtain ⟨z, e, _⟩ := h
    exact ⟨z, e⟩
theorem lG {n : Nat} {t : TypeId} {ls : List (aB m)} (hu : P.underlying t = some .string) (h : dY P c n t ls) : ∃ s : ByteArray, ls = [.str s] ∧ s.size ≤ maxLen := by
  cases n with
  | zero => exact h.elim
  | succ n => unfold dY at h; simp only [hu] at h; exact h
theorem pM {n : Nat} {t e : TypeId} {ls : List (aB m)} (hu : P.underlying t = some (.slice e)) (h : dY P c n t ls) : ∃ k es, n = k + 1 ∧ ls = [.sl c es] ∧ es.length ≤ maxLen ∧ ∀ x ∈ es, dY P c k e x := by
  cases n with
  | zero => exact h.elim
  | succ n =>
    unfold dY at h
    simp only [hu] at h
    obtain ⟨es, e1, e2, e3⟩ := h
    exact ⟨n, es, rfl, e1, e2, e3⟩
theorem kY {n : Nat} {t : TypeId} {fs : Array Field} {ts : List TypeId} {ls : List (aB m)} (hu : P.underlying t = some (.struct fs)) (hts : fs.toList.map Field.type = ts) (h : dY P c n t ls) : ∃ k, n = k + 1 ∧ tP (dY P c k) ts ls := by
  subst hts
  cases n with
  | zero => exact h.elim
  | succ n =>
    unfold dY at h
    simp only [hu] at h
    exact ⟨n, rfl, h⟩
end Go.Vs
end
section
open Go Go.Vs Go.Proofs
set_option linter.unusedVariables false
set_option linter.unusedSimpArgs false
namespace Go.Vs
theorem aI6 {n : Nat} {ls : List (aB false)} (h : dY Tryz.prog fP n 211 ls) : kL ls := by
  obtain ⟨k, rfl, hh⟩ := kY Tryz.underlying211 (ts := [9, 9]) (by kernel_rfl) h
  simp only [tP] at hh
  obtain ⟨a0, _, rfl, g0, a1, _, rfl, g1, rfl⟩ := hh
  obtain ⟨s0, rfl, h0⟩ := lG Tryz.underlying9 g0
  obtain ⟨s1, rfl, h1⟩ := lG Tryz.underlying9 g1
  exact .mk s0 s1 h0 h1
theorem aHO {n : Nat} {ls : List (aB false)} (h : dY Tryz.prog fP n 171 ls) : cS ls := by
  induction n using Nat.strongRecOn generalizing ls with
  | ind n ih =>
    obtain ⟨k, rfl, hh⟩ := kY Tryz.underlying171 (ts := [3, 9, 169, 85]) (by kernel_rfl) h
    simp only [tP] at hh
    obtain ⟨a0, _, rfl, g0, a1, _, rfl, g1, a2, _, rfl, g2, a3, _, rfl, g3, rfl⟩ := hh
    obtain ⟨i0, rfl⟩ := aKe Tryz.underlying3 g0
    obtain ⟨s1, rfl, h1⟩ := lG Tryz.underlying9 g1
    obtain ⟨k2, e2, hk2, rfl, h2, g2⟩ := pM Tryz.underlying169 g2
    have q2 : ∀ e ∈ e2, cS e := fun e he => ih k2 (by omega) (g2 e he)
    obtain ⟨k3, e3, hk3, rfl, h3, g3⟩ := pM Tryz.underlying85 g3
    have q3 : ∀ e ∈ e3, gB e := fun e he => lG Tryz.underlying9 (g3 e he)
    exact .mk i0 s1 e2 e3 h1 h2 q2 h3 q3
theorem aKG {n : Nat} {ls : List (aB false)} (h : dY Tryz.prog fP n 173 ls) : gR ls := by
  obtain ⟨k, rfl, hh⟩ := kY Tryz.underlying173 (ts := [9, 171]) (by kernel_rfl) h
  simp only [tP] at hh
  obtain ⟨a0, _, rfl, g0, a1, _, rfl, g1, rfl⟩ := hh
  obtain ⟨s0, rfl, h0⟩ := lG Tryz.underlying9 g0
  obtain ⟨i1, s2, e3, e4, rfl, h2, h3, q3, h4, q4⟩ := (aHO g1).ex
  exact .mk s0 i1 s2 e3 e4 h0 h2 h3 q3 h4 q4
theorem aBp {n : Nat} {ls : List (aB false)} (h : dY Tryz.prog fP n 176 ls) : eD ls := by
  obtain ⟨k, rfl, hh⟩ := kY Tryz.underlying176 (ts := [9, 54]) (by kernel_rfl) h
  simp only [tP] at hh
  obtain ⟨a0, _, rfl, g0, a1, _, rfl, g1, rfl⟩ := hh
  obtain ⟨s0, rfl, h0⟩ := lG Tryz.underlying9 g0
  obtain ⟨k1, e1, hk1, rfl, h1, g1⟩ := pM Tryz.underlying54 g1
  have q1 : ∀ e ∈ e1, gR e := fun e he => aKG (g1 e he)
  exact .mk s0 e1 h0 h1 q1
theorem aHW {n : Nat} {ls : List (aB false)} (h : dY Tryz.prog fP n 216 ls) : cW ls := by
  obtain ⟨k, rfl, hh⟩ := kY Tryz.underlying216 (ts := [9, 9, 211, 4, 171, 55]) (by kernel_rfl) h
  simp only [tP] at hh
  obtain ⟨a0, _, rfl, g0, a1, _, rfl, g1, a2, _, rfl, g2, a3, _, rfl, g3, a4, _, rfl, g4, a5, _, rfl, g5, rfl⟩ := hh
  obtain ⟨s0, rfl, h0⟩ := lG Tryz.underlying9 g0
  obtain ⟨s1, rfl, h1⟩ := lG Tryz.underlying9 g1
  obtain ⟨s2, s3, rfl, h2, h3⟩ := (aI6 g2).ex
  obtain ⟨b4, rfl⟩ := aKj Tryz.underlying4 g3
  obtain ⟨i5, s6, e7, e8, rfl, h6, h7, q7, h8, q8⟩ := (aHO g4).ex
  obtain ⟨k9, e9, hk9, rfl, h9, g5⟩ := pM Tryz.underlying55 g5
  have q9 : ∀ e ∈ e9, eD e := fun e he => aBp (g5 e he)
  exact .mk s0 s1 s2 s3 b4 i5 s6 e7 e8 e9 h0 h1 h2 h3 h6 h7 q7 h8 q8 h9 q9
theorem aIM {n : Nat} {ls : List (aB false)} (h : dY Tryz.prog fP n 213 ls) : bY ls := by
  obtain ⟨k, rfl, hh⟩ := kY Tryz.underlying213 (ts := [9, 9, 104, 211, 55]) (by kernel_rfl) h
  simp only [tP] at hh
  obtain ⟨a0, _, rfl, g0, a1, _, rfl, g1, a2, _, rfl, g2, a3, _, rfl, g3, a4, _, rfl, g4, rfl⟩ := hh
  obtain ⟨s0, rfl, h0⟩ := lG Tryz.underlying9 g0
  obtain ⟨s1, rfl, h1⟩ := lG Tryz.underlying9 g1
  obtain ⟨k2, e2, hk2, rfl, h2, g2⟩ := pM Tryz.underlying104 g2
  have q2 : ∀ e ∈ e2, cW e := fun e he => aHW (g2 e he)
  obtain ⟨s3, s4, rfl, h3, h4⟩ := (aI6 g3).ex
  obtain ⟨k5, e5, hk5, rfl, h5, g4⟩ := pM Tryz.underlying55 g4
  have q5 : ∀ e ∈ e5, eD e := fun e he => aBp (g4 e he)
  exact .mk s0 s1 e2 s3 s4 e5 h0 h1 h2 q2 h3 h4 h5 q5
theorem aJX {n : Nat} {ls : List (aB false)} (h : dY Tryz.prog fP n 219 ls) : cG ls := by
  obtain ⟨k, rfl, hh⟩ := kY Tryz.underlying219 (ts := [9, 9, 55]) (by kernel_rfl) h
  simp only [tP] at hh
  obtain ⟨a0, _, rfl, g0, a1, _, rfl, g1, a2, _, rfl, g2, rfl⟩ := hh
  obtain ⟨s0, rfl, h0⟩ := lG Tryz.underlying9 g0
  obtain ⟨s1, rfl, h1⟩ := lG Tryz.underlying9 g1
  obtain ⟨k2, e2, hk2, rfl, h2, g2⟩ := pM Tryz.underlying55 g2
  have q2 : ∀ e ∈ e2, eD e := fun e he => aBp (g2 e he)
  exact .mk s0 s1 e2 h0 h1 h2 q2
theorem aJb {n : Nat} {ls : List (aB false)} (h : dY Tryz.prog fP n 110 ls) : dT ls := by
  obtain ⟨k, rfl, hh⟩ := kY Tryz.underlying110 (ts := [3, 9]) (by kernel_rfl) h
  simp only [tP] at hh
  obtain ⟨a0, _, rfl, g0, a1, _, rfl, g1, rfl⟩ := hh
  obtain ⟨i0, rfl⟩ := aKe Tryz.underlying3 g0
  obtain ⟨s1, rfl, h1⟩ := lG Tryz.underlying9 g1
  exact .mk i0 s1 h1
theorem aLe {n : Nat} {ls : List (aB false)} (h : dY Tryz.prog fP n 107 ls) : fQ ls := by
  obtain ⟨k, rfl, hh⟩ := kY Tryz.underlying107 (ts := [3, 4, 9, 9, 85, 103, 104, 105, 23, 4, 55]) (by kernel_rfl) h
  simp only [tP] at hh
  obtain ⟨a0, _, rfl, g0, a1, _, rfl, g1, a2, _, rfl, g2, a3, _, rfl, g3, a4, _, rfl, g4, a5, _, rfl, g5, a6, _, rfl, g6, a7, _, rfl, g7, a8, _, rfl, g8, a9, _, rfl, g9, a10, _, rfl, g10, rfl⟩ := hh
  obtain ⟨i0, rfl⟩ := aKe Tryz.underlying3 g0
  obtain ⟨b1, rfl⟩ := aKj Tryz.underlying4 g1
  obtain ⟨s2, rfl, h2⟩ := lG Tryz.underlying9 g2
  obtain ⟨s3, rfl, h3⟩ := lG Tryz.underlying9 g3
  obtain ⟨k4, e4, hk4, rfl, h4, g4⟩ := pM Tryz.underlying85 g4
  have q4 : ∀ e ∈ e4, gB e := fun e he => lG Tryz.underlying9 (g4 e he)
  obtain ⟨k5, e5, hk5, rfl, h5, g5⟩ := pM Tryz.underlying103 g5
  have q5 : ∀ e ∈ e5, bY e := fun e he => aIM (g5 e he)
  obtain ⟨k6, e6, hk6, rfl, h6, g6⟩ := pM Tryz.underlying104 g6
  have q6 : ∀ e ∈ e6, cW e := fun e he => aHW (g6 e he)
  obtain ⟨k7, e7, hk7, rfl, h7, g7⟩ := pM Tryz.underlying105 g7
  have q7 : ∀ e ∈ e7, cG e := fun e he => aJX (g7 e he)
  obtain ⟨k8, e8, hk8, rfl, h8, g8⟩ := pM Tryz.underlying23 g8
  have q8 : ∀ e ∈ e8, dT e := fun e he => aJb (g8 e he)
  obtain ⟨b9, rfl⟩ := aKj Tryz.underlying4 g9
  obtain ⟨k10, e10, hk10, rfl, h10, g10⟩ := pM Tryz.underlying55 g10
  have q10 : ∀ e ∈ e10, eD e := fun e he => aBp (g10 e he)
  exact .mk i0 b1 s2 s3 e4 e5 e6 e7 e8 b9 e10 h2 h3 h4 q4 h5 q5 h6 q6 h7 q7 h8 q8 h10 q10
theorem aK8 {n : Nat} {ls : List (aB false)} (h : dY Tryz.prog fP n 25 ls) : bK ls := by
  obtain ⟨k, rfl, hh⟩ := kY Tryz.underlying25 (ts := [22, 22, 23]) (by kernel_rfl) h
  simp only [tP] at hh
  obtain ⟨a0, _, rfl, g0, a1, _, rfl, g1, a2, _, rfl, g2, rfl⟩ := hh
  obtain ⟨k0, e0, hk0, rfl, h0, g0⟩ := pM Tryz.underlying22 g0
  have q0 : ∀ e ∈ e0, fQ e := fun e he => aLe (g0 e he)
  obtain ⟨k1, e1, hk1, rfl, h1, g1⟩ := pM Tryz.underlying22 g1
  have q1 : ∀ e ∈ e1, fQ e := fun e he => aLe (g1 e he)
  obtain ⟨k2, e2, hk2, rfl, h2, g2⟩ := pM Tryz.underlying23 g2
  have q2 : ∀ e ∈ e2, dT e := fun e he => aJb (g2 e he)
  exact .mk e0 e1 e2 h0 q0 h1 q1 h2 q2
theorem aOy {n : Nat} {ls : List (aB false)} (h : dY Tryz.prog fP n 57 ls) : dM ls := by
  induction n using Nat.strongRecOn generalizing ls with
  | ind n ih =>
    obtain ⟨k, rfl, hh⟩ := kY Tryz.underlying57 (ts := [3, 9, 9, 9, 54, 55, 26]) (by kernel_rfl) h
    simp only [tP] at hh
    obtain ⟨a0, _, rfl, g0, a1, _, rfl, g1, a2, _, rfl, g2, a3, _, rfl, g3, a4, _, rfl, g4, a5, _, rfl, g5, a6, _, rfl, g6, rfl⟩ := hh
    obtain ⟨i0, rfl⟩ := aKe Tryz.underlying3 g0
    obtain ⟨s1, rfl, h1⟩ := lG Tryz.underlying9 g1
    obtain ⟨s2, rfl, h2⟩ := lG Tryz.underlying9 g2
    obtain ⟨s3, rfl, h3⟩ := lG Tryz.underlying9 g3
    obtain ⟨k4, e4, hk4, rfl, h4, g4⟩ := pM Tryz.underlying54 g4
    have q4 : ∀ e ∈ e4, gR e := fun e he => aKG (g4 e he)
    obtain ⟨k5, e5, hk5, rfl, h5, g5⟩ := pM Tryz.underlying55 g5
    have q5 : ∀ e ∈ e5, eD e := fun e he => aBp (g5 e he)
    obtain ⟨k6, e6, hk6, rfl, h6, g6⟩ := pM Tryz.underlying26 g6
    have q6 : ∀ e ∈ e6, dM e := fun e he => ih k6 (by omega) (g6 e he)
    exact .mk i0 s1 s2 s3 e4 e5 e6 h1 h2 h3 h4 q4 h5 q5 h6 q6
theorem aPm {n : Nat} {ls : List (aB false)} (h : dY Tryz.prog fP n 26 ls) : ∃ x : List El, ls = [.sl fP x] ∧ x.length ≤ maxLen ∧ ∀ e ∈ x, dM e := by
  obtain ⟨k, x, hk, rfl, h1, g⟩ := pM Tryz.underlying26 h
  exact ⟨x, rfl, h1, fun e he => aOy (g e he)⟩
end Go.Vs
end
