/- What the program's functions compute, read off their text by the shadow runner (GTx, VsDoor); no condition. -/
import Derived.Test.YtndacingbfeonaaGreatDoorRows
import Derived.FnData
import Derived.MakeChecks
import Derived.Test.YtndacingbfeonaaGreatDoorVB9
section
open Go Go.Vs Go.Proofs
set_option linter.unusedVariables false
set_option linter.unusedSimpArgs false
namespace Go.Vs
theorem isType_of {n : Nat} {ls : List (Leaf false)} (h : Shaped Tryz.prog fP n 90 ls) : IsType ls := by
  obtain ⟨k, rfl, hh⟩ := sh_struct Tryz.underlying90 (ts := [9, 9]) (by kernel_rfl) h
  simp only [Parts] at hh
  obtain ⟨a0, _, rfl, g0, a1, _, rfl, g1, rfl⟩ := hh
  obtain ⟨s0, rfl, h0⟩ := sh_str Tryz.underlying9 g0
  obtain ⟨s1, rfl, h1⟩ := sh_str Tryz.underlying9 g1
  exact .mk s0 s1 h0 h1
theorem isValue_of {n : Nat} {ls : List (Leaf false)} (h : Shaped Tryz.prog fP n 93 ls) : IsValue ls := by
  induction n using Nat.strongRecOn generalizing ls with
  | ind n ih =>
    obtain ⟨k, rfl, hh⟩ := sh_struct Tryz.underlying93 (ts := [3, 9, 91, 61]) (by kernel_rfl) h
    simp only [Parts] at hh
    obtain ⟨a0, _, rfl, g0, a1, _, rfl, g1, a2, _, rfl, g2, a3, _, rfl, g3, rfl⟩ := hh
    obtain ⟨i0, rfl⟩ := sh_int Tryz.underlying3 g0
    obtain ⟨s1, rfl, h1⟩ := sh_str Tryz.underlying9 g1
    obtain ⟨k2, e2, hk2, rfl, h2, g2⟩ := sh_sl Tryz.underlying91 g2
    have q2 : ∀ e ∈ e2, IsValue e := fun e he => ih k2 (by omega) (g2 e he)
    obtain ⟨k3, e3, hk3, rfl, h3, g3⟩ := sh_sl Tryz.underlying61 g3
    have q3 : ∀ e ∈ e3, IsStr e := fun e he => sh_str Tryz.underlying9 (g3 e he)
    exact .mk i0 s1 e2 e3 h1 h2 q2 h3 q3
theorem isArg_of {n : Nat} {ls : List (Leaf false)} (h : Shaped Tryz.prog fP n 98 ls) : IsArg ls := by
  obtain ⟨k, rfl, hh⟩ := sh_struct Tryz.underlying98 (ts := [9, 93]) (by kernel_rfl) h
  simp only [Parts] at hh
  obtain ⟨a0, _, rfl, g0, a1, _, rfl, g1, rfl⟩ := hh
  obtain ⟨s0, rfl, h0⟩ := sh_str Tryz.underlying9 g0
  obtain ⟨i1, s2, e3, e4, rfl, h2, h3, q3, h4, q4⟩ := (isValue_of g1).ex
  exact .mk s0 i1 s2 e3 e4 h0 h2 h3 q3 h4 q4
theorem isDir_of {n : Nat} {ls : List (Leaf false)} (h : Shaped Tryz.prog fP n 137 ls) : IsDir ls := by
  obtain ⟨k, rfl, hh⟩ := sh_struct Tryz.underlying137 (ts := [9, 27]) (by kernel_rfl) h
  simp only [Parts] at hh
  obtain ⟨a0, _, rfl, g0, a1, _, rfl, g1, rfl⟩ := hh
  obtain ⟨s0, rfl, h0⟩ := sh_str Tryz.underlying9 g0
  obtain ⟨k1, e1, hk1, rfl, h1, g1⟩ := sh_sl Tryz.underlying27 g1
  have q1 : ∀ e ∈ e1, IsArg e := fun e he => isArg_of (g1 e he)
  exact .mk s0 e1 h0 h1 q1
theorem isInDef_of {n : Nat} {ls : List (Leaf false)} (h : Shaped Tryz.prog fP n 95 ls) : IsInDef ls := by
  obtain ⟨k, rfl, hh⟩ := sh_struct Tryz.underlying95 (ts := [9, 9, 90, 4, 93, 53]) (by kernel_rfl) h
  simp only [Parts] at hh
  obtain ⟨a0, _, rfl, g0, a1, _, rfl, g1, a2, _, rfl, g2, a3, _, rfl, g3, a4, _, rfl, g4, a5, _, rfl, g5, rfl⟩ := hh
  obtain ⟨s0, rfl, h0⟩ := sh_str Tryz.underlying9 g0
  obtain ⟨s1, rfl, h1⟩ := sh_str Tryz.underlying9 g1
  obtain ⟨s2, s3, rfl, h2, h3⟩ := (isType_of g2).ex
  obtain ⟨b4, rfl⟩ := sh_bool Tryz.underlying4 g3
  obtain ⟨i5, s6, e7, e8, rfl, h6, h7, q7, h8, q8⟩ := (isValue_of g4).ex
  obtain ⟨k9, e9, hk9, rfl, h9, g5⟩ := sh_sl Tryz.underlying53 g5
  have q9 : ∀ e ∈ e9, IsDir e := fun e he => isDir_of (g5 e he)
  exact .mk s0 s1 s2 s3 b4 i5 s6 e7 e8 e9 h0 h1 h2 h3 h6 h7 q7 h8 q8 h9 q9
theorem isFieldDef_of {n : Nat} {ls : List (Leaf false)} (h : Shaped Tryz.prog fP n 217 ls) : IsFieldDef ls := by
  obtain ⟨k, rfl, hh⟩ := sh_struct Tryz.underlying217 (ts := [9, 9, 26, 90, 53]) (by kernel_rfl) h
  simp only [Parts] at hh
  obtain ⟨a0, _, rfl, g0, a1, _, rfl, g1, a2, _, rfl, g2, a3, _, rfl, g3, a4, _, rfl, g4, rfl⟩ := hh
  obtain ⟨s0, rfl, h0⟩ := sh_str Tryz.underlying9 g0
  obtain ⟨s1, rfl, h1⟩ := sh_str Tryz.underlying9 g1
  obtain ⟨k2, e2, hk2, rfl, h2, g2⟩ := sh_sl Tryz.underlying26 g2
  have q2 : ∀ e ∈ e2, IsInDef e := fun e he => isInDef_of (g2 e he)
  obtain ⟨s3, s4, rfl, h3, h4⟩ := (isType_of g3).ex
  obtain ⟨k5, e5, hk5, rfl, h5, g4⟩ := sh_sl Tryz.underlying53 g4
  have q5 : ∀ e ∈ e5, IsDir e := fun e he => isDir_of (g4 e he)
  exact .mk s0 s1 e2 s3 s4 e5 h0 h1 h2 q2 h3 h4 h5 q5
theorem isEnumDef_of {n : Nat} {ls : List (Leaf false)} (h : Shaped Tryz.prog fP n 220 ls) : IsEnumDef ls := by
  obtain ⟨k, rfl, hh⟩ := sh_struct Tryz.underlying220 (ts := [9, 9, 53]) (by kernel_rfl) h
  simp only [Parts] at hh
  obtain ⟨a0, _, rfl, g0, a1, _, rfl, g1, a2, _, rfl, g2, rfl⟩ := hh
  obtain ⟨s0, rfl, h0⟩ := sh_str Tryz.underlying9 g0
  obtain ⟨s1, rfl, h1⟩ := sh_str Tryz.underlying9 g1
  obtain ⟨k2, e2, hk2, rfl, h2, g2⟩ := sh_sl Tryz.underlying53 g2
  have q2 : ∀ e ∈ e2, IsDir e := fun e he => isDir_of (g2 e he)
  exact .mk s0 s1 e2 h0 h1 h2 q2
theorem isRoot_of {n : Nat} {ls : List (Leaf false)} (h : Shaped Tryz.prog fP n 189 ls) : IsRoot ls := by
  obtain ⟨k, rfl, hh⟩ := sh_struct Tryz.underlying189 (ts := [3, 9]) (by kernel_rfl) h
  simp only [Parts] at hh
  obtain ⟨a0, _, rfl, g0, a1, _, rfl, g1, rfl⟩ := hh
  obtain ⟨i0, rfl⟩ := sh_int Tryz.underlying3 g0
  obtain ⟨s1, rfl, h1⟩ := sh_str Tryz.underlying9 g1
  exact .mk i0 s1 h1
theorem isDef_of {n : Nat} {ls : List (Leaf false)} (h : Shaped Tryz.prog fP n 65 ls) : IsDef ls := by
  obtain ⟨k, rfl, hh⟩ := sh_struct Tryz.underlying65 (ts := [3, 4, 9, 9, 61, 62, 26, 63, 23, 4, 53]) (by kernel_rfl) h
  simp only [Parts] at hh
  obtain ⟨a0, _, rfl, g0, a1, _, rfl, g1, a2, _, rfl, g2, a3, _, rfl, g3, a4, _, rfl, g4, a5, _, rfl, g5, a6, _, rfl, g6, a7, _, rfl, g7, a8, _, rfl, g8, a9, _, rfl, g9, a10, _, rfl, g10, rfl⟩ := hh
  obtain ⟨i0, rfl⟩ := sh_int Tryz.underlying3 g0
  obtain ⟨b1, rfl⟩ := sh_bool Tryz.underlying4 g1
  obtain ⟨s2, rfl, h2⟩ := sh_str Tryz.underlying9 g2
  obtain ⟨s3, rfl, h3⟩ := sh_str Tryz.underlying9 g3
  obtain ⟨k4, e4, hk4, rfl, h4, g4⟩ := sh_sl Tryz.underlying61 g4
  have q4 : ∀ e ∈ e4, IsStr e := fun e he => sh_str Tryz.underlying9 (g4 e he)
  obtain ⟨k5, e5, hk5, rfl, h5, g5⟩ := sh_sl Tryz.underlying62 g5
  have q5 : ∀ e ∈ e5, IsFieldDef e := fun e he => isFieldDef_of (g5 e he)
  obtain ⟨k6, e6, hk6, rfl, h6, g6⟩ := sh_sl Tryz.underlying26 g6
  have q6 : ∀ e ∈ e6, IsInDef e := fun e he => isInDef_of (g6 e he)
  obtain ⟨k7, e7, hk7, rfl, h7, g7⟩ := sh_sl Tryz.underlying63 g7
  have q7 : ∀ e ∈ e7, IsEnumDef e := fun e he => isEnumDef_of (g7 e he)
  obtain ⟨k8, e8, hk8, rfl, h8, g8⟩ := sh_sl Tryz.underlying23 g8
  have q8 : ∀ e ∈ e8, IsRoot e := fun e he => isRoot_of (g8 e he)
  obtain ⟨b9, rfl⟩ := sh_bool Tryz.underlying4 g9
  obtain ⟨k10, e10, hk10, rfl, h10, g10⟩ := sh_sl Tryz.underlying53 g10
  have q10 : ∀ e ∈ e10, IsDir e := fun e he => isDir_of (g10 e he)
  exact .mk i0 b1 s2 s3 e4 e5 e6 e7 e8 b9 e10 h2 h3 h4 q4 h5 q5 h6 q6 h7 q7 h8 q8 h10 q10
theorem isSchema_of {n : Nat} {ls : List (Leaf false)} (h : Shaped Tryz.prog fP n 25 ls) : IsSchema ls := by
  obtain ⟨k, rfl, hh⟩ := sh_struct Tryz.underlying25 (ts := [22, 22, 23]) (by kernel_rfl) h
  simp only [Parts] at hh
  obtain ⟨a0, _, rfl, g0, a1, _, rfl, g1, a2, _, rfl, g2, rfl⟩ := hh
  obtain ⟨k0, e0, hk0, rfl, h0, g0⟩ := sh_sl Tryz.underlying22 g0
  have q0 : ∀ e ∈ e0, IsDef e := fun e he => isDef_of (g0 e he)
  obtain ⟨k1, e1, hk1, rfl, h1, g1⟩ := sh_sl Tryz.underlying22 g1
  have q1 : ∀ e ∈ e1, IsDef e := fun e he => isDef_of (g1 e he)
  obtain ⟨k2, e2, hk2, rfl, h2, g2⟩ := sh_sl Tryz.underlying23 g2
  have q2 : ∀ e ∈ e2, IsRoot e := fun e he => isRoot_of (g2 e he)
  exact .mk e0 e1 e2 h0 q0 h1 q1 h2 q2

theorem isRow2 {n : Nat} {ls : List (Leaf false)} (h : Shaped Tryz.prog fP n 26 ls) : ∃ x : List El, ls = [.sl fP x] ∧ x.length ≤ maxLen ∧ ∀ e ∈ x, IsInDef e := by
  obtain ⟨k, x, hk, rfl, h1, g⟩ := sh_sl Tryz.underlying26 h
  exact ⟨x, rfl, h1, fun e he => isInDef_of (g e he)⟩
end Go.Vs
end
section
/- What lies in the package's variables when a call begins: errors. -/
set_option linter.unusedVariables false
namespace Go.Vs
theorem trod_iface {H : Type} {enc : TypeId × Value → H} {P : Program} {w : World} {base : Nat} {spare : Nat → Bool} {held : Bool} {fuel : Nat} {t : TypeId} {cs : List Value} {x : DataW H × List MemPlace} {ms : Array (String × TypeId)}
    (ht : P.underlying t = some (.interface ms)) (h : DataW.trod enc P w base spare held fuel t cs = some x) : cs = [.nilIface] ∨ ∃ u v, cs = [.iface u v] := by
  cases fuel with
  | zero => simp [DataW.trod] at h
  | succ n =>
    unfold DataW.trod at h
    rw [ht] at h
    split at h <;> simp_all
/-- What a laid error holds. -/
theorem laid_err {P : Program} {w : World} {n : String} {d : DataW Unit} {g t : Nat} {ms : Array (String × TypeId)} (hg : P.globalNamed n = some g) (ht : (P.globals[g]?).map (·.type) = some t) (hu : P.underlying t = some (.interface ms)) :
    ∀ {l : List (String × DataW Unit)} {ps : List MemPlace}, DataW.LaidVars P w l ps → (n, d) ∈ l → ∃ ev, w.cell? ⟨g, 0, none⟩ = some ev ∧ (ev = .nilIface ∨ ∃ te pe, ev = .iface te pe)
  | [], _, _, hm => by cases hm
  | (n', d') :: r, ps, h, hm => by
    obtain ⟨g', t', cs, fuel, p, q, hg', ht', hv, hd, hr, _⟩ := h
    rcases List.mem_cons.1 hm with e | hm
    · obtain ⟨rfl, rfl⟩ := Prod.mk.inj e
      obtain rfl := Option.some.inj (hg.symm.trans hg')
      obtain rfl := Option.some.inj (ht.symm.trans ht')
      have hc := World.var?_cell hg hv 0
      obtain ⟨l⟩ := cs
      rcases trod_iface hu hd with e | ⟨u, v, e⟩
      · simp at e; subst e
        exact ⟨_, hc, .inl rfl⟩
      · simp at e; subst e
        exact ⟨_, hc, .inr ⟨u, v, rfl⟩⟩
    · exact laid_err hg ht hu hr hm
end Go.Vs
end
