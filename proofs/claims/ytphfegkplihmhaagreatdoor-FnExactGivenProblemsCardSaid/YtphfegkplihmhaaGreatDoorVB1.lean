/- What the program's functions compute, read off their text by the shadow runner (VsInv, VsApp, VsMem, VsBuild, VsBox, VsSound, VsSound2, VsCall, VsBack); no condition. -/
import Derived.Laws.OwnMore
import Derived.Lib.AppendStr
import Derived.Laws.IdiomStrings
import Derived.Laws.Tables
import Derived.Laws.MakeOwn
import Derived.Test.YtphfegkplihmhaaGreatDoorVB0
section
set_option linter.unusedVariables false
set_option linter.unusedSimpArgs false
namespace Go.Vs
variable {m : Bool}
variable {P : Program} {N : Env}
def jK : (SV m) → Bool | .own _ _ => true | .raw _ _ => true | _ => false
abbrev St.al (s : (St m)) : Nat → Bool := fun b => (aW s.boxes b).isSome
def St.holds (s : (St m)) : Loc → Prop
  | .tmp t => jK (s.tmps.getD t .any) = true
  | .box b j => ∃ cs, aW s.boxes b = some cs ∧ jK (cs.getD j .any) = true
  | .blk b => (aW s.boxes b).isSome = true
theorem aR.to {w w' : World} {F F' : Fr} {Ow Ow' : Own} {bm bm' : Nat → Nat} {al al' : Nat → Bool} {loc loc' : Loc} {x : (SV m)} {v : Value} (k : eN N w F w' F') (h : aR P w F N Ow bm al loc x v)
    (hp : ∀ b, al b = true → bm' b = bm b ∧ al' b = true) (hb : jK x = true → ∀ g, Ow g = some loc → w'.heap[g]? = w.heap[g]? ∧ F' g = F g ∧ Ow' g = some loc') : aR P w' F' N Ow' bm' al' loc' x v := by
  cases x
  case own eo es => exact lO.keeps k h (hb rfl)
  case raw eo es => exact lO.keeps k h (hb rfl)
  case fn f caps => obtain ⟨vs, e, hs, hc⟩ := h; exact ⟨vs, e, hs, fun j c u a b => ((hc j c u a b).keeps k).boxes hp⟩
  case tup cs => obtain ⟨vs, e, hs, hc⟩ := h; exact ⟨vs, e, hs, fun j c u a b => ((hc j c u a b).keeps k).boxes hp⟩
  all_goals (simp only [aR] at h ⊢; exact (dF.keeps k h).boxes hp)
theorem aR.any {w : World} {F : Fr} {Ow : Own} {bm : Nat → Nat} {al : Nat → Bool} {loc : Loc} {v : Value} : aR (m := m) P w F N Ow bm al loc .any v := by simp only [aR, dF]
theorem aR.own_nil {w : World} {F : Fr} {Ow : Own} {bm : Nat → Nat} {al : Nat → Bool} {loc : Loc} {e : Option TypeId} : aR (m := m) P w F N Ow bm al loc (.own e []) (.slice none 0 0) := by
  simp only [aR]; exact .inl ⟨rfl, rfl⟩
theorem aR.leaf {w : World} {F : Fr} {Ow : Own} {bm : Nat → Nat} {al : Nat → Bool} {loc : Loc} {l : (aC m)} {v : Value} (h : eB w F N l v) : aR P w F N Ow bm al loc (.leaf l) v := by
  simp only [aR, dF]; exact h
theorem aR.cellOf {w : World} {F : Fr} {Ow : Own} {bm : Nat → Nat} {al : Nat → Bool} {loc : Loc} {l : (aC m)} {v : Value} (h : eB w F N l v) : aR P w F N Ow bm al loc (cellOf l) v := by
  cases h with
  | nl e => exact aR.own_nil
  | bool b => exact aR.leaf (.bool b)
  | int k n => exact aR.leaf (.int k n)
  | str t => exact aR.leaf (.str t)
  | unk v h => exact aR.leaf (.unk v h)
  | sl c es A cap z vals h1 h2 h3 h4 h5 => exact aR.leaf (.sl c es A cap z vals h1 h2 h3 h4 h5)
theorem aR.agg {w : World} {F : Fr} {Ow : Own} {bm : Nat → Nat} {al : Nat → Bool} {loc : Loc} {cs : List (aC m)} {us : Array Value} (h : cU w F N cs us.toList) : aR P w F N Ow bm al loc (.agg cs) (.agg us) := by
  simp only [aR, dF]; exact ⟨us, rfl, h⟩
theorem aR.leafOf {w : World} {F : Fr} {Ow : Own} {bm : Nat → Nat} {al : Nat → Bool} {loc : Loc} {x : (SV m)} {v : Value} (h : aR P w F N Ow bm al loc x v) : ∀ l, x.drop = .leaf l → eB w F N l v := by
  intro l hl
  have := aR.drop (Ow' := Ow) (loc' := loc) h
  rw [hl] at this
  simpa only [aR, dF] using this
theorem aR.aggOf {w : World} {F : Fr} {Ow : Own} {bm : Nat → Nat} {al : Nat → Bool} {loc : Loc} {x : (SV m)} {v : Value} (h : aR P w F N Ow bm al loc x v) : ∀ cs, x.drop = .agg cs → ∃ vs, v = .agg vs ∧ cU w F N cs vs.toList := by
  intro l hl
  have := aR.drop (Ow' := Ow) (loc' := loc) h
  rw [hl] at this
  simpa only [aR, dF] using this
theorem aR.bslOf {w : World} {F : Fr} {Ow : Own} {bm : Nat → Nat} {al : Nat → Bool} {loc : Loc} {x : (SV m)} {v : Value} (h : aR P w F N Ow bm al loc x v) : ∀ b z lo n, x.drop = .bsl b z lo n → aDi bm al b z lo n v := by
  intro b z lo n hl
  have := aR.drop (Ow' := Ow) (loc' := loc) h
  rw [hl] at this
  simp only [aR, dF] at this
  exact this
theorem aBG {x : (SV m)} {l : (aC m)} (h : x = .leaf l) : x.drop = .leaf l := by subst h; rfl
section
variable {s : (St m)} {tmps : Array Value} {w : World} {F : Fr} {Ow : Own} {bm : Nat → Nat}
def aEQ : Operand → Loc | .tmp t => .tmp t | _ => .blk 0
theorem Inv.eval (h : Inv P s tmps w F N Ow bm) {a : Act} (ha : a.tmps = tmps) (x : Operand) : aR P w F N Ow bm s.al (aEQ x) (s.eval x) (a.eval x) := by
  cases x with
  | tmp t => simpa [St.eval, Act.eval, ha, aEQ] using h.slot t
  | const v =>
    simp only [St.eval, Act.eval, aEQ]
    unfold aFN
    split <;> first | exact aR.leaf (.bool _) | exact aR.leaf (.int _ _) | exact aR.leaf (.str _) | exact aR.own_nil | (simp only [aR, dF]; done) | exact aR.any
  | global g => exact aR.any
  | func f => exact ⟨#[], rfl, rfl, fun j c u h => by simp at h⟩
theorem Inv.set (h : Inv P s tmps w F N Ow bm) {d : Nat} {v : (SV m)} {u : Value} (hv : aR P w F N Ow bm s.al (.tmp d) v u) :
    Inv P { s with tmps := s.tmps.set d v } (tmps.setIfInBounds d u) w F N Ow bm := by
  refine ⟨by simp [h.len], fun t => ?_, h.box, h.low, h.new, h.bmn, h.zow⟩
  show aR P w F N Ow bm s.al (.tmp t) ((s.tmps.set d v).getD t .any) ((tmps.setIfInBounds d u).getD t undef)
  by_cases ht : t = d
  · subst ht
    by_cases hl : t < s.tmps.length
    · have hl' : t < tmps.size := by rw [← h.len]; exact hl
      rw [List.getD_eq_getElem?_getD, List.getElem?_set_self hl]
      simpa [Array.getD, hl'] using hv
    · have hl' : ¬ t < tmps.size := by rw [← h.len]; exact hl
      rw [List.getD_eq_getElem?_getD, List.getElem?_eq_none (by simpa using hl)]
      exact aR.any
  · rw [List.getD_eq_getElem?_getD, List.getElem?_set_ne (fun e => ht e.symm), ← List.getD_eq_getElem?_getD]
    have : (tmps.setIfInBounds d u).getD t undef = tmps.getD t undef := by
      simp only [Array.getD_eq_getD_getElem?]
      rw [Array.getElem?_setIfInBounds_ne (fun e => ht e.symm)]
    rw [this]
    exact h.slot t
theorem Inv.forget (h : Inv P s tmps w F N Ow bm) {d : Nat} {v : (SV m)} (hv : aR P w F N Ow bm s.al (.tmp d) v (tmps.getD d undef)) :
    Inv P { s with tmps := s.tmps.set d v } tmps w F N Ow bm := by
  have := h.set (d := d) (v := v) (u := tmps.getD d undef) hv
  have e : tmps.setIfInBounds d (tmps.getD d undef) = tmps := by
    apply Array.ext_getElem?
    intro i
    by_cases hi : i = d
    · subst hi
      by_cases hl : i < tmps.size
      · simp [Array.getElem?_setIfInBounds, hl, Array.getD]
      · simp [Array.getElem?_setIfInBounds, hl]
    · rw [Array.getElem?_setIfInBounds_ne (fun e => hi e.symm)]
  rwa [e] at this
theorem Inv.to (h : Inv P s tmps w F N Ow bm) {w' : World} {F' : Fr} {Ow' : Own} {bm' : Nat → Nat} (k : eN N w F w' F') (hsz : w.heap.size ≤ w'.heap.size) (hb : ∀ b, (aW s.boxes b).isSome = true → bm' b = bm b)
    (ho : ∀ g loc, Ow g = some loc → s.holds loc → w'.heap[g]? = w.heap[g]? ∧ F' g = F g ∧ Ow' g = some loc) (hn : ∀ g, w'.heap.size ≤ g → F' g = 0 ∧ Ow' g = none) (hz : ∀ g, N.Z g = true → Ow' g = none ∧ ∃ cur e, w'.heap[g]? = some (.cells cur e (0, 0))) : Inv P s tmps w' F' N Ow' bm' := by
  have hp : ∀ b, s.al b = true → bm' b = bm b ∧ s.al b = true := fun b hb' => ⟨hb b hb', hb'⟩
  refine ⟨h.len, fun t => (h.slot t).to k hp fun hown g hg => ho g _ hg hown, fun b cs hbox => ?_, h.low.to k hsz, hn, fun b cs hb' => by rw [hb b (by rw [hb']; rfl)]; exact h.bmn b cs hb', hz⟩
  rcases h.box b cs hbox with h0 | ⟨cur, e, h1, h2, h3, h4, h5⟩
  · exact .inl h0
  have hs : (aW s.boxes b).isSome = true := by rw [hbox]; rfl
  obtain ⟨o1, o2, o3⟩ := ho (bm b) (.blk b) h4 hs
  refine .inr ⟨cur, e, by rw [hb b hs, o1]; exact h1, h2, by rw [hb b hs, o2]; exact h3, by rw [hb b hs]; exact o3, fun j c u hc hu => (h5 j c u hc hu).to k hp fun hown g hg => ho g _ hg ⟨cs, hbox, ?_⟩⟩
  rw [List.getD_eq_getElem?_getD, hc]
  exact hown
def aDv (x : Operand) (to : Loc) (Ow : Own) : Own := match x with
  | .tmp t => fun g => if Ow g = some (.tmp t) then some to else Ow g
  | _ => Ow
theorem aH2 {x : Operand} {to : Loc} {Ow : Own} {g : Nat} (h : Ow g = none) : aDv x to Ow g = none := by cases x <;> simp [aDv, h]
theorem aFR (s : (St m)) (x : Operand) : s.take x = match x with | .tmp t => { s with tmps := s.tmps.set t (s.tmps.getD t .any).drop } | _ => s := by
  cases x <;> simp [St.take, St.takes, kG, eO, St.eval]
theorem qP (v : (SV m)) : jK v.drop = false := by cases v <;> rfl
theorem Inv.take (h : Inv P s tmps w F N Ow bm) {a : Act} (ha : a.tmps = tmps) (x : Operand) (to : Loc) :
    Inv P (s.take x) tmps w F N (aDv x to Ow) bm ∧ aR P w F N (aDv x to Ow) bm s.al to (s.eval x) (a.eval x) := by
  have hv := h.eval ha x
  cases x with
  | tmp t =>
    have h1 : Inv P (s.take (.tmp t)) tmps w F N Ow bm := by
      rw [aFR]
      exact h.forget (aR.drop (h.slot t))
    have hd : jK ((s.take (.tmp t)).tmps.getD t .any) = false := by
      rw [aFR]
      show jK ((s.tmps.set t (s.tmps.getD t .any).drop).getD t .any) = false
      by_cases hl : t < s.tmps.length
      · rw [List.getD_eq_getElem?_getD, List.getElem?_set_self hl]; exact qP _
      · rw [List.getD_eq_getElem?_getD, List.getElem?_eq_none (by simpa using hl)]; rfl
    refine ⟨h1.to (eN.refl _ _) (Nat.le_refl _) (fun _ _ => rfl) (fun g loc hg hl => ⟨rfl, rfl, ?_⟩) (fun g hg => ⟨(h.new g hg).1, aH2 (h.new g hg).2⟩) (fun g hg => ⟨aH2 (h.zow g hg).1, (h.zow g hg).2⟩), ?_⟩
    · simp only [aDv]
      rw [if_neg]
      · exact hg
      · rintro he
        rw [he] at hg
        cases hg
        rw [St.holds] at hl
        rw [hd] at hl
        exact Bool.false_ne_true hl
    · refine hv.to (eN.refl _ _) (fun b hb => ⟨rfl, hb⟩) fun _ g hg => ⟨rfl, rfl, ?_⟩
      simp only [aEQ] at hg
      simp [aDv, hg]
  | const c =>
    refine ⟨by rw [aFR]; exact h, ?_⟩
    simp only [St.eval, Act.eval] at hv ⊢
    unfold aFN at hv ⊢
    split <;> simp_all [aR, lO, aDv]
  | global g => exact ⟨by rw [aFR]; exact h, aR.any⟩
  | func f => exact ⟨by rw [aFR]; exact h, ⟨#[], rfl, rfl, fun j c u h => by simp at h⟩⟩
theorem Inv.addBox (h : Inv P s tmps w F N Ow bm) {d : Nat} {cs : List (SV m)} {cur : Array Value} {e : TypeId} (hd : aW s.boxes d = none) (h1 : w.heap[bm d]? = some (.cells cur e (0, 0))) (h2 : cs.length ≤ cur.size)
    (h3 : F (bm d) = 0) (h4 : Ow (bm d) = some (.blk d)) (h6 : N.n ≤ bm d) (h5 : ∀ (j : Nat) (c : (SV m)) (u : Value), cs[j]? = some c → cur[j]? = some u → aR P w F N Ow bm s.al (.box d j) c u) :
    Inv P { s with boxes := s.boxes.set d (some cs) } tmps w F N Ow bm := by
  have hal : ∀ b, s.al b = true → aW (s.boxes.set d (some cs)) b = aW s.boxes b := by
    intro b hb
    have hne : b ≠ d := by rintro rfl; simp [St.al, hd] at hb
    unfold aW
    rw [List.getD_eq_getElem?_getD, List.getElem?_set_ne (fun e => hne e.symm), ← List.getD_eq_getElem?_getD]
  have hp : ∀ b, s.al b = true → bm b = bm b ∧ (aW (s.boxes.set d (some cs)) b).isSome = true := fun b hb => ⟨rfl, by rw [hal b hb]; exact hb⟩
  refine ⟨h.len, fun t => (h.slot t).to (eN.refl _ _) hp fun _ g hg => ⟨rfl, rfl, hg⟩, fun b cs' hb => ?_, h.low, h.new, fun b cs' hb => ?_, h.zow⟩
  rotate_left
  · by_cases hbd : b = d
    · subst hbd; exact h6
    · refine h.bmn b cs' ?_
      unfold aW at hb ⊢
      rw [List.getD_eq_getElem?_getD, List.getElem?_set_ne (fun e => hbd e.symm), ← List.getD_eq_getElem?_getD] at hb
      exact hb
  by_cases hbd : b = d
  · subst hbd
    have : cs' = cs := by
      unfold aW at hb
      by_cases hl : b < s.boxes.length
      · rw [List.getD_eq_getElem?_getD, List.getElem?_set_self hl] at hb
        simpa using hb.symm
      · rw [List.getD_eq_getElem?_getD, List.getElem?_eq_none (by simpa using hl)] at hb
        simp at hb
    subst this
    exact .inr ⟨cur, e, h1, h2, h3, h4, fun j c u hc hu => (h5 j c u hc hu).to (eN.refl _ _) hp fun _ g hg => ⟨rfl, rfl, hg⟩⟩
  · have hb' : aW s.boxes b = some cs' := by
      unfold aW at hb ⊢
      rw [List.getD_eq_getElem?_getD, List.getElem?_set_ne (fun e => hbd e.symm), ← List.getD_eq_getElem?_getD] at hb
      exact hb
    rcases h.box b cs' hb' with g0 | ⟨cur, e, g1, g2, g3, g4, g5⟩
    · exact .inl g0
    exact .inr ⟨cur, e, g1, g2, g3, g4, fun j c u hc hu => (g5 j c u hc hu).to (eN.refl _ _) hp fun _ g hg => ⟨rfl, rfl, hg⟩⟩
end
end Go.Vs
end
section
set_option linter.unusedVariables false
set_option linter.unusedSimpArgs false
namespace Go.Vs
variable {m : Bool}
variable {P : Program} {N : Env}
structure aTZ (w w' : World) (F : Fr) (g : Nat) : Prop where
  os : w'.os = w.os
  tape : w'.tape = w.tape
  output : w'.output = w.output
  size : w.heap.size ≤ w'.heap.size
  top : w'.heap.size ≤ max w.heap.size (g + 1)
  block : ∀ k, k < w.heap.size → k ≠ g → w'.heap[k]? = w.heap[k]?
  cell : ∀ j, j < F g → w'.cell? ⟨g, j, none⟩ = w.cell? ⟨g, j, none⟩
structure aOP (P : Program) (w w' : World) (F : Fr) (N : Env) (e : TypeId) (i : TypeInfo) (es : List (List (aC m))) (v : Value) (g : Nat) : Prop where
  row : ∃ cap cur vals, v = .slice (some ⟨g, 0, none⟩) es.length cap ∧ w'.heap[g]? = some (.cells cur e (0, 0)) ∧ es.length ≤ cap ∧ cap ≤ maxLen ∧ cur.size = cap * i.size ∧ cur.toList.take (es.length * i.size) = vals ∧ cU w F N es.flatten vals
  sized : ∀ x ∈ es, x.length = i.size
  wrote : aTZ w w' F g
  le : F g ≤ es.length * i.size
theorem sO {w : World} {g : Nat} {cur : Array Value} {e : TypeId} {z : Nat × Nat} (h : w.heap[g]? = some (.cells cur e z)) (j : Nat) : w.cell? ⟨g, j, none⟩ = cur[j]? := by
  simp [World.cell?, h]
theorem Inv.grown {s : (St m)} {tmps : Array Value} {w w' : World} {F : Fr} {Ow : Own} {bm : Nat → Nat} {loc to : Loc} {e : TypeId} {i : TypeInfo} {es : List (List (aC m))} {v : Value} {g : Nat} (h : Inv P s tmps w F N Ow bm)
    (hi : P.info? e = some i) (h0 : 0 < i.size) (G : aOP P w w' F N e i es v g) (hg : (Ow g = some loc ∧ ¬ s.holds loc) ∨ g = w.heap.size) (hN : N.n ≤ g) (q : Bool) (hq : q = true → F g = 0) (hbs : ∀ n, BSz w g n → BSz w' g n) :
    ∃ F' Ow', Inv P s tmps w' F' N Ow' bm ∧ Far N w F Ow w' F' Ow' ∧ lO P w' F' N Ow' to q (some e) es v := by
  let F' : Fr := fun k => if k = g then (if q = true then 0 else es.length * i.size) else F k
  let Ow' : Own := fun k => if k = g then some to else Ow k
  have W := G.wrote
  have hk : eN N w F w' F' := by
    refine .mk' (fun k j hj => ?_) (fun k => ?_) (nG.but g W.block fun _ => by obtain ⟨cap, cur, vals, _, hb, _⟩ := G.row; exact ⟨cur, e, hb⟩) (BSz.but g W.block hbs)
    · by_cases hkg : k = g
      · subst hkg; exact W.cell j hj
      · by_cases hks : k < w.heap.size
        · simp only [World.cell?, W.block k hks hkg]
        · rw [(h.new k (by omega)).1] at hj; omega
    · show F k ≤ if k = g then (if q = true then 0 else es.length * i.size) else F k
      split
      · rename_i hkg; subst hkg
        split
        · rename_i h1; rw [hq h1]; exact Nat.le_refl _
        · exact G.le
      · exact Nat.le_refl _
  obtain ⟨cap, cur, vals, hv, hb, hc, hm, hs, ht, hr⟩ := G.row
  have hlt : g < w'.heap.size := by
    rcases Nat.lt_or_ge g w'.heap.size with h | h
    · exact h
    · rw [Array.getElem?_eq_none h] at hb; simp at hb
  refine ⟨F', Ow', h.to hk W.size (fun _ _ => rfl) (fun k l hkl hl => ?_) (fun k hk' => ?_) (fun k hz => ?_), ⟨W.os, W.tape, W.output, W.size, hk, fun k hks hko => ?_⟩, ?_⟩
  · have hne : k ≠ g := by
      rintro rfl
      rcases hg with ⟨h1, h2⟩ | h1
      · rw [h1] at hkl; cases hkl; exact h2 hl
      · rw [(h.new k (by omega)).2] at hkl; simp at hkl
    have hks : k < w.heap.size := by
      rcases Nat.lt_or_ge k w.heap.size with h' | h'
      · exact h'
      · rw [(h.new k h').2] at hkl; simp at hkl
    exact ⟨W.block k hks hne, by simp [F', hne], by simp [Ow', hne, hkl]⟩
  · have hne : k ≠ g := by omega
    have := h.new k (Nat.le_trans W.size hk')
    exact ⟨by simp [F', hne, this.1], by simp [Ow', hne, this.2]⟩
  · have hne : k ≠ g := by have := N.lt k hz; omega
    obtain ⟨z1, z2⟩ := h.zow k hz
    have hks : k < w.heap.size := Nat.lt_of_lt_of_le (N.lt k hz) h.low.le
    exact ⟨by simp [Ow', hne, z1], by rw [W.block k hks hne]; exact z2⟩
  · have hne : k ≠ g := by
      rintro rfl
      rcases hg with ⟨h1, _⟩ | h1
      · rw [h1] at hko; simp at hko
      · omega
    exact ⟨fun _ => W.block k hks hne, by simp [F', hne], by simp [Ow', hne, hko]⟩
  · exact .inr ⟨g, cap, cur, e, i, vals, hN, rfl, hi, h0, hv, hb, hc, hm, hs, G.sized, by simp [Ow'], by simp [F'], ht, hr.keeps hk⟩
theorem aOl (g j : Nat) : (⟨g, 0, none⟩ : Addr).add j = ⟨g, j, none⟩ := by rw [qF]; simp
theorem aCM {w : World} {F : Fr} {e : TypeId} {i : TypeInfo} {es fs : List (List (aC m))} {vals news : List Value} {g cap : Nat} {cur : Array Value}
    (hb : w.heap[g]? = some (.cells cur e (0, 0))) (hm : cap ≤ maxLen) (hs : cur.size = cap * i.size) (hes : ∀ x ∈ es, x.length = i.size) (hfs : ∀ x ∈ fs, x.length = i.size)
    (hF : F g ≤ es.length * i.size) (ht : cur.toList.take (es.length * i.size) = vals) (hr : cU w F N es.flatten vals) (hn : cU w F N fs.flatten news) (hroom : es.length + fs.length ≤ cap) :
    aOP P w (w.setRow g (cur.toList.take (es.length * i.size) ++ news ++ cur.toList.drop (es.length * i.size + news.length)).toArray) F N e i (es ++ fs) (.slice (some ⟨g, 0, none⟩) (es.length + fs.length) cap) g := by
  have hnl : news.length = fs.length * i.size := by rw [hn.1, eI hfs]
  have hvl : vals.length = es.length * i.size := by rw [hr.1, eI hes]
  have hfit : es.length * i.size + news.length ≤ cur.size := by rw [hnl, hs, ← Nat.add_mul]; exact Nat.mul_le_mul_right _ hroom
  have hset := setRow_heap w g cur (cur.toList.take (es.length * i.size) ++ news ++ cur.toList.drop (es.length * i.size + news.length)).toArray e (0, 0) hb
  refine ⟨⟨cap, _, vals ++ news, by rw [List.length_append], hset, by rw [List.length_append]; exact hroom, hm, ?_, ?_, ?_⟩, ?_, ?_, ?_⟩
  · simp only [List.size_toArray, List.length_append, List.length_take, List.length_drop, Array.length_toList]
    omega
  · rw [ht, List.length_append, Nat.add_mul, ← hnl, ← hvl, ← List.length_append]
    exact List.take_left
  · rw [List.flatten_append]
    exact hr.append hn
  · intro x hx
    rcases List.mem_append.1 hx with h | h
    · exact hes x h
    · exact hfs x h
  · refine ⟨rfl, rfl, rfl, by simp, Nat.le_trans (Nat.le_of_eq (by simp)) (Nat.le_max_left _ _), fun k _ hk => setRow_other w g k _ hk, fun j hj => ?_⟩
    rw [sO hset, sO hb]
    have hj := Nat.lt_of_lt_of_le hj hF
    have : (cur.toList.take (es.length * i.size) ++ news ++ cur.toList.drop (es.length * i.size + news.length))[j]? = cur.toList[j]? := by
      have hlt : j < (cur.toList.take (es.length * i.size)).length := by
        have hsz' : es.length * i.size ≤ cur.toList.length := by
          have := Array.length_toList (xs := cur)
          omega
        rw [List.length_take]
        exact Nat.lt_min.2 ⟨hj, Nat.lt_of_lt_of_le hj hsz'⟩
      rw [List.append_assoc, List.getElem?_append_left hlt, List.getElem?_take, if_pos hj]
    simpa using this
  · rw [List.length_append, Nat.add_mul]; omega
theorem xQ {w w' : World} {F : Fr} {e : TypeId} {i : TypeInfo} {es : List (List (aC m))} {vals rest : List Value} {cap : Nat} {cur : Array Value} (hw : w' = w.alloc (.cells cur e) ∨ w' = w.drew.alloc (.cells cur e)) (hcur : cur.toList = vals ++ rest)
    (hF : F w.heap.size = 0) (hm : cap ≤ maxLen) (hs : cur.size = cap * i.size) (hes : ∀ x ∈ es, x.length = i.size) (hr : cU w F N es.flatten vals) (hc : es.length ≤ cap) :
    aOP P w w' F N e i es (.slice (some ⟨w.heap.size, 0, none⟩) es.length cap) w.heap.size := by
  have hvl : vals.length = es.length * i.size := by rw [hr.1, eI hes]
  have hnew : w'.heap[w.heap.size]? = some (.cells cur e (0, 0)) := by
    rcases hw with rfl | rfl
    · exact heap_alloc_new w _
    · exact heap_alloc_new w.drew _
  have hsz : w'.heap.size = w.heap.size + 1 := by rcases hw with rfl | rfl <;> exact Array.size_push _
  refine ⟨⟨cap, cur, vals, rfl, hnew, hc, hm, hs, ?_, hr⟩, hes, ⟨?_, ?_, ?_, by omega, by omega, fun k hk _ => ?_, fun j hj => by omega⟩, by omega⟩
  · rw [hcur, ← hvl]; exact List.take_left
  · rcases hw with rfl | rfl <;> rfl
  · rcases hw with rfl | rfl <;> rfl
  · rcases hw with rfl | rfl <;> rfl
  · rcases hw with rfl | rfl
    · exact heap_alloc_old w _ k hk
    · exact heap_alloc_old w.drew _ k hk
theorem aJf {e : TypeId} {i : TypeInfo} (hi : P.info? e = some i) (h : pK P e = true) : ∃ z, i.zero = some z ∧ z.cells.size = i.size := by
  unfold pK at h
  rw [hi] at h
  simp only at h
  split at h
  · rename_i z hz; exact ⟨z, hz, by simpa using h⟩
  · simp at h
theorem aQw {e : TypeId} {i : TypeInfo} (hi : P.info? e = some i) (h : xW P e = true) : i.zero = some (.int .u8 0) ∧ i.size = 1 ∧ i.bytes = 1 := by
  unfold xW at h
  rw [hi] at h
  simp only at h
  split at h
  · rename_i n hz
    simp only [Bool.and_eq_true, beq_iff_eq] at h
    obtain ⟨⟨rfl, h2⟩, h3⟩ := h
    exact ⟨hz, h2, h3⟩
  · simp at h
theorem aM2 {w w' : World} {g : Nat} {cur cur' : Array Value} {e e' : TypeId} {z z' : Nat × Nat} (h : w.heap[g]? = some (.cells cur e z)) (h' : w'.heap[g]? = some (.cells cur' e' z')) (hs : cur'.size = cur.size) : ∀ n, BSz w g n → BSz w' g n := by
  rintro n ⟨c, e0, z0, hc, rfl⟩
  rw [h] at hc
  cases hc
  exact ⟨_, _, _, h', hs⟩
theorem aFP {w w' : World} {g : Nat} (h : w.heap.size ≤ g) : ∀ n, BSz w g n → BSz w' g n := by
  rintro n ⟨c, e0, z0, hc, rfl⟩
  rw [Array.getElem?_eq_none h] at hc
  simp at hc
theorem aL8 {w w' : World} {F : Fr} {e e0 : TypeId} {z0 : Nat × Nat} {i : TypeInfo} {es : List (List (aC m))} {A : Option Addr} {g n cap : Nat} {cur : Array Value} (hg : w.heap[g]? = some (.cells cur e0 z0)) (hs : cur.size = cap * i.size) (G : aOP P w w' F N e i es (.slice A n cap) g) : ∀ n, BSz w g n → BSz w' g n := by
  obtain ⟨cap', cur', vals, hv, hb, _, _, hs', _⟩ := G.row
  obtain ⟨_, _, rfl⟩ := Value.slice.inj hv
  exact aM2 hg hb (hs'.trans hs.symm)
theorem aBH {w : World} {F : Fr} {Ow : Own} {loc : Loc} {t ty e : TypeId} {i : TypeInfo} {eo : Option TypeId} {es fs : List (List (aC m))} {q : Bool} {v u : Value} (hnew : ∀ g, w.heap.size ≤ g → F g = 0) (hlow : N.n ≤ w.heap.size)
    (hO : lO P w F N Ow loc q eo es v) (heo : eo.getD e = e) (hy : aR2 w F N fs u) (ht : P.underlying t = some (.slice e)) (hi : P.info? e = some i) (hzs : pK P e = true) (h0 : 0 < i.size) (hby : 0 < i.bytes) (hsz : ∀ x ∈ fs, x.length = i.size)
    (hb : (es.length + fs.length) * i.bytes ≤ aK) :
    ∃ v' w', (Builtin.append_ #[t, t] ty #[v, u]).run P w = .ok v' w' ∧ ((v' = .slice none 0 0 ∧ es ++ fs = [] ∧ w' = w) ∨ ∃ g, aOP P w w' F N e i (es ++ fs) v' g ∧ N.n ≤ g ∧ ((Ow g = some loc ∧ v.ownBlock = some g) ∨ g = w.heap.size) ∧ (q = true → F g = 0) ∧ ∀ n, BSz w g n → BSz w' g n) := by
  obtain ⟨z, hz, hzl⟩ := aJf hi hzs
  obtain ⟨A, m, z', news, rfl, hcm, _, _, hcell, hn⟩ := hy
  have hnl : news.length = fs.length * i.size := by rw [hn.1, eI hsz]
  have hle : es.length + fs.length ≤ aK := Nat.le_trans (Nat.le_mul_of_pos_right _ hby) hb
  have hmb : aK = 140737488355328 := rfl
  have one : ∀ x ∈ news, x.oneCell' = true := hn.one
  have holdes : ∀ x ∈ es ++ fs, x.length = i.size → True := fun _ _ _ => trivial
  rcases hO with ⟨rfl, rfl⟩ | ⟨g, cap, cur, e', i', vals, hNg, he', hi', hz0, rfl, hg, hc, hm, hs, hx, ho, hf, htk, hr⟩
  · by_cases hfe : fs = []
    · subst hfe
      refine ⟨.slice none 0 0, w, ?_, .inl ⟨rfl, rfl, rfl⟩⟩
      cases A with
      | none => simp [Builtin.append_, run_underlying ht, sizeOf, typeInfo, hi, Builtin.lenOf, Builtin.firstCells]
      | some a => simp [Builtin.append_, run_underlying ht, sizeOf, typeInfo, hi, Builtin.lenOf, Builtin.firstCells, loadCells, loadCellsFrom]
    · have hpos : 0 < fs.length := List.length_pos_iff.2 hfe
      obtain ⟨ga, o, rfl, hcl⟩ := hcell hpos
      have hrun := run_append_nil (P := P) w t ty e i z ht hi hz ⟨ga, o, none⟩ fs.length m news hnl (fun j x hj => by rw [qF]; exact hcl j x hj) hpos (by simp at hle; omega) (by simp at hb; omega)
      refine ⟨_, _, hrun, .inr ⟨w.heap.size, ?_, hlow, .inr rfl, fun _ => hnew _ (Nat.le_refl _), fun n ⟨cur, e, z, hc, _⟩ => by rw [Array.getElem?_eq_none (Nat.le_refl _)] at hc; simp at hc⟩⟩
      have hge := grownCap_ge w fs.length 0 e
      exact xQ (es := [] ++ fs) (vals := news) (rest := (Builtin.zeroCells z.cells (grownCap w fs.length 0 e - fs.length)).toList) (.inr rfl) (by simp) (hnew _ (Nat.le_refl _)) (grownCap_le_maxLen w fs.length 0 e (by unfold maxLen; simp at hle; omega))
        (by rw [Array.size_append, List.size_toArray, size_zeroCells, hzl, hnl, ← Nat.add_mul]; congr 1; omega) (by simpa using hsz) (by simpa using hn) (by simpa using hge)
  · subst he'
    simp only [Option.getD_some] at heo
    subst heo
    rw [hi] at hi'
    cases hi'
    have hf' : F g ≤ es.length * i.size := by rw [hf]; split <;> omega
    have hq : q = true → F g = 0 := fun h => by rw [hf, if_pos h]
    by_cases hroom : es.length + fs.length ≤ cap
    · have hgrew := aCM (P := P) (N := N) (F := F) (es := es) (fs := fs) (vals := vals) (news := news) hg hm hs hx hsz hf' htk hr hn hroom
      have hfit : es.length * i.size + news.length ≤ cur.size := by rw [hnl, hs, ← Nat.add_mul]; exact Nat.mul_le_mul_right _ hroom
      cases A with
      | none =>
        have hfe : fs = [] := by
          rcases Nat.eq_zero_or_pos fs.length with h | h
          · exact List.eq_nil_of_length_eq_zero h
          · obtain ⟨_, _, h', _⟩ := hcell h; simp at h'
        subst hfe
        have hne : news = [] := List.eq_nil_of_length_eq_zero (by simpa using hnl)
        subst hne
        refine ⟨.slice (some ⟨g, 0, none⟩) es.length cap, w, ?_, .inr ⟨g, ?_, hNg, .inl ⟨ho, rfl⟩, hq, fun _ h => h⟩⟩
        · simp at hroom
          simp [Builtin.append_, run_underlying ht, sizeOf, typeInfo, hi, Builtin.lenOf, Builtin.firstCells, hroom, storeCells]
        · have hself : w.setRow g (cur.toList.take (es.length * i.size) ++ [] ++ cur.toList.drop (es.length * i.size + ([] : List Value).length)).toArray = w := by
            simp only [List.append_nil, List.length_nil, Nat.add_zero, List.take_append_drop]
            exact setRow_self w g cur _ (0, 0) hg
          rw [hself] at hgrew
          simpa using hgrew
      | some a =>
        by_cases hfe : fs = []
        · subst hfe
          have hne : news = [] := List.eq_nil_of_length_eq_zero (by simpa using hnl)
          subst hne
          have hrun := run_append_room (P := P) w t ty _ i ht hi g es.length cap cur hg a 0 m [] (by simp) (by simp) (by simp) (by simpa using hroom) (by simpa using hfit)
          exact ⟨_, _, hrun, .inr ⟨g, by simpa using hgrew, hNg, .inl ⟨ho, rfl⟩, hq, by simpa using aL8 hg hs hgrew⟩⟩
        · obtain ⟨ga, o, h', hcl⟩ := hcell (List.length_pos_iff.2 hfe)
          cases h'
          have hrun := run_append_room (P := P) w t ty _ i ht hi g es.length cap cur hg ⟨ga, o, none⟩ fs.length m news hnl (fun j x hj => by rw [qF]; exact hcl j x hj) one hroom hfit
          exact ⟨_, _, hrun, .inr ⟨g, hgrew, hNg, .inl ⟨ho, rfl⟩, hq, aL8 hg hs hgrew⟩⟩
    · have hpos : 0 < fs.length := by omega
      obtain ⟨ga, o, rfl, hcl⟩ := hcell hpos
      have hvl : vals.length = es.length * i.size := by rw [hr.1, eI hx]
      have holds : ∀ j u, vals[j]? = some u → w.cell? ((⟨g, 0, none⟩ : Addr).add j) = some u := by
        intro j x hj
        rw [aOl, sO hg]
        subst htk
        rw [List.getElem?_take] at hj
        split at hj
        · simpa using hj
        · simp at hj
      have hrun := run_append_grow (P := P) w t ty _ i z ht hi hz ⟨g, 0, none⟩ es.length cap vals hvl holds ⟨ga, o, none⟩ fs.length m news hnl (fun j x hj => by rw [qF]; exact hcl j x hj) (by omega) (by omega) (growslice_fits (by omega) (by omega))
      have hge := grownCap_ge w (es.length + fs.length) cap e'
      refine ⟨_, _, hrun, .inr ⟨w.heap.size, ?_, hlow, .inr rfl, fun _ => hnew _ (Nat.le_refl _), fun n ⟨cur, e, z, hc, _⟩ => by rw [Array.getElem?_eq_none (Nat.le_refl _)] at hc; simp at hc⟩⟩
      have := xQ (P := P) (N := N) (F := F) (e := e') (i := i) (es := es ++ fs) (vals := vals ++ news) (rest := (Builtin.zeroCells z.cells (grownCap w (es.length + fs.length) cap e' - (es.length + fs.length))).toList)
        (cap := grownCap w (es.length + fs.length) cap e') (.inr rfl) (by simp) (hnew _ (Nat.le_refl _)) (grownCap_le_maxLen w (es.length + fs.length) cap e' (by unfold maxLen; omega))
        (cur := vals.toArray ++ news.toArray ++ Builtin.zeroCells z.cells (grownCap w (es.length + fs.length) cap e' - (es.length + fs.length)))
        (by rw [Array.size_append, Array.size_append, List.size_toArray, List.size_toArray, size_zeroCells, hzl, hnl, hvl, ← Nat.add_mul, ← Nat.add_mul]; congr 1; omega)
        (by intro x hx'; rcases List.mem_append.1 hx' with h | h; exact hx x h; exact hsz x h) (by rw [List.flatten_append]; exact hr.append hn) (by rw [List.length_append]; exact hge)
      rw [List.length_append] at this
      exact this
end Go.Vs
end
section
namespace Go.Vs
variable {m : Bool}
variable {P : Program} {N : Env}
theorem aHK (w : World) (F : Fr) : ∀ (l : List UInt8), cU w F N (l.map fun b => [(aC.int .u8 b.toNat : aC m)]).flatten (l.map fun b => Value.int .u8 b.toNat)
  | [] => cU.nil _ _ _
  | b :: l => by simpa using cU.cons (.int _ _) (aHK w F l)
theorem aIZ {w : World} {F : Fr} {Ow : Own} {loc : Loc} {q : Bool} {t u ty e : TypeId} {i : TypeInfo} {eo : Option TypeId} {es : List (List (aC m))} {v : Value} {s : ByteArray} (hnew : ∀ g, w.heap.size ≤ g → F g = 0) (hlow : N.n ≤ w.heap.size)
    (hO : lO P w F N Ow loc q eo es v) (heo : eo.getD e = e) (ht : P.underlying t = some (.slice e)) (hu : P.underlying u = some .string) (hi : P.info? e = some i) (hzb : xW P e = true) (hb : es.length + s.size ≤ aK) :
    ∃ v' w', (Builtin.append_ #[t, u] ty #[v, .string s]).run P w = .ok v' w' ∧ ((v' = .slice none 0 0 ∧ es ++ (s.data.toList.map fun b => [(aC.int .u8 b.toNat : aC m)]) = [] ∧ w' = w) ∨
      ∃ g, aOP P w w' F N e i (es ++ s.data.toList.map fun b => [(aC.int .u8 b.toNat : aC m)]) v' g ∧ N.n ≤ g ∧ ((Ow g = some loc ∧ v.ownBlock = some g) ∨ g = w.heap.size) ∧ (q = true → F g = 0) ∧ ∀ n, BSz w g n → BSz w' g n) := by
  obtain ⟨hz, h1, hby⟩ := aQw hi hzb
  have hmb : aK = 140737488355328 := rfl
  have hn : cU w F N (s.data.toList.map fun b => [(aC.int .u8 b.toNat : aC m)]).flatten (Lib.strCells s) := aHK w F _
  have hfl : (s.data.toList.map fun b => [(aC.int .u8 b.toNat : aC m)]).length = s.size := by rw [List.length_map, Array.length_toList]; rfl
  have hsz : ∀ x ∈ (s.data.toList.map fun b => [(aC.int .u8 b.toNat : aC m)]), x.length = i.size := by
    intro x hx
    obtain ⟨b, _, rfl⟩ := List.mem_map.1 hx
    simp [h1]
  have hnl : (Lib.strCells s).length = s.size := Lib.strCells_length s
  have hzl : (Value.int .u8 0).cells.size = 1 := rfl
  generalize hfs : (s.data.toList.map fun b => [(aC.int .u8 b.toNat : aC m)]) = fs at *
  rcases hO with ⟨rfl, rfl⟩ | ⟨g, cap, cur, e', i', vals, hNg, he', hi', hz0, rfl, hg, hc, hm, hs, hx, ho, hf, htk, hr⟩
  · by_cases hfe : s.size = 0
    · have : fs = [] := List.eq_nil_of_length_eq_zero (by omega)
      subst this
      refine ⟨.slice none 0 0, w, ?_, .inl ⟨rfl, rfl, rfl⟩⟩
      have hrf := Lib.run_firstCells_string (P := P) w 1 s
      rw [hfe] at hrf
      simp [Builtin.append_, run_underlying ht, run_underlying hu, sizeOf, typeInfo, hi, h1, Builtin.lenOf, hfe, hrf]
    · have hrun := run_append_nil_string (P := P) w t u ty e i (.int .u8 0) ht hu hi hz s (by omega) (by simp at hb; omega) (by rw [hby]; simp at hb; omega)
      have e1 : (s.data.map fun b => Value.int .u8 b.toNat) = (Lib.strCells s).toArray := by
        apply Array.ext'
        simp [Lib.strCells]
      rw [e1] at hrun
      refine ⟨_, _, hrun, .inr ⟨w.heap.size, ?_, hlow, .inr rfl, fun _ => hnew _ (Nat.le_refl _), aFP (Nat.le_refl _)⟩⟩
      have hge := grownCap_ge w s.size 0 e
      have := xQ (P := P) (N := N) (F := F) (e := e) (i := i) (es := [] ++ fs) (vals := Lib.strCells s) (rest := (Builtin.zeroCells (Value.int .u8 0).cells (grownCap w s.size 0 e - s.size)).toList) (cap := grownCap w s.size 0 e)
        (cur := (Lib.strCells s).toArray ++ Builtin.zeroCells (Value.int .u8 0).cells (grownCap w s.size 0 e - s.size)) (.inr rfl) (by simp) (hnew _ (Nat.le_refl _)) (grownCap_le_maxLen w s.size 0 e (by unfold maxLen; simp at hb; omega))
        (by rw [Array.size_append, List.size_toArray, size_zeroCells, hzl, hnl, h1]; omega) (by simpa using hsz) (by simpa using hn) (by simpa [hfl] using hge)
      simpa [hfl] using this
  · subst he'
    simp only [Option.getD_some] at heo
    subst heo
    rw [hi] at hi'
    cases hi'
    have hvl : vals.length = es.length * i.size := by rw [hr.1, eI hx]
    have hf' : F g ≤ es.length * i.size := by rw [hf]; split <;> omega
    have hq : q = true → F g = 0 := fun h => by rw [hf, if_pos h]
    by_cases hroom : es.length + s.size ≤ cap
    · have hcs' : cur.size = cap := by rw [hs, h1, Nat.mul_one]
      have hrun := Lib.run_append_room_string (P := P) w t u ty e' i ht hu hi h1 g es.length cap cur hg s hroom (by omega)
      refine ⟨_, _, hrun, .inr ⟨g, ?_, hNg, .inl ⟨ho, rfl⟩, hq, ?_⟩⟩
      rotate_left
      · have := aCM (P := P) (N := N) (F := F) (es := es) (fs := fs) (vals := vals) (news := Lib.strCells s) hg hm hs hx hsz hf' htk hr hn (by rw [hfl]; exact hroom)
        rw [hfl, h1, Nat.mul_one, hnl] at this
        exact aL8 hg hs this
      have := aCM (P := P) (N := N) (F := F) (es := es) (fs := fs) (vals := vals) (news := Lib.strCells s) hg hm hs hx hsz hf' htk hr hn (by rw [hfl]; exact hroom)
      rw [hfl, h1, Nat.mul_one, hnl] at this
      exact this
    · have holds : ∀ j u, vals[j]? = some u → w.cell? ((⟨g, 0, none⟩ : Addr).add j) = some u := by
        intro j x hj
        rw [aOl, sO hg]
        subst htk
        rw [List.getElem?_take] at hj
        split at hj
        · simpa using hj
        · simp at hj
      have hrun := Lib.run_append_grow_string (P := P) w t u ty e' i (.int .u8 0) ht hu hi hz ⟨g, 0, none⟩ es.length cap vals hvl holds s (by omega) (by omega) (by rw [hby]; exact growslice_fits (by omega) (by omega))
      have hge := grownCap_ge w (es.length + s.size) cap e'
      refine ⟨_, _, hrun, .inr ⟨w.heap.size, ?_, hlow, .inr rfl, fun _ => hnew _ (Nat.le_refl _), aFP (Nat.le_refl _)⟩⟩
      have := xQ (P := P) (N := N) (F := F) (e := e') (i := i) (es := es ++ fs) (vals := vals ++ Lib.strCells s) (rest := (Builtin.zeroCells (Value.int .u8 0).cells (grownCap w (es.length + s.size) cap e' - (es.length + s.size))).toList)
        (cap := grownCap w (es.length + s.size) cap e') (cur := vals.toArray ++ (Lib.strCells s).toArray ++ Builtin.zeroCells (Value.int .u8 0).cells (grownCap w (es.length + s.size) cap e' - (es.length + s.size)))
        (.inr rfl) (by simp) (hnew _ (Nat.le_refl _)) (grownCap_le_maxLen w (es.length + s.size) cap e' (by unfold maxLen; omega))
        (by rw [Array.size_append, Array.size_append, List.size_toArray, List.size_toArray, size_zeroCells, hzl, hnl, hvl, h1]; omega)
        (by intro x hx'; rcases List.mem_append.1 hx' with h | h; exact hx x h; exact hsz x h) (by rw [List.flatten_append]; exact hr.append hn) (by rw [List.length_append, hfl]; exact hge)
      rw [List.length_append, hfl] at this
      exact this
theorem Inv.more {s : (St m)} {tmps : Array Value} {w w' : World} {F : Fr} {Ow : Own} {bm : Nat → Nat} (h : Inv P s tmps w F N Ow bm) (W : aTZ w w' F w.heap.size) (hs : w.heap.size < w'.heap.size) (n : Nat) :
    ∃ F', Inv P s tmps w' F' N Ow bm ∧ Far N w F Ow w' F' Ow ∧ F' w.heap.size = n ∧ eN N w F w' F' := by
  let F' : Fr := fun k => if k = w.heap.size then n else F k
  have hk : eN N w F w' F' := by
    refine .mk' (fun k j hj => ?_) (fun k => ?_) (nG.but w.heap.size W.block fun hh => absurd hh (Nat.lt_irrefl _)) (BSz.but w.heap.size W.block (aFP (Nat.le_refl _)))
    · by_cases hkg : k = w.heap.size
      · subst hkg; exact W.cell j hj
      · by_cases hks : k < w.heap.size
        · simp only [World.cell?, W.block k hks hkg]
        · rw [(h.new k (by omega)).1] at hj; omega
    · show F k ≤ if k = w.heap.size then n else F k
      split
      · rename_i hkg; rw [(h.new k (by omega)).1]; omega
      · exact Nat.le_refl _
  refine ⟨F', h.to hk W.size (fun _ _ => rfl) (fun k l hkl _ => ?_) (fun k hk' => ?_) (fun k hz => ⟨(h.zow k hz).1, by rw [W.block k (Nat.lt_of_lt_of_le (N.lt k hz) h.low.le) (Nat.ne_of_lt (Nat.lt_of_lt_of_le (N.lt k hz) h.low.le))]; exact (h.zow k hz).2⟩), ⟨W.os, W.tape, W.output, W.size, hk, fun k hks hko => ?_⟩, by simp [F'], hk⟩
  · have hks : k < w.heap.size := by
      rcases Nat.lt_or_ge k w.heap.size with h' | h'
      · exact h'
      · rw [(h.new k h').2] at hkl; simp at hkl
    exact ⟨W.block k hks (by omega), by simp [F', show k ≠ w.heap.size by omega], hkl⟩
  · have := h.new k (by omega)
    exact ⟨by simp [F', show k ≠ w.heap.size by omega, this.1], this.2⟩
  · exact ⟨fun _ => W.block k hks (by omega), by simp [F', show k ≠ w.heap.size by omega], hko⟩
theorem aNH {w w' : World} {F : Fr} {o : Obj} (hF : F w.heap.size = 0) (hw : w' = w.alloc o ∨ w' = w.drew.alloc o) : aTZ w w' F w.heap.size ∧ w'.heap.size = w.heap.size + 1 ∧ w'.heap[w.heap.size]? = some o := by
  have hsz : w'.heap.size = w.heap.size + 1 := by rcases hw with rfl | rfl <;> exact Array.size_push _
  refine ⟨⟨?_, ?_, ?_, by omega, by omega, fun k hk _ => ?_, fun j hj => by omega⟩, hsz, ?_⟩
  · rcases hw with rfl | rfl <;> rfl
  · rcases hw with rfl | rfl <;> rfl
  · rcases hw with rfl | rfl <;> rfl
  · rcases hw with rfl | rfl
    · exact heap_alloc_old w _ k hk
    · exact heap_alloc_old w.drew _ k hk
  · rcases hw with rfl | rfl
    · exact heap_alloc_new w _
    · exact heap_alloc_new w.drew _
theorem aQJ : ∀ (es : List (List (aC m))) (l : List UInt8), nA es = some l → ∃ ns : List Int, es.flatten = ns.map (aC.int (m := m) .u8) ∧ es.length = ns.length ∧ l = ns.map (fun n => UInt8.ofNat n.toNat) ∧ ∀ e ∈ es, e.length = 1 := by
  intro es
  induction es with
  | nil => intro l h; simp [nA] at h; subst h; exact ⟨[], rfl, rfl, rfl, by simp⟩
  | cons e r ih =>
    intro l h
    unfold nA at h
    split at h
    · simp at *
    · rename_i n r' he
      cases he
      rw [Option.map_eq_some_iff] at h
      obtain ⟨l', hl', rfl⟩ := h
      obtain ⟨ns, h1, h2, h3, h4⟩ := ih l' hl'
      exact ⟨n :: ns, by simp [h1], by simp [h2], by simp [h3], by intro x hx; rcases List.mem_cons.1 hx with rfl | hx; rfl; exact h4 x hx⟩
    · simp at h
theorem aSE {w : World} {F : Fr} {src dst : TypeId} {x v : (SV m)} {u : Value} (h : aK5 P src dst x = some v) (hx : ∀ l, x.drop = .leaf l → eB w F N l u) :
    (∃ z l, (convert src dst u).run P w = .ok z w ∧ v = .leaf l ∧ eB w F N l z) ∨
    ∃ (s : ByteArray) (cap : Nat) (o : Obj) (w' : World), (convert src dst u).run P w = .ok (.slice (some ⟨w.heap.size, 0, none⟩) s.size cap) w' ∧ s.size ≤ cap ∧ v = .leaf (.sl (Fl.kept m) (s.data.toList.map fun b => [.int .u8 b.toNat])) ∧
      w' = w.drew.alloc o ∧ ∀ j (b : UInt8), s.data.toList[j]? = some b → w'.cell? ⟨w.heap.size, j, none⟩ = some (.int .u8 b.toNat) := by
  unfold aK5 at h
  split at h
  · rename_i k k' q n hs hd ex
    simp only [Option.some.injEq] at h; subst h
    cases lT (hx _ ex)
    exact .inl ⟨.int k' (k'.wrap n), _, by simp [convert, run_underlying hs, run_underlying hd, Conv.intToInt], rfl, .int _ _⟩
  · rename_i s hs hd ex
    simp only [Option.some.injEq] at h; subst h
    cases rT (hx _ ex)
    exact .inl ⟨.string s, _, by simp [convert, run_underlying hs, run_underlying hd], rfl, .str _⟩
  · rename_i e c es hs hd ex
    split at h
    · rename_i he
      rw [Option.map_eq_some_iff] at h
      obtain ⟨l, hl, rfl⟩ := h
      obtain ⟨A, cap, z, vals, rfl, hc, hz, hvl, hcell, hr⟩ := aFT (hx _ ex)
      obtain ⟨ns, h1, h2, rfl, h4⟩ := aQJ es l hl
      rcases Nat.eq_zero_or_pos es.length with h0 | h0
      · have : ns = [] := List.eq_nil_of_length_eq_zero (by omega)
        subst this
        have hes : es = [] := List.eq_nil_of_length_eq_zero h0
        subst hes
        cases A with
        | none => exact .inl ⟨.string ByteArray.empty, _, run_convert_bytes_nil w src e hs he _ _ dst hd, rfl, .str _⟩
        | some a =>
          have := run_convert_bytes_back (P := P) w src dst e a cap [] hs he hd (by simp)
          exact .inl ⟨_, _, by simpa using this, rfl, .str _⟩
      · obtain ⟨g, o, rfl, _, _, _, hcl⟩ := hcell h0
        refine .inl ⟨.string (strOfNums ns), _, run_convert_bytes_arg w src e hs he g o es.length cap ns h2.symm (fun i hi => ?_) dst hd, rfl, .str _⟩
        have hi' : i < ns.length := by omega
        have hfl : es.flatten[i]? = some (.int .u8 ns[i]) := by rw [h1]; simp [hi']
        obtain ⟨z, hz1, hz2⟩ := hr.get hfl
        rw [hcl _ _ hz1, lT hz2]
        simp [List.getD, hi']
    · simp at h
  · rename_i e s hs hd ex
    split at h
    · rename_i he
      simp only [Option.some.injEq] at h; subst h
      cases rT (hx _ ex)
      refine .inr ⟨s, _, _, _, run_bytes_of_string w src dst e s hs hd he, grownCap_ge w s.size 0 e, rfl, rfl, fun j b hb => ?_⟩
      rw [sO (g := w.heap.size) (heap_alloc_new w.drew _)]
      have hj : j < s.data.size := by have := (List.getElem?_eq_some_iff.1 hb).1; simpa using this
      simp only [bytesRow]
      rw [Array.getElem?_append_left (by simpa using hj)]
      simp at hb
      simp [hb]
    · simp at h
  · simp at h
end Go.Vs
end
section
namespace Go.Vs
variable {m : Bool}
variable {P : Program} {N : Env}
theorem aL7 : ∀ (l : List Value) (k off : Nat) (cells : Array Value), off + k + l.length ≤ cells.size →
    ((l.zipIdx k).foldl (fun (cs : Array Value) (p : Value × Nat) => cs.setIfInBounds (off + p.2) p.1) cells).toList = cells.toList.take (off + k) ++ l ++ cells.toList.drop (off + k + l.length)
  | [], k, off, cells, _ => by simp
  | v :: l, k, off, cells, h => by
    simp only [List.length_cons] at h
    rw [List.zipIdx_cons, List.foldl_cons, aL7 l (k + 1) off _ (by simp; omega)]
    simp only [Array.toList_setIfInBounds]
    have hlen : off + k < cells.toList.length := by have := Array.length_toList (xs := cells); omega
    have e1 : (cells.toList.set (off + k) v).take (off + (k + 1)) = cells.toList.take (off + k) ++ [v] := by
      rw [show off + (k + 1) = (off + k) + 1 by omega, List.take_add_one, List.take_set_of_le (Nat.le_refl _)]
      have hlen' : off + k < cells.size := by omega
      simp [hlen']
    have e2 : (cells.toList.set (off + k) v).drop (off + (k + 1) + l.length) = cells.toList.drop (off + k + (l.length + 1)) := by
      rw [List.drop_set_of_lt (by omega)]
      congr 1
      omega
    rw [e1, e2]
    simp
theorem aQi (off : Nat) (v : Array Value) (cells : Array Value) (h : off + v.size ≤ cells.size) :
    (v.zipIdx.foldl (fun cs (c, j) => cs.setIfInBounds (off + j) c) cells).toList = cells.toList.take off ++ v.toList ++ cells.toList.drop (off + v.size) := by
  rw [← Array.foldl_toList, Array.toList_zipIdx]
  have := aL7 v.toList 0 off cells (by simpa using h)
  simpa using this
inductive aFw (w : World) (F : Fr) (N : Env) : List (Nat × (SV m)) → List (Nat × Value) → Prop
  | nil : aFw w F N [] []
  | cons {i : Nat} {x : (SV m)} {v : Value} {ps : List (Nat × (SV m))} {qs : List (Nat × Value)} (h : ∀ l, x.leaves = some l → cU w F N l v.cells.toList) (t : aFw w F N ps qs) : aFw w F N ((i, x) :: ps) ((i, v) :: qs)
theorem cU.set {w : World} {F : Fr} {a l : List (aC m)} {x v : List Value} {o : Nat} (h : cU w F N a x) (hl : cU w F N l v) : cU w F N (a.take o ++ l ++ a.drop (o + l.length)) (x.take o ++ v ++ x.drop (o + v.length)) := by
  rw [hl.1]
  exact ((h.take o).append hl).append (h.drop _)
theorem aSZ {w : World} {F : Fr} {place : Nat → Option (Nat × TypeId)} {size : TypeId → Option Nat} {places : Nat → Option (Nat × Nat)} (hp : ∀ i p n, place i = some p → size p.2 = some n → places i = some (p.1, n)) :
    ∀ {ps : List (Nat × (SV m))} {qs : List (Nat × Value)}, aFw w F N ps qs → ∀ {cs cs' : List (aC m)} {vals : Array Value}, aQA place size cs ps = some cs' → cU w F N cs vals.toList →
      ∃ vals', Instr.fill places vals qs = some vals' ∧ cU w F N cs' vals'.toList := by
  intro ps qs h
  induction h with
  | nil => intro cs cs' vals hf hr; simp [aQA] at hf; subst hf; exact ⟨vals, rfl, hr⟩
  | @cons i x v ps qs hx _ ih =>
    intro cs cs' vals hf hr
    simp only [aQA] at hf
    rw [Option.bind_eq_some_iff] at hf
    obtain ⟨p, hp1, hf⟩ := hf
    rw [Option.bind_eq_some_iff] at hf
    obtain ⟨n, hn, hf⟩ := hf
    rw [Option.bind_eq_some_iff] at hf
    obtain ⟨l, hl, hf⟩ := hf
    split at hf
    · rename_i hc
      obtain ⟨hc1, hc2⟩ := hc
      have hv := hx l hl
      have hvs : v.cells.size = n := by have := hv.1; simp at this; omega
      have hcs : p.1 + v.cells.size ≤ vals.size := by have := hr.1; simp at this; omega
      have hone := aQi p.1 v.cells vals hcs
      have hset := cU.set (o := p.1) hr hv
      obtain ⟨vals', hv1, hv2⟩ := ih (vals := v.cells.zipIdx.foldl (fun cs (c, j) => cs.setIfInBounds (p.1 + j) c) vals) hf (by
        rw [hone]
        rw [hc1] at hset
        simpa using hset)
      refine ⟨vals', ?_, hv2⟩
      simp only [Instr.fill, hp i p n hp1 hn]
      rw [if_neg (by simp; omega)]
      exact hv1
    · simp at hf
theorem vK (w : World) (F : Fr) : ∀ (vs : List Value) (ls : List (aC m)), fY vs = some ls → cU w F N ls vs
  | [], ls, h => by simp [fY] at h; subst h; exact cU.nil _ _ _
  | v :: vs, ls, h => by
    simp only [fY] at h
    rw [Option.bind_eq_some_iff] at h
    obtain ⟨l, hl, h⟩ := h
    rw [Option.map_eq_some_iff] at h
    obtain ⟨ls', hls, rfl⟩ := h
    refine cU.cons ?_ (vK w F vs ls' hls)
    unfold aA5 at hl
    split at hl <;> simp at hl <;> subst hl
    · exact .bool _
    · exact .int _ _
    · exact .str _
    · exact nC (es := []) (z := 0) (vals := []) (Nat.le_refl _) (by simp) (fun h => by simp at h) (cU.nil _ _ _)
theorem xA {t : TypeId} {ls : List (aC m)} (h : qN P t = some ls) : ∃ i z, P.info? t = some i ∧ i.zero = some z ∧ fY z.cells.toList = some ls := by
  unfold qN at h
  rw [Option.bind_eq_some_iff] at h
  obtain ⟨i, hi, h⟩ := h
  rw [Option.bind_eq_some_iff] at h
  obtain ⟨z, hz, h⟩ := h
  exact ⟨i, z, hi, hz, h⟩
theorem aNl {t : TypeId} (h : aHa P t = true) : ∃ fs places, P.underlying t = some (.struct fs) ∧ fs.toList.mapM (fun f => (P.info? f.type).map fun i => (f.offset, i.size)) = some places ∧
    ∀ (i : Nat) (p : Nat × TypeId) (n : Nat), aCS P t i = some p → dS P p.2 = some n → places[i]? = some (p.1, n) := by
  unfold aHa at h
  split at h
  · rename_i fs hu
    have key : ∀ (l : List Field), (l.all fun f => (P.info? f.type).isSome) = true → ∃ places, l.mapM (fun f => (P.info? f.type).map fun i => (f.offset, i.size)) = some places ∧
        ∀ (i : Nat) (f : Field) (inf : TypeInfo), l[i]? = some f → P.info? f.type = some inf → places[i]? = some (f.offset, inf.size) := by
      intro l
      induction l with
      | nil => intro _; exact ⟨[], rfl, by simp⟩
      | cons f l ih =>
        intro hl
        simp only [List.all_cons, Bool.and_eq_true] at hl
        obtain ⟨inf, hinf⟩ := Option.isSome_iff_exists.1 hl.1
        obtain ⟨ps, h1, h2⟩ := ih hl.2
        refine ⟨(f.offset, inf.size) :: ps, by simp [List.mapM_cons, hinf, h1], fun i g q hg hq => ?_⟩
        cases i with
        | zero => simp at hg; subst hg; rw [hinf] at hq; cases hq; rfl
        | succ i => simpa using h2 i g q (by simpa using hg) hq
    obtain ⟨places, h1, h2⟩ := key fs.toList h
    refine ⟨fs, places, hu, h1, fun i p n hp hn => ?_⟩
    unfold aCS at hp
    rw [hu] at hp
    simp only [Option.map_eq_some_iff] at hp
    obtain ⟨f, hf, rfl⟩ := hp
    obtain ⟨d, inf, hd, hinf, rfl⟩ := nQ hn
    exact h2 i f inf (by simpa using hf) hinf
  · simp at h
theorem aPP {w : World} {F : Fr} {t : TypeId} : ∀ (vs : List Value) (i : Nat) (ls : List (aC m)), fY vs = some ls → cU w F N (aOu P t i ls) vs := by
  intro vs
  induction vs with
  | nil => intro i ls h; simp [fY] at h; subst h; exact cU.nil _ _ _
  | cons v vs ih =>
    intro i ls h
    simp only [fY] at h
    rw [Option.bind_eq_some_iff] at h
    obtain ⟨l, hl, h⟩ := h
    rw [Option.map_eq_some_iff] at h
    obtain ⟨ls', hls, rfl⟩ := h
    refine cU.cons ?_ (ih (i + 1) ls' hls)
    unfold aA5 at hl
    split at hl <;> simp at hl <;> subst hl
    · exact .bool _
    · exact .int _ _
    · exact .str _
    · exact .nl _
theorem aRx {w : World} {F : Fr} {t : TypeId} {ow : Bool} {ps : List (Nat × (SV m))} {qs : Array (Nat × Value)} {v : (SV m)} (h : aMa P t ow ps = some v) (hr : aFw w F N ps qs.toList) :
    ∃ us, (Instr.build t qs).run P w = .ok (.agg us) w ∧ ∃ ls, v = .agg ls ∧ cU w F N ls us.toList := by
  unfold aMa at h
  obtain ⟨hi, h⟩ := aU h
  rw [Option.bind_eq_some_iff] at h
  obtain ⟨z, hz, h⟩ := h
  rw [Option.map_eq_some_iff] at h
  obtain ⟨ls, hl, rfl⟩ := h
  obtain ⟨inf, zv, hinf, hzv, hzl⟩ := xA hz
  obtain ⟨fs, places, hu, hpl, hp⟩ := aNl hi
  obtain ⟨us, hf, hrr⟩ := aSZ (places := fun i => places.toArray[i]?) (fun i p n a b => by simpa using hp i p n a b) hr hl (by cases ow with | true => exact aPP _ _ _ hzl | false => exact vK w F _ _ hzl)
  exact ⟨us, run_build w t qs us (by simp only [Program.built, hinf, hu, hzv, hpl]; exact hf), ls, rfl, hrr⟩
theorem aPD {w : World} {F : Fr} {z : Nat} : ∀ {ps : List (Nat × (SV m))} {qs : List (Nat × Value)}, aFw w F N ps qs → ∀ (k : Nat) (es : List (List (aC m))) (vals : Array Value), aJn z k ps = some es → (k + ps.length) * z ≤ vals.size →
    ∃ vals', Instr.fill (fun i => some (i * z, z)) vals qs = some vals' ∧ vals'.size = vals.size ∧ vals'.toList.take (k * z) = vals.toList.take (k * z) ∧ cU w F N es.flatten ((vals'.toList.drop (k * z)).take (ps.length * z)) ∧ es.length = ps.length ∧ ∀ e ∈ es, e.length = z := by
  intro ps qs h
  induction h with
  | nil => intro k es vals he _; simp [aJn] at he; subst he; exact ⟨vals, rfl, rfl, rfl, by simpa using cU.nil _ _ _, rfl, by simp⟩
  | @cons i x v ps qs hx _ ih =>
    intro k es vals he hle
    simp only [aJn] at he
    split at he
    · rename_i hik; subst hik
      rw [Option.bind_eq_some_iff] at he
      obtain ⟨l, hl, he⟩ := he
      split at he
      · rename_i hlz
        rw [Option.map_eq_some_iff] at he
        obtain ⟨es', hes, rfl⟩ := he
        have hv := hx l hl
        have hvs : v.cells.size = z := by have := hv.1; simp at this; omega
        simp only [List.length_cons] at hle
        have hmul : (i + (ps.length + 1)) * z = i * z + z + ps.length * z := by rw [Nat.add_mul, Nat.add_mul]; omega
        have hcs : i * z + v.cells.size ≤ vals.size := by omega
        have hone := aQi (i * z) v.cells vals hcs
        have hsz1 : (v.cells.zipIdx.foldl (fun cs (c, j) => cs.setIfInBounds (i * z + j) c) vals).size = vals.size := by
          rw [← Array.length_toList, hone]
          simp only [Array.length_toList, List.length_append, List.length_take, List.length_drop]
          omega
        obtain ⟨vals', h1, h2, h3, h4, h5, h6⟩ := ih (i + 1) es' (v.cells.zipIdx.foldl (fun cs (c, j) => cs.setIfInBounds (i * z + j) c) vals) hes (by
          rw [hsz1, show i + 1 + ps.length = i + (ps.length + 1) by omega]; exact hle)
        have hsucc : (i + 1) * z = i * z + z := Nat.succ_mul i z
        have hk : vals'.toList.take (i * z + z) = vals.toList.take (i * z) ++ v.cells.toList := by
          rw [← hsucc, h3, hone, hsucc, List.take_append_of_le_length (by simp; omega)]
          rw [List.take_of_length_le (by simp; omega)]
        refine ⟨vals', ?_, by rw [h2, hsz1], ?_, ?_, by simp [h5], by intro e he; rcases List.mem_cons.1 he with rfl | he; exact hlz; exact h6 e he⟩
        · simp only [Instr.fill]
          rw [if_neg (by simp; omega)]
          exact h1
        · have := congrArg (List.take (i * z)) hk
          rw [List.take_take, Nat.min_eq_left (by omega)] at this
          rw [this, List.take_append_of_le_length (by simp; omega), List.take_take, Nat.min_self]
        · have e1 : (vals'.toList.drop (i * z)).take ((ps.length + 1) * z) = v.cells.toList ++ (vals'.toList.drop ((i + 1) * z)).take (ps.length * z) := by
            have d1 : (vals'.toList.drop (i * z)).take z = v.cells.toList := by
              have := congrArg (List.drop (i * z)) hk
              rw [List.drop_take, Nat.add_sub_cancel_left] at this
              rw [this, List.drop_left' (by simp; omega)]
            rw [show (ps.length + 1) * z = z + ps.length * z by rw [Nat.add_mul]; omega, List.take_add, d1, List.drop_drop, hsucc]
          rw [List.flatten_cons]
          show cU w F N _ ((vals'.toList.drop (i * z)).take ((ps.length + 1) * z))
          rw [e1]
          exact hv.append h4
      · simp at he
    · simp at he
end Go.Vs
end
section
set_option linter.unusedVariables false
set_option linter.unusedSimpArgs false
namespace Go.Vs
variable {m : Bool}
variable {P : Program} {N : Env}
theorem aDw {w : World} {F : Fr} {t : TypeId} {n : Nat} {ps : List (Nat × (SV m))} {qs : Array (Nat × Value)} {v : (SV m)} (hF : F w.heap.size = 0) (h : tN P t n ps = some v) (hr : aFw w F N ps qs.toList) :
    ∃ z w' e i es, (Instr.buildSlice t n qs).run P w = .ok z w' ∧ v = .own (some e) es ∧ P.info? e = some i ∧ 0 < i.size ∧ aOP P w w' F N e i es z w.heap.size := by
  unfold tN at h
  rw [Option.bind_eq_some_iff] at h
  obtain ⟨e, he, h⟩ := h
  rw [Option.bind_eq_some_iff] at h
  obtain ⟨z, hz, h⟩ := h
  obtain ⟨hzs, h'⟩ := aU h
  clear h
  split at h'
  · rename_i hc
    obtain ⟨rfl, hc2, hc3⟩ := hc
    rw [Option.map_eq_some_iff] at h'
    obtain ⟨es, hes, rfl⟩ := h'
    have hu := uN he
    obtain ⟨d, i, hd, hi, rfl⟩ := nQ hz
    obtain ⟨zv, hzv, hzl⟩ := aJf hi hzs
    have run : ∀ (zc : Array Value), ((ps.length * i.size = 0 ∧ zc = #[]) ∨ (ps.length * i.size ≠ 0 ∧ zc = zv.cells)) → ∀ cells, Instr.fill (fun k => some (k * i.size, i.size)) ((Array.range (ps.length * i.size)).map (fun x => zc[x % zc.size]!)) qs.toList = some cells →
        (Instr.buildSlice t ps.length qs).run P w = .ok (.slice (some ⟨w.heap.size, 0, none⟩) ps.length ps.length) (w.alloc (.cells cells e)) := by
      intro zc hzc cells hf
      have hns : ¬ (2 ^ 24 < ps.length * i.size) := by omega
      rcases hzc with ⟨h0, rfl⟩ | ⟨h0, rfl⟩
      · simp [Instr.buildSlice, run_underlying hu, iX hi, hns, h0] at hf ⊢
        simp [hf, newRow]
      · simp [Instr.buildSlice, run_underlying hu, iX hi, hns, h0, zeroValue, typeInfo, hi, hzv] at hf ⊢
        simp [hf, newRow]
    obtain ⟨zc, hzc⟩ : ∃ zc : Array Value, (ps.length * i.size = 0 ∧ zc = #[]) ∨ (ps.length * i.size ≠ 0 ∧ zc = zv.cells) := by
      by_cases h0 : ps.length * i.size = 0
      · exact ⟨#[], .inl ⟨h0, rfl⟩⟩
      · exact ⟨zv.cells, .inr ⟨h0, rfl⟩⟩
    obtain ⟨cells, h1, h2, _, h4, h5, h6⟩ := aPD hr 0 es ((Array.range (ps.length * i.size)).map (fun x => zc[x % zc.size]!)) hes (by simp)
    have hcs : cells.size = ps.length * i.size := by rw [h2]; simp
    refine ⟨_, _, e, i, es, run zc hzc cells h1, rfl, hi, hc3, ?_⟩
    have hcl : cells.toList = (cells.toList.drop (0 * i.size)).take (ps.length * i.size) ++ [] := by
      have := Array.length_toList (xs := cells)
      rw [Nat.zero_mul, List.drop_zero, List.append_nil, List.take_of_length_le (by omega)]
    have hmm : maxLen = 9223372036854775807 := rfl
    have hle : ps.length ≤ ps.length * i.size := Nat.le_mul_of_pos_right _ hc3
    have := xQ (P := P) (N := N) (F := F) (e := e) (i := i) (es := es) (cap := ps.length) (.inl rfl) hcl hF (by omega) hcs h6 h4 (by omega)
    rw [h5] at this
    exact this
  · simp at h'
theorem aOk {w : World} {F : Fr} {Ow : Own} {bm : Nat → Nat} {al : Nat → Bool} {loc : Loc} {locf : Nat → Loc} (hloc : locf 0 = loc) {x : (SV m)} {v : Value} (h : aR P w F N Ow bm al loc x v) (hx : (x.data || aD0 x) = true) :
    v.cells.size = x.cells.length ∧ (∀ u ∈ v.cells.toList, u.oneCell' = true) ∧ ∀ (j : Nat) (c : (SV m)) (u : Value), x.cells[j]? = some c → v.cells[j]? = some u → aR P w F N Ow bm al (locf j) c u := by
  have single : ∀ (x : (SV m)) (v : Value), v.cells = #[v] → x.cells = [x] → v.oneCell' = true → aR P w F N Ow bm al loc x v →
      v.cells.size = x.cells.length ∧ (∀ u ∈ v.cells.toList, u.oneCell' = true) ∧ ∀ (j : Nat) (c : (SV m)) (u : Value), x.cells[j]? = some c → v.cells[j]? = some u → aR P w F N Ow bm al (locf j) c u := by
    intro x v hv hx h1 hr
    rw [hv, hx]
    refine ⟨rfl, by simpa using h1, fun j c u hc hu => ?_⟩
    cases j with
    | zero => simp at hc hu; subst hc hu; rw [hloc]; exact hr
    | succ j => simp at hc
  cases x with
  | any => simp [SV.data, aD0] at hx
  | skip => simp [SV.data, aD0] at hx
  | ptr b o => simp [SV.data, aD0] at hx
  | eptr e o => simp [SV.data, aD0] at hx
  | kfn f cs => simp [SV.data, aD0] at hx
  | bsl b z lo n => simp [SV.data, aD0] at hx
  | tup vs => simp [SV.data, aD0] at hx
  | leaf l =>
    have hl : eB w F N l v := by simpa only [aR, dF] using h
    exact single _ _ hl.cells rfl hl.one h
  | own eo es =>
    refine single _ _ ?_ rfl ?_ h
    · rcases (show lO P w F N Ow loc _ eo es v from h) with ⟨rfl, _⟩ | ⟨g, cap, cur, e, i, vals, _, _, _, _, rfl, _⟩ <;> rfl
    · rcases (show lO P w F N Ow loc _ eo es v from h) with ⟨rfl, _⟩ | ⟨g, cap, cur, e, i, vals, _, _, _, _, rfl, _⟩ <;> rfl
  | raw eo es =>
    refine single _ _ ?_ rfl ?_ h
    · rcases (show lO P w F N Ow loc _ eo es v from h) with ⟨rfl, _⟩ | ⟨g, cap, cur, e, i, vals, _, _, _, _, rfl, _⟩ <;> rfl
    · rcases (show lO P w F N Ow loc _ eo es v from h) with ⟨rfl, _⟩ | ⟨g, cap, cur, e, i, vals, _, _, _, _, rfl, _⟩ <;> rfl
  | agg cs =>
    obtain ⟨vs, rfl, hr⟩ : ∃ vs, v = .agg vs ∧ cU w F N cs vs.toList := by simpa only [aR, dF] using h
    refine ⟨by have := hr.1; simp at this; simp [SV.cells, Value.cells, this], fun u hu => hr.one u (by simpa [Value.cells] using hu), fun j c u hc hu => ?_⟩
    simp only [SV.cells, List.getElem?_map, Option.map_eq_some_iff] at hc
    obtain ⟨l, hl, rfl⟩ := hc
    exact aR.cellOf (hr.2 j l u hl (by simpa [Value.cells] using hu))
  | nilptr =>
    have : v = .pointer none := by simpa only [aR, dF] using h
    subst this
    exact single _ _ rfl rfl rfl h
  | nilface =>
    have : v = .nilIface := by simpa only [aR, dF] using h
    subst this
    exact single _ _ rfl rfl rfl h
  | fn f caps =>
    obtain ⟨vs, rfl, hr⟩ := (show ∃ vs, v = .func (.func f) #[] vs ∧ _ from h)
    exact single _ _ rfl rfl rfl h
theorem aRb {w : World} {F : Fr} {Ow : Own} {bm : Nat → Nat} {al : Nat → Bool} {loc : Loc} {x : (SV m)} {v : Value} (h : aR P w F N Ow bm al loc x v) : ∀ l, x.leaves = some l → cU w F N l v.cells.toList := by
  intro l hl
  cases x <;> simp only [SV.leaves] at hl <;> try (simp at hl; done)
  · simp at hl; subst hl
    rename_i l0
    have h' : eB w F N l0 v := by simpa only [aR, dF] using h
    rw [h'.cells]
    exact cU.cons h' (cU.nil _ _ _)
  · simp at hl; subst hl
    have h' := lO.leaf (show lO P w F N Ow loc _ _ _ v from h)
    rw [h'.cells]
    exact cU.cons h' (cU.nil _ _ _)
  · simp at hl; subst hl
    rename_i l0
    obtain ⟨vs, rfl, hr⟩ : ∃ vs, v = .agg vs ∧ cU w F N l0 vs.toList := by simpa only [aR, dF] using h
    exact hr
theorem aQT {w : World} {F : Fr} {Ow : Own} {bm : Nat → Nat} {al : Nat → Bool} {loc : Loc} {x : (SV m)} {v : Value} (h : aR P w F N Ow bm al loc x v) {l : (aC m)} (hl : asLeaf x = some l) : eB w F N l v := by
  cases x <;> simp only [asLeaf] at hl <;> try (simp at hl; done)
  · simp at hl; subst hl; simpa only [aR, dF] using h
  · simp at hl; subst hl; exact lO.leaf (show lO P w F N Ow loc _ _ _ v from h)
theorem zU {w : World} {F : Fr} {Ow : Own} {bm : Nat → Nat} {al : Nat → Bool} : ∀ (cs : List (SV m)) (us : List Value) (ls : List (aC m)) (locf : Nat → Loc), cM cs = some ls → us.length = cs.length →
    (∀ (j : Nat) (c : (SV m)) (u : Value), cs[j]? = some c → us[j]? = some u → aR P w F N Ow bm al (locf j) c u) → cU w F N ls us
  | [], us, ls, _, h, hl, _ => by simp [cM] at h; subst h; obtain rfl : us = [] := List.eq_nil_of_length_eq_zero (by simpa using hl); exact cU.nil _ _ _
  | c :: cs, us, ls, locf, h, hl, hr => by
    simp only [cM] at h
    rw [Option.bind_eq_some_iff] at h
    obtain ⟨l, h1, h⟩ := h
    rw [Option.map_eq_some_iff] at h
    obtain ⟨ls', h2, rfl⟩ := h
    cases us with
    | nil => simp at hl
    | cons u us =>
      exact cU.cons (aQT (hr 0 c u rfl rfl) h1) (zU cs us ls' (fun j => locf (j + 1)) h2 (by simpa using hl) fun j c' u' a b => hr (j + 1) c' u' (by simpa using a) (by simpa using b))
theorem eS {bs : (gU m)} {b : Nat} {v : Option (List (SV m))} (h : b < bs.length) : aW (bs.set b v) b = v := by
  unfold aW; rw [List.getD_eq_getElem?_getD, List.getElem?_set_self h]; rfl
theorem iW {bs : (gU m)} {b c : Nat} {v : Option (List (SV m))} (h : c ≠ b) : aW (bs.set b v) c = aW bs c := by
  unfold aW; rw [List.getD_eq_getElem?_getD, List.getElem?_set_ne (fun e => h e.symm), ← List.getD_eq_getElem?_getD]
theorem rH {bs : (gU m)} {b : Nat} {cs : List (SV m)} (h : aW bs b = some cs) : b < bs.length := by
  unfold aW at h
  rcases Nat.lt_or_ge b bs.length with h' | h'
  · exact h'
  · rw [List.getD_eq_getElem?_getD, List.getElem?_eq_none h'] at h; simp at h
section
variable {s : (St m)} {tmps : Array Value} {w : World} {F : Fr} {Ow : Own} {bm : Nat → Nat}
theorem Inv.setBox (h : Inv P s tmps w F N Ow bm) {b : Nat} {cs cs' : List (SV m)} {cur cur' : Array Value} {e : TypeId} {w' : World} (hb : aW s.boxes b = some cs) (hne : cs ≠ []) (hg : w.heap[bm b]? = some (.cells cur e (0, 0))) (hs : cs'.length ≤ cur'.size) (hcs : cur'.size = cur.size)
    (hw1 : ∀ k, k ≠ bm b → w'.heap[k]? = w.heap[k]?) (hw2 : w'.heap[bm b]? = some (.cells cur' e (0, 0))) (hw3 : w'.heap.size = w.heap.size) (hos : w'.os = w.os) (htp : w'.tape = w.tape) (hou : w'.output = w.output)
    (hr : ∀ (j : Nat) (c : (SV m)) (u : Value), cs'[j]? = some c → cur'[j]? = some u → aR P w F N Ow bm s.al (.box b j) c u) :
    Inv P { s with boxes := s.boxes.set b (some cs') } tmps w' F N Ow bm ∧ Far N w F Ow w' F Ow := by
  obtain ⟨_, _, _, _, hF, hO, _⟩ := (h.box b cs hb).resolve_left hne
  have hlt := rH hb
  have hk : eN N w F w' F := by
    refine .mk' (fun k j hj => ?_) (fun _ => Nat.le_refl _) (nG.but (bm b) (fun k _ hk => hw1 k hk) fun _ => ⟨_, _, hw2⟩) (BSz.but (bm b) (fun k _ hk => hw1 k hk) (aM2 hg hw2 hcs))
    have : k ≠ bm b := by rintro rfl; omega
    simp only [World.cell?, hw1 k this]
  have hp : ∀ c, s.al c = true → bm c = bm c ∧ (aW (s.boxes.set b (some cs')) c).isSome = true := by
    intro c hc
    refine ⟨rfl, ?_⟩
    by_cases hcb : c = b
    · subst hcb; rw [eS hlt]; rfl
    · rw [iW hcb]; exact hc
  have ho : ∀ loc g, loc ≠ .blk b → Ow g = some loc → w'.heap[g]? = w.heap[g]? ∧ F g = F g ∧ Ow g = some loc := by
    intro loc g hl hg'
    refine ⟨hw1 g ?_, rfl, hg'⟩
    rintro rfl
    rw [hO] at hg'
    cases hg'
    exact hl rfl
  refine ⟨⟨h.len, fun t => (h.slot t).to hk hp fun _ g hg' => ho _ g (by simp) hg', fun c ds hc => ?_, h.low.to hk (by rw [hw3]; exact Nat.le_refl _), fun g hg' => h.new g (by omega), fun c ds hc => ?_, fun g hz => ⟨(h.zow g hz).1, by rw [hw1 g (fun e => by rw [e] at hz; have := (h.zow _ hz).1; rw [hO] at this; simp at this)]; exact (h.zow g hz).2⟩⟩, ⟨hos, htp, hou, by omega, hk, fun g _ hg' => ?_⟩⟩
  · by_cases hcb : c = b
    · subst hcb
      have hc' : aW (s.boxes.set c (some cs')) c = some ds := hc
      rw [eS hlt] at hc'
      cases hc'
      exact .inr ⟨cur', e, hw2, hs, hF, hO, fun j x u hx hu => (hr j x u hx hu).to hk hp fun _ g hg' => ho _ g (by simp) hg'⟩
    · have hc' : aW (s.boxes.set b (some cs')) c = some ds := hc
      rw [iW hcb] at hc'
      rcases h.box c ds hc' with g0 | ⟨cur2, e2, g1, g2, g3, g4, g5⟩
      · exact .inl g0
      have hne : bm c ≠ bm b := by
        intro he
        rw [he, hO] at g4
        cases g4
        exact hcb rfl
      exact .inr ⟨cur2, e2, (hw1 _ hne).trans g1, g2, g3, g4, fun j x u hx hu => (g5 j x u hx hu).to hk hp fun _ g hg' => ho _ g (by simp) hg'⟩
  · by_cases hcb : c = b
    · subst hcb; exact h.bmn c cs hb
    · have hc' : aW (s.boxes.set b (some cs')) c = some ds := hc
      rw [iW hcb] at hc'
      exact h.bmn c ds hc'
  · refine ⟨fun _ => hw1 g ?_, rfl, hg'⟩
    rintro rfl
    rw [hO] at hg'
    simp at hg'
theorem Inv.takeBox (h : Inv P s tmps w F N Ow bm) {b p : Nat} {cs : List (SV m)} {c : (SV m)} (hb : aW s.boxes b = some cs) (hc : cs[p]? = some c) (to : Loc) :
    ∃ Ow', Inv P { s with boxes := s.boxes.set b (some (cs.set p c.drop)) } tmps w F N Ow' bm ∧ Far N w F Ow w F Ow' ∧ ∃ cur e u, w.heap[bm b]? = some (.cells cur e (0, 0)) ∧ cur[p]? = some u ∧ cs.length ≤ cur.size ∧
      aR P w F N Ow' bm s.al to c u := by
  have hp : p < cs.length := (List.getElem?_eq_some_iff.1 hc).1
  have hne : cs ≠ [] := by rintro rfl; simp at hp
  obtain ⟨cur, e, h1, h2, h3, h4, h5⟩ := (h.box b cs hb).resolve_left hne
  have hpc : p < cur.size := Nat.lt_of_lt_of_le hp h2
  have hu : cur[p]? = some cur[p] := by simp [hpc]
  obtain ⟨h6, h7⟩ := h.setBox (cs' := cs.set p c.drop) (cur' := cur) hb hne h1 (by simpa using h2) rfl (fun _ _ => rfl) h1 rfl rfl rfl rfl (fun j x u hx hu' => by
    by_cases hj : j = p
    · subst hj
      rw [List.getElem?_set_self hp] at hx
      cases hx
      exact aR.drop (h5 j c u hc hu')
    · rw [List.getElem?_set_ne (fun e => hj e.symm)] at hx
      exact h5 j x u hx hu')
  have hlt := rH hb
  refine ⟨fun g => if Ow g = some (.box b p) then some to else Ow g, h6.to (eN.refl _ _) (Nat.le_refl _) (fun _ _ => rfl) (fun g loc hg hl => ⟨rfl, rfl, ?_⟩) (fun g hg => ⟨(h.new g hg).1, by simp [(h.new g hg).2]⟩) (fun g hg => ⟨by simp [(h.zow g hg).1], (h.zow g hg).2⟩), ⟨rfl, rfl, rfl, Nat.le_refl _, eN.refl _ _, fun g _ hg => ⟨fun _ => rfl, rfl, by simp [hg]⟩⟩, cur, e, cur[p], h1, hu, h2, ?_⟩
  · rw [if_neg]
    · exact hg
    · intro he
      rw [he] at hg
      cases hg
      obtain ⟨ds, hd1, hd2⟩ := hl
      have hd1' : aW (s.boxes.set b (some (cs.set p c.drop))) b = some ds := hd1
      rw [eS hlt] at hd1'
      cases hd1'
      rw [List.getD_eq_getElem?_getD, List.getElem?_set_self hp] at hd2
      simp [qP] at hd2
  · exact (h5 p c _ hc hu).to (eN.refl _ _) (fun b hb => ⟨rfl, hb⟩) fun _ g hg => ⟨rfl, rfl, by simp [hg]⟩
end
end Go.Vs
end
section
namespace Go.Vs
variable {m : Bool}
variable {P : Program} {N : Env}
def kS (P : Program) (N : Env) (nt : Nat) (s' : (St m)) (a : Act) (w : World) (F : Fr) (Ow : Own) (bm : Nat → Nat) (a' : Act) (w' : World) : Prop :=
  ∃ F' Ow' bm', Inv P s' a'.tmps w' F' N Ow' bm' ∧ Far N w F Ow w' F' Ow' ∧ (∀ b, nt ≤ b → bm' b = bm b) ∧ a'.defers = a.defers
def lS (P : Program) (N : Env) (D : (bK m)) : Prop := ∀ (f : FuncId) (args : List (SV m)) (boxes : List (List (SV m))) (r : (SV m) × List (List (SV m))), D f args boxes = some r → args.all SV.handed = true → (∀ c ∈ boxes, ∀ x ∈ c, x.flat = true) →
  r.2.length = boxes.length ∧ r.1.backOk boxes.length = true ∧ (∀ cs ∈ r.2, ∀ c ∈ cs, c.flat = true) ∧ (∃ fn, P.funcs[f]? = some fn ∧ (fn.name == "runtime.NumGoroutine") = false ∧ fn.body.isNone = false) ∧
  ∀ (w : World) (F : Fr) (Ow : Own) (bm : Nat → Nat) (vals : Array Value), Inv P { tmps := args, boxes := boxes.map some } vals w F N Ow bm →
    Calls P f vals w fun e w' => ∃ v F' Ow', e = .returned v ∧ Inv P { tmps := [r.1], boxes := r.2.map some } #[v] w' F' N Ow' bm ∧ Far N w F Ow w' F' Ow'
section
variable {s : (St m)} {a : Act} {w : World} {F : Fr} {Ow : Own} {bm : Nat → Nat} {nt : Nat}
theorem Inv.put (h : Inv P s a.tmps w F N Ow bm) {dst : Option Tmp} {v : (SV m)} {u : Value} (hv : ∀ d, dst = some d → aR P w F N Ow bm s.al (.tmp d) v u) :
    Inv P (s.put dst v) (a.put dst u).tmps w F N Ow bm := by
  cases dst with
  | none => exact h
  | some d => exact h.set (hv d rfl)
theorem gQ (dst : Option Tmp) (u : Value) : (a.put dst u).defers = a.defers := by cases dst <;> rfl
theorem aJa (dst : Option Tmp) (v : (SV m)) : (⟨qJ dst v, none⟩ : (Eff m)).app s = s.put dst v := by rw [tM]; rfl
theorem aQx (x : Operand) (dst : Option Tmp) (v : (SV m)) : (⟨kG s.eval x ++ qJ dst v, none⟩ : (Eff m)).app s = (s.take x).put dst v := by
  rw [tM]; simp [St.take, St.takes, Eff.app, jV]
theorem eX (h : Inv P s a.tmps w F N Ow bm) {o : Oper} {next : Act → World → Prop} {Q : Exit → Act → World → Prop} {v : (SV m)} {z : Value} (hrun : (execOp a.eval o).run P w = .ok (.value z) w)
    (hv : ∀ loc, aR P w F N Ow bm s.al loc v z) (hk : ∀ a' w', kS P N nt ((⟨qJ o.dst v, none⟩ : (Eff m)).app s) a w F Ow bm a' w' → next a' w') : o.wp P a w next Q := by
  unfold Oper.wp
  rw [hrun]
  exact hk _ _ ⟨F, Ow, bm, by rw [aJa]; exact h.put fun d _ => hv _, Far.refl _ _ _, fun _ _ => rfl, gQ _ _⟩
theorem qI {loc : Loc} {v : (SV m)} {z : Value} (h : ∃ l, v = .leaf l ∧ eB w F N l z) : aR P w F N Ow bm s.al loc v z := by
  obtain ⟨l, rfl, hl⟩ := h; exact aR.leaf hl
theorem aKX {loc : Loc} {v : (SV m)} {z : Value} (h : (∃ l, v = .leaf l ∧ eB w F N l z) ∨ ∃ ls us, v = .agg ls ∧ z = .agg us ∧ cU w F N ls us.toList) : aR P w F N Ow bm s.al loc v z := by
  rcases h with h | ⟨ls, us, rfl, rfl, hr⟩
  · exact qI h
  · exact aR.agg hr
theorem aCa (x : Operand) (to : Loc) : Far N w F Ow w F (aDv x to Ow) := ⟨rfl, rfl, rfl, Nat.le_refl _, eN.refl _ _, fun _ _ hg => ⟨fun _ => rfl, rfl, aH2 hg⟩⟩
theorem aRv {Ow : Own} {al : Nat → Bool} {loc : Loc} {x : (SV m)} {v : Value} {t : TypeId} (h : aR P w F N Ow bm al loc x v) : aR P w F N Ow bm al loc (aJW P t x) v := by
  unfold aJW
  split
  · rcases (show lO P w F N Ow loc false none [] v from h) with ⟨rfl, _⟩ | ⟨g, cap, cur, e, i, vals, _, he, _⟩
    · exact aR.own_nil
    · simp at he
  · exact h
theorem aN2 (h : Inv P s a.tmps w F N Ow bm) (x : Operand) (dst : Option Tmp) (t : TypeId) : kS P N nt ((⟨kG s.eval x ++ qJ dst (aJW P t (s.eval x)), none⟩ : (Eff m)).app s) a w F Ow bm (a.put dst (a.eval x)) w := by
  rw [aQx]
  cases dst with
  | none => exact ⟨F, aDv x (.blk 0) Ow, bm, (h.take rfl x (.blk 0)).1, aCa _ _, fun _ _ => rfl, rfl⟩
  | some d =>
    obtain ⟨h1, h2⟩ := h.take (a := a) rfl x (.tmp d)
    have hal : (s.take x).al = s.al := by cases x <;> rfl
    exact ⟨F, aDv x (.tmp d) Ow, bm, h1.set (by rw [hal]; exact aRv h2), aCa _ _, fun _ _ => rfl, rfl⟩
theorem aSx {loc : Loc} {x : (SV m)} {v : Value} (h : aR P w F N Ow bm s.al loc x v) (hx : x.plain = true) : yT v = true ∧ v.cells = #[v] ∧ v.oneCell' = true := by
  unfold SV.plain at hx
  split at hx <;> try (simp at hx; done)
  all_goals
    simp only [aR, dF] at h
    cases h
    exact ⟨rfl, rfl, rfl⟩
theorem Inv.softStore {tmps : Array Value} (h : Inv P s tmps w F N Ow bm) {g j : Nat} {v u : Value} {w' : World} {cur : Array Value} {e : TypeId} (hZ : N.Z g = true) (hg : w.heap[g]? = some (.cells cur e (0, 0))) (hu : cur[j]? = some u) (pu : yT u = true) (pv : yT v = true)
    (hw : w' = w.setRow g (cur.toList.take j ++ [v] ++ cur.toList.drop (j + 1)).toArray) : Inv P s tmps w' F N Ow bm ∧ Far N w F Ow w' F Ow := by
  subst hw
  have hj : j < cur.size := (Array.getElem?_eq_some_iff.1 hu).1
  have hcl := Array.length_toList (xs := cur)
  have hset := setRow_heap w g cur (cur.toList.take j ++ [v] ++ cur.toList.drop (j + 1)).toArray e (0, 0) hg
  have hoth : ∀ k, k ≠ g → (w.setRow g (cur.toList.take j ++ [v] ++ cur.toList.drop (j + 1)).toArray).heap[k]? = w.heap[k]? := fun k hk => setRow_other w g k _ hk
  have hat : ∀ i, (cur.toList.take j ++ [v] ++ cur.toList.drop (j + 1))[i]? = if i = j then some v else cur[i]? := by
    intro i
    rw [List.append_assoc]
    by_cases hij : i < j
    · rw [List.getElem?_append_left (by rw [List.length_take]; omega), List.getElem?_take, if_pos hij, if_neg (by omega)]; simp
    · rw [List.getElem?_append_right (by rw [List.length_take]; omega), List.length_take, Nat.min_eq_left (by omega)]
      by_cases hi : i = j
      · subst hi; simp
      · rw [if_neg hi, List.getElem?_append_right (by simp; omega), List.getElem?_drop]
        simp only [List.length_singleton]
        rw [show j + 1 + (i - j - 1) = i by omega]; simp
  have hk : eN N w F (w.setRow g (cur.toList.take j ++ [v] ++ cur.toList.drop (j + 1)).toArray) F := by
    refine ⟨fun k i _ hz => ?_, fun k i x hi hx => ?_, fun _ => Nat.le_refl _, nG.but g (fun k _ hk => hoth k hk) fun _ => ⟨_, _, hset⟩, BSz.but g (fun k _ hk => hoth k hk) (aM2 hg hset (by simp only [List.size_toArray, List.length_append, List.length_take, List.length_drop, List.length_singleton, hcl]; omega))⟩
    · have : k ≠ g := by rintro rfl; rw [hZ] at hz; simp at hz
      simp only [World.cell?, hoth k this]
    · by_cases hkg : k = g
      · subst hkg
        rw [sO hg] at hx
        rw [sO hset]
        by_cases hij : i = j
        · subst hij
          rw [hu] at hx; cases hx
          exact ⟨v, by simpa using (hat i).trans (if_pos rfl), .inr ⟨pu, pv⟩⟩
        · exact ⟨x, by have := (hat i).trans (if_neg hij); simpa using this.trans hx, .inl rfl⟩
      · exact ⟨x, by simpa only [World.cell?, hoth k hkg] using hx, .inl rfl⟩
  refine ⟨h.to hk (Nat.le_of_eq (by simp)) (fun _ _ => rfl) (fun k loc hk' _ => ?_) (fun k hk' => h.new k (by simpa using hk')) (fun k hz => ⟨(h.zow k hz).1, ?_⟩), ⟨rfl, rfl, rfl, Nat.le_of_eq (by simp), hk, fun k _ ho => ⟨fun hz => ?_, rfl, ho⟩⟩⟩
  · have : k ≠ g := by rintro rfl; rw [(h.zow k hZ).1] at hk'; simp at hk'
    exact ⟨hoth k this, rfl, hk'⟩
  · by_cases hkg : k = g
    · subst hkg; exact ⟨_, _, hset⟩
    · rw [hoth k hkg]; exact (h.zow k hz).2
  · have : k ≠ g := by rintro rfl; rw [hZ] at hz; simp at hz
    exact hoth k this
theorem aN9 {b : Nat} {cs : List (SV m)} (h : Inv P s a.tmps w F N Ow bm) (hb : aW s.boxes b = some cs) {p n : Nat} {l : List (aC m)} (hle : p + n ≤ cs.length) (hl : cM ((cs.drop p).take n) = some l) :
    ∃ vals : List Value, vals.length = n ∧ (∀ (j : Nat) (v : Value), vals[j]? = some v → w.cell? ⟨bm b, p + j, none⟩ = some v) ∧ cU w F N l vals := by
  rcases h.box b cs hb with rfl | ⟨cur, e, h1, h2, h3, h4, h5⟩
  · simp only [List.length_nil] at hle
    obtain rfl : n = 0 := by omega
    simp [cM] at hl
    subst hl
    exact ⟨[], rfl, by simp, cU.nil _ _ _⟩
  have hlen := Array.length_toList (xs := cur)
  refine ⟨(cur.toList.drop p).take n, by simp; omega, fun j v hj => ?_, ?_⟩
  · rw [sO h1]
    rw [List.getElem?_take] at hj
    split at hj
    · rw [List.getElem?_drop] at hj; simpa using hj
    · simp at hj
  refine zU (P := P) (Ow := Ow) (bm := bm) (al := s.al) ((cs.drop p).take n) _ l (fun j => .box b (p + j)) hl (by simp; omega) fun j c u hc hu => ?_
  rw [List.getElem?_take] at hc hu
  split at hc
  · rename_i hj
    simp only [hj, if_true] at hu
    rw [List.getElem?_drop] at hc hu
    exact h5 (p + j) c u hc (by simpa using hu)
  · simp at hc
theorem aEE {t : TypeId} {g p n : Nat} {vals : List Value} (hv : vals.length = n) (hc : ∀ (j : Nat) (v : Value), vals[j]? = some v → w.cell? ⟨g, p + j, none⟩ = some v) (ha : kW P t = true) (hn : dS P t = some n) :
    (Instr.loadAt t (.pointer (some ⟨g, p, none⟩))).run P w = .ok (.agg vals.toArray) w := by
  obtain ⟨d, i, hd, hi, rfl⟩ := nQ hn
  rw [aB9 hd] at ha
  have hl := run_loadCells_list (P := P) w ⟨g, p, none⟩ vals (fun j v hj => by rw [qF]; exact hc j v hj)
  rw [hv] at hl
  simp [Instr.loadAt, Instr.sureAddr, loadVar, wI hd, ha, iX hi, hl]
theorem wR {t : TypeId} {g p : Nat} {cur : Array Value} {e : TypeId} {z : Nat × Nat} {u : Value} {d : TypeDesc} (hg : w.heap[g]? = some (.cells cur e z)) (hd : P.underlying t = some d) (ha : kW P t = false) (hu : cur[p]? = some u) :
    (Instr.loadAt t (.pointer (some ⟨g, p, none⟩))).run P w = .ok u w := by
  rw [aB9 hd] at ha
  have hc : w.cell? ⟨g, p, none⟩ = some u := by rw [sO hg]; exact hu
  simp [Instr.loadAt, Instr.sureAddr, loadVar, wI hd, ha, hc]
theorem aQY {loc : Loc} {b p : Nat} {z : Value} (h : aR (m := m) P w F N Ow bm s.al loc (.ptr b p) z) : z = .pointer (some ⟨bm b, p, none⟩) ∧ s.al b = true := by simpa only [aR, dF] using h
theorem aHM {t : TypeId} (h : kW P t = false) : ∃ d, P.underlying t = some d := by
  cases hd : P.underlying t with
  | none => simp [kW, hd] at h
  | some d => exact ⟨d, rfl⟩
theorem aQX (h : Inv P s a.tmps w F N Ow bm) {o : Oper} {mv : Bool} {t : TypeId} {x : Operand} {e : (Eff m)} {D : (bK m)} {pu ta : Bool} (ho : o.op = .load t x) (he : cV P D nt mv pu ta o s.eval s.boxes = some e)
    {next : Act → World → Prop} {Q : Exit → Act → World → Prop} (hk : ∀ a' w', kS P N nt (e.app s) a w F Ow bm a' w' → next a' w') : o.wp P a w next Q := by
  simp only [cV, ho] at he
  have hx := h.eval (a := a) rfl x
  split at he
  · rename_i fc el p hxe
    rw [Option.map_eq_some_iff] at he
    obtain ⟨v, hv, rfl⟩ := he
    rw [hxe] at hx
    obtain ⟨g, q, vals, hz, hle, hso, hr, hc⟩ : ∃ g q vals, a.eval x = .pointer (some ⟨g, q + p, none⟩) ∧ q + el.length ≤ F g ∧ (fc.At N g ∧ (N.Z g = true → ∀ l ∈ el, l.soft = true)) ∧ cU w F N el vals ∧ ∀ (j : Nat) (u : Value), vals[j]? = some u → w.cell? ⟨g, q + j, none⟩ = some u := by simpa only [aR, dF] using hx
    obtain ⟨z, hrun, hrep⟩ := aSq (P := P) hv hr hc
    exact eX h (z := z) (v := v) (by simp [execOp, ho, hz, hrun]) (fun _ => aKX hrep) hk
  · rename_i f cs hxe
    obtain ⟨ha, he⟩ := aU he
    simp only [Option.map_some, Option.some.injEq] at he
    subst he
    rw [hxe] at hx
    have hF : dF (m := m) w F N bm s.al (.kfn f cs) (a.eval x) := by simpa only [aR] using hx
    have hF' := hF
    obtain ⟨g, q, vs, hz, _, hc, hs, hr⟩ := hF'
    have ha' : kW P t = false := by simpa using ha
    obtain ⟨d, hd⟩ := aHM ha'
    have hrun : (Instr.loadAt t (.pointer (some ⟨g, q, none⟩))).run P w = .ok (.func (.func f) #[] vs) w := by
      rw [aB9 hd] at ha'
      simp [Instr.loadAt, Instr.sureAddr, loadVar, wI hd, ha', hc]
    refine eX h (z := .func (.func f) #[] vs) (v := unK f cs) (by simp [execOp, ho, hz, hrun]) (fun loc => ?_) hk
    unfold unK
    refine ⟨vs, rfl, by simp [hs], fun j c u hj hu => ?_⟩
    simp only [List.getElem?_map, Option.map_eq_some_iff] at hj
    obtain ⟨c0, hc0, rfl⟩ := hj
    have := hr j c0 u hc0 hu
    cases c0 with
    | none =>
      have hu' : u = a.eval x := this
      rw [hu']; exact hF
    | some p => exact this
  · rename_i b p hxe
    rw [hxe] at hx
    obtain ⟨hz, hal⟩ := aQY hx
    obtain ⟨_, he⟩ := aU he
    rw [Option.bind_eq_some_iff] at he
    obtain ⟨cs, hb, he⟩ := he
    split at he
    · rename_i ha
      rw [Option.bind_eq_some_iff] at he
      obtain ⟨n, hn, he⟩ := he
      split at he
      · rename_i hle
        rw [Option.map_eq_some_iff] at he
        obtain ⟨l, hl, rfl⟩ := he
        obtain ⟨vals, hvl, hcl, hr⟩ := aN9 h hb hle hl
        have hrun := aEE (n := n) (p := p) hvl hcl ha hn
        exact eX h (z := .agg vals.toArray) (v := .agg l) (by simp [execOp, ho, hz, hrun]) (fun _ => aR.agg (by simpa using hr)) hk
      · simp at he
    · rename_i ha
      have ha' : kW P t = false := by simpa using ha
      obtain ⟨d, hd⟩ := aHM ha'
      rw [Option.map_eq_some_iff] at he
      obtain ⟨c, hc, he⟩ := he
      split at he
      · subst he
        cases hdst : o.dst with
        | none =>
          obtain ⟨Ow', h1, h2, cur, et, u, hg, hu, hs, hr⟩ := h.takeBox hb hc (.blk 0)
          have hrun : (execOp a.eval o).run P w = .ok (.value u) w := by simp [execOp, ho, hz, wR hg hd ha' hu]
          unfold Oper.wp
          rw [hrun]
          refine hk _ _ ⟨F, Ow', bm, ?_, h2, fun _ _ => rfl, gQ _ _⟩
          rw [hdst]
          exact h1
        | some dd =>
          obtain ⟨Ow', h1, h2, cur, et, u, hg, hu, hs, hr⟩ := h.takeBox hb hc (.tmp dd)
          have hrun : (execOp a.eval o).run P w = .ok (.value u) w := by simp [execOp, ho, hz, wR hg hd ha' hu]
          unfold Oper.wp
          rw [hrun]
          refine hk _ _ ⟨F, Ow', bm, ?_, h2, fun _ _ => rfl, gQ _ _⟩
          rw [hdst]
          refine h1.set (d := dd) (v := c) (u := u) (hr.to (eN.refl _ _) (fun b' hb' => ⟨rfl, ?_⟩) fun _ g hg => ⟨rfl, rfl, hg⟩)
          show (aW (s.boxes.set b (some (cs.set p c.drop))) b').isSome = true
          by_cases hbb : b' = b
          · subst hbb; rw [eS (rH hb)]; rfl
          · rw [iW hbb]; exact hb'
      · subst he
        have hp : p < cs.length := (List.getElem?_eq_some_iff.1 hc).1
        obtain ⟨cur, et, h1, h2, h3, h4, h5⟩ := (h.box b cs hb).resolve_left (by rintro rfl; simp at hp)
        have hpc : p < cur.size := Nat.lt_of_lt_of_le hp h2
        have hu : cur[p]? = some cur[p] := by simp [hpc]
        exact eX h (z := cur[p]) (v := c.drop) (by simp [execOp, ho, hz, wR h1 hd ha' hu]) (fun _ => aR.drop (h5 p c _ hc hu)) hk
  · simp at he
theorem aNY (x : Operand) : (s.take x).boxes = s.boxes := by cases x <;> rfl
theorem aP5 (h : Inv P s a.tmps w F N Ow bm) {o : Oper} {mv : Bool} {t : TypeId} {x y : Operand} {e : (Eff m)} {D : (bK m)} {pu ta : Bool} (ho : o.op = .store t x y) (he : cV P D nt mv pu ta o s.eval s.boxes = some e)
    {next : Act → World → Prop} {Q : Exit → Act → World → Prop} (hk : ∀ a' w', kS P N nt (e.app s) a w F Ow bm a' w' → next a' w') : o.wp P a w next Q := by
  simp only [cV, ho] at he
  have hx := h.eval (a := a) rfl x
  split at he
  · rename_i fc el p hxe
    rw [hxe] at hx
    split at he
    · rename_i hcnd
      obtain ⟨⟨hsf, hsa⟩, hpl, hst⟩ := hcnd
      simp only [Option.map_some, Option.some.injEq] at he
      subst he
      obtain ⟨g, q, vals, hz, hle, hso, hr, hc⟩ : ∃ g q vals, a.eval x = .pointer (some ⟨g, q + p, none⟩) ∧ q + el.length ≤ F g ∧ (fc.At N g ∧ (N.Z g = true → ∀ l ∈ el, l.soft = true)) ∧ cU w F N el vals ∧ ∀ (j : Nat) (u : Value), vals[j]? = some u → w.cell? ⟨g, q + j, none⟩ = some u := by simpa only [aR, dF] using hx
      have hZ := hso.1.z hsf
      obtain ⟨pv, hvc, hone⟩ := aSx (h.eval (a := a) rfl y) hpl
      obtain ⟨_, cur, et, hg⟩ := h.zow g hZ
      have hep : el[p]? = some .unk := by
        unfold eG at hsa
        split at hsa
        · assumption
        · simp at hsa
      obtain ⟨u, hu, hru⟩ := hr.get hep
      have hcu := hc _ _ hu
      rw [sO hg] at hcu
      have pu : yT u = true := by cases hru; assumption
      have hlt : q + p < cur.size := (Array.getElem?_eq_some_iff.1 hcu).1
      obtain ⟨d, i, hd, hi, hi1⟩ := nQ hst
      have hst := run_storeCells_at P g (q + p) et [a.eval y] 0 cur w hg (by simp; omega) (by simpa using hone)
      obtain ⟨k1, k2⟩ := h.softStore hZ hg hcu pu pv rfl
      have hrun : (execOp a.eval o).run P w = .ok .skip (w.setRow g (cur.toList.take (q + p) ++ [a.eval y] ++ cur.toList.drop (q + p + 1)).toArray) := by
        simp only [Nat.add_zero, List.length_singleton] at hst
        simp [execOp, ho, hz, Instr.storeAt, Instr.sureAddr, storeVar, iX hi, hvc, hi1, hst]
      unfold Oper.wp
      rw [hrun]
      refine hk _ _ ⟨F, Ow, bm, ?_, k2, fun _ _ => rfl, gQ _ _⟩
      rw [aJa]
      exact Inv.put (a := a) k1 fun d _ => by simp only [aR, dF]
    · simp at he
  · rename_i b p hxe
    rw [hxe] at hx
    obtain ⟨hz, hal⟩ := aQY hx
    rw [Option.bind_eq_some_iff] at he
    obtain ⟨cs, hb, he⟩ := he
    rw [Option.bind_eq_some_iff] at he
    obtain ⟨n, hn, he⟩ := he
    obtain ⟨hfl, he'⟩ := aU he
    clear he
    split at he'
    · rename_i hc
      obtain ⟨hc1, hc2⟩ := hc
      simp only [Option.some.injEq] at he'
      subst he'
      obtain ⟨h1, h2⟩ := h.take (a := a) rfl y (.box b p)
      have hal' : (s.take y).al = s.al := by cases y <;> rfl
      have hbx : (s.take y).boxes = s.boxes := aNY y
      obtain ⟨hsz, hone, hcl⟩ := aOk (locf := fun j => .box b (p + j)) (by simp) h2 (by simp [hfl])
      obtain ⟨d, i, hd, hi, rfl⟩ := nQ hn
      have heq : ((⟨kG s.eval y ++ qJ o.dst .skip, some (s.boxes.set b (some (cs.take p ++ (s.eval y).cells ++ cs.drop (p + i.size))))⟩ : (Eff m)).app s) =
          ({ (s.take y) with boxes := (s.take y).boxes.set b (some (cs.take p ++ (s.eval y).cells ++ cs.drop (p + i.size))) } : (St m)).put o.dst .skip := by
        rw [tM]
        cases y <;> simp [St.take, St.takes, Eff.app, jV]
      by_cases hne : cs = []
      · subst hne
        simp only [List.length_nil] at hc2
        have h0 : i.size = 0 := by omega
        have hv0 : (a.eval y).cells = #[] := Array.eq_empty_of_size_eq_zero (by rw [hsz, ← hc1]; exact h0)
        have hs0 : (s.eval y).cells = [] := List.eq_nil_of_length_eq_zero (by omega)
        have hrun : (execOp a.eval o).run P w = .ok .skip w := by
          simp [execOp, ho, hz, Instr.storeAt, Instr.sureAddr, storeVar, iX hi, hv0, h0, storeCells]
        unfold Oper.wp
        rw [hrun]
        refine hk _ _ ⟨F, _, bm, ?_, aCa y (.box b p), fun _ _ => rfl, gQ _ _⟩
        rw [heq, hs0]
        have hsame : (s.take y).boxes.set b (some ([].take p ++ [] ++ [].drop (p + i.size))) = (s.take y).boxes := by
          rw [hbx]
          apply List.ext_getElem?
          intro k
          by_cases hk : k = b
          · subst hk
            have hlt := rH hb
            rw [List.getElem?_set_self hlt]
            unfold aW at hb
            rw [List.getD_eq_getElem?_getD, List.getElem?_eq_getElem hlt] at hb
            rw [List.getElem?_eq_getElem hlt]
            simp at hb
            simp [hb]
          · rw [List.getElem?_set_ne (fun e => hk e.symm)]
        rw [hsame]
        exact Inv.put (a := a) h1 fun d _ => by simp only [aR, dF]
      obtain ⟨cur, et, g1, g2, g3, g4, g5⟩ := (h1.box b cs (by rw [hbx]; exact hb)).resolve_left hne
      have hvl : (a.eval y).cells.toList.length = i.size := by rw [Array.length_toList]; omega
      have hst := run_storeCells_at P (bm b) p et (a.eval y).cells.toList 0 cur w g1 (by rw [hvl]; omega) hone
      have hrun : (execOp a.eval o).run P w = .ok .skip (w.setRow (bm b) (cur.toList.take p ++ (a.eval y).cells.toList ++ cur.toList.drop (p + i.size)).toArray) := by
        rw [Nat.add_zero, hvl] at hst
        simp [execOp, ho, hz, Instr.storeAt, Instr.sureAddr, storeVar, iX hi, hsz, ← hc1, hst]
      have hcl2 := Array.length_toList (xs := cur)
      obtain ⟨k1, k2⟩ := h1.setBox (b := b) (cs := cs) (cs' := cs.take p ++ (s.eval y).cells ++ cs.drop (p + i.size)) (cur' := (cur.toList.take p ++ (a.eval y).cells.toList ++ cur.toList.drop (p + i.size)).toArray)
        (w' := w.setRow (bm b) (cur.toList.take p ++ (a.eval y).cells.toList ++ cur.toList.drop (p + i.size)).toArray) (by rw [hbx]; exact hb) hne g1
        (by simp only [List.size_toArray, List.length_append, List.length_take, List.length_drop, hvl, hcl2]; omega) (by simp only [List.size_toArray, List.length_append, List.length_take, List.length_drop, hvl, hcl2]; omega) (fun k hk => setRow_other w _ k _ hk) (setRow_heap w _ cur _ et _ g1) (by simp) rfl rfl rfl
        (fun j c u hj hu => by
          rw [hal']
          have hj0 : j < cs.length := by
            have := (List.getElem?_eq_some_iff.1 hj).1
            simp only [List.length_append, List.length_take, List.length_drop] at this
            omega
          rw [List.append_assoc] at hj
          have hu' : (cur.toList.take p ++ ((a.eval y).cells.toList ++ cur.toList.drop (p + i.size)))[j]? = some u := by simpa using hu
          by_cases hjp : j < p
          · rw [List.getElem?_append_left (by rw [List.length_take]; omega), List.getElem?_take, if_pos hjp] at hj
            rw [List.getElem?_append_left (by rw [List.length_take]; omega), List.getElem?_take, if_pos hjp] at hu'
            have := g5 j c u hj (by simpa using hu')
            simp only [hbx] at this
            exact this
          · rw [List.getElem?_append_right (by rw [List.length_take]; omega), List.length_take, Nat.min_eq_left (by omega)] at hj
            rw [List.getElem?_append_right (by rw [List.length_take]; omega), List.length_take, Nat.min_eq_left (by omega)] at hu'
            by_cases hjn : j - p < i.size
            · rw [List.getElem?_append_left (by omega)] at hj
              rw [List.getElem?_append_left (by omega)] at hu'
              have := hcl (j - p) c u hj (by simpa using hu')
              rwa [show p + (j - p) = j by omega] at this
            · rw [List.getElem?_append_right (by omega), List.getElem?_drop] at hj
              rw [List.getElem?_append_right (by omega), List.getElem?_drop, hvl] at hu'
              rw [show p + i.size + (j - p - (s.eval y).cells.length) = j by omega] at hj
              rw [show p + i.size + (j - p - i.size) = j by omega] at hu'
              have := g5 j c u hj (by simpa using hu')
              simp only [hbx] at this
              exact this)
      unfold Oper.wp
      rw [hrun]
      refine hk _ _ ⟨F, _, bm, ?_, (aCa y (.box b p)).trans k2, fun _ _ => rfl, gQ _ _⟩
      rw [heq]
      exact Inv.put (a := a) k1 fun d _ => by simp only [aR, dF]
    · simp at he'
  · simp at he
end
end Go.Vs
end
section
set_option linter.unusedVariables false
set_option linter.unusedSimpArgs false
namespace Go.Vs
variable {m : Bool}
variable {P : Program} {N : Env}
section
variable {s : (St m)} {a : Act} {w : World} {F : Fr} {Ow : Own} {bm : Nat → Nat} {nt : Nat}
theorem Inv.newBox {tmps : Array Value} (h : Inv P s tmps w F N Ow bm) {d : Nat} (hd : aW s.boxes d = none) {cells : Array Value} (t : TypeId) {cs : List (SV m)} (hs : cells.size = cs.length)
    (hr : ∀ (j : Nat) (c : (SV m)) (u : Value), cs[j]? = some c → cells[j]? = some u → aR P w F N Ow bm s.al (.box d j) c u) :
    ∃ Ow', Inv P { s with boxes := s.boxes.set d (some cs) } tmps (w.alloc (.cells cells t)) F N Ow' (fun b => if b = d then w.heap.size else bm b) ∧ Far N w F Ow (w.alloc (.cells cells t)) F Ow' := by
  obtain ⟨W, hsz, hnew⟩ := aNH (F := F) (w := w) (o := .cells cells t) (h.new _ (Nat.le_refl _)).1 (.inl rfl)
  have hk : eN N w F (w.alloc (.cells cells t)) F := by
    refine .mk' (fun k j hj => ?_) (fun _ => Nat.le_refl _) (nG.but w.heap.size W.block fun hh => absurd hh (Nat.lt_irrefl _)) (BSz.but w.heap.size W.block (aFP (Nat.le_refl _)))
    by_cases hks : k < w.heap.size
    · simp only [World.cell?, W.block k hks (by omega)]
    · rw [(h.new k (by omega)).1] at hj; omega
  have hlt : ∀ k loc, Ow k = some loc → k < w.heap.size := by
    intro k loc hk'
    rcases Nat.lt_or_ge k w.heap.size with h' | h'
    · exact h'
    · rw [(h.new k h').2] at hk'; simp at hk'
  have hbm : ∀ b, s.al b = true → (if b = d then w.heap.size else bm b) = bm b := by
    intro b hb
    rw [if_neg]
    rintro rfl
    simp [St.al, hd] at hb
  let Ow' : Own := fun k => if k = w.heap.size then some (.blk d) else Ow k
  have ho : ∀ k loc, Ow k = some loc → (w.alloc (.cells cells t)).heap[k]? = w.heap[k]? ∧ F k = F k ∧ Ow' k = some loc := by
    intro k loc hk'
    have := hlt k loc hk'
    exact ⟨W.block k this (by omega), rfl, by simp [Ow', show k ≠ w.heap.size by omega, hk']⟩
  have h1 := h.to (w' := w.alloc (.cells cells t)) (F' := F) (Ow' := Ow') (bm' := fun b => if b = d then w.heap.size else bm b) hk W.size hbm (fun k loc hk' _ => ho k loc hk') (fun k hk' => by
    have := h.new k (by omega)
    exact ⟨this.1, by simp [Ow', show k ≠ w.heap.size by omega, this.2]⟩) (fun k hz => by
    have hks := Nat.lt_of_lt_of_le (N.lt k hz) h.low.le
    exact ⟨by simp [Ow', show k ≠ w.heap.size by omega, (h.zow k hz).1], by rw [W.block k hks (by omega)]; exact (h.zow k hz).2⟩)
  have h2 := h1.addBox (d := d) (cs := cs) (cur := cells) (e := t) hd (by simpa using hnew) (by omega) (by simpa using (h.new _ (Nat.le_refl _)).1) (by simp [Ow']) (by simpa using h.low.le) (fun j c u hc hu => by
    exact (hr j c u hc hu).to hk (fun b hb => ⟨hbm b hb, hb⟩) fun _ k hk' => ho k _ hk')
  exact ⟨Ow', h2, ⟨W.os, W.tape, W.output, W.size, hk, fun k hks hko => ⟨fun _ => W.block k hks (by omega), rfl, by simp [Ow', show k ≠ w.heap.size by omega, hko]⟩⟩⟩
theorem aSN (h : Inv P s a.tmps w F N Ow bm) (hnt : nt ≤ s.boxes.length) {o : Oper} {mv : Bool} {t : TypeId} {x : Operand} {e : (Eff m)} {D : (bK m)} {pu ta : Bool} (ho : o.op = .box t x) (he : cV P D nt mv pu ta o s.eval s.boxes = some e)
    {next : Act → World → Prop} {Q : Exit → Act → World → Prop} (hk : ∀ a' w', kS P N nt (e.app s) a w F Ow bm a' w' → next a' w') : o.wp P a w next Q := by
  simp only [cV, ho] at he
  split at he
  · rename_i d hdst
    split at he
    · rename_i hb
      obtain ⟨hg, he'⟩ := aU he
      clear he
      simp only [Option.some.injEq] at he'
      subst he'
      simp only [Bool.and_eq_true, decide_eq_true_eq] at hg
      have hd : (d : Nat) < nt := hg.1
      obtain ⟨h1, h2⟩ := h.take (a := a) rfl x (.box d 0)
      have hbx : (s.take x).boxes = s.boxes := aNY x
      obtain ⟨hsz, hone, hcl⟩ := aOk (locf := fun j => .box d j) rfl h2 hg.2
      obtain ⟨Ow', k1, k2⟩ := h1.newBox (d := d) (by rw [hbx]; exact hb) t hsz (fun j c u hc hu => by
        have hal : (s.take x).al = s.al := by cases x <;> rfl
        rw [hal]; exact hcl j c u hc hu)
      have hrun : (execOp a.eval o).run P w = .ok (.value (.pointer (some ⟨w.heap.size, 0, none⟩))) (w.alloc (.cells (a.eval x).cells t)) := by
        simp [execOp, ho, Instr.box, newVar, newRow]
      unfold Oper.wp
      rw [hrun]
      refine hk _ _ ⟨F, Ow', fun b => if b = d then w.heap.size else bm b, ?_, (aCa x _).trans k2, fun b hb' => if_neg (fun hbd : b = d => absurd hd (Nat.not_lt.2 (hbd ▸ hb'))), gQ _ _⟩
      have : ((⟨kG s.eval x ++ [(d, .ptr d 0)], some (s.boxes.set d (some (s.eval x).cells))⟩ : (Eff m)).app s) = ({ (s.take x) with boxes := (s.take x).boxes.set d (some (s.eval x).cells) } : (St m)).put (some d) (.ptr d 0) := by
        rw [tM]
        cases x <;> simp [St.take, St.takes, Eff.app, jV, qJ]
      rw [this, hdst]
      refine Inv.put (a := a) k1 fun dd hdd => ?_
      simp only [aR, dF]
      refine ⟨by simp, ?_⟩
      show (aW ((s.take x).boxes.set d (some (s.eval x).cells)) d).isSome = true
      rw [eS (by rw [hbx]; exact Nat.lt_of_lt_of_le hd hnt)]; rfl
    · simp at he
  · simp at he
theorem aDj {t : TypeId} : ∀ (j : Nat) (ls : List (aC m)), (aAq P t j ls).length = ls.length
  | _, [] => rfl
  | j, l :: ls => by simp [aAq, aDj (j + 1) ls]
theorem aSc {t : TypeId} : ∀ (vs : List Value) (i : Nat) (loc : Nat → Loc) (ls : List (aC m)), fY vs = some ls → ∀ (j : Nat) (c : (SV m)) (u : Value), (aAq P t i ls)[j]? = some c → vs[j]? = some u → aR P w F N Ow bm s.al (loc j) c u := by
  intro vs
  induction vs with
  | nil => intro i loc ls h j c u hc hu; simp at hu
  | cons v vs ih =>
    intro i loc ls h j c u hc hu
    simp only [fY] at h
    rw [Option.bind_eq_some_iff] at h
    obtain ⟨l, hl, h⟩ := h
    rw [Option.map_eq_some_iff] at h
    obtain ⟨ls', hls, rfl⟩ := h
    cases j with
    | succ j => exact ih (i + 1) (fun j => loc (j + 1)) ls' hls j c u (by simpa [aAq] using hc) (by simpa using hu)
    | zero =>
      simp [aAq] at hc hu
      subst hc hu
      unfold aA5 at hl
      split at hl <;> simp at hl <;> subst hl
      · exact aR.leaf (.bool _)
      · exact aR.leaf (.int _ _)
      · exact aR.leaf (.str _)
      · exact aR.own_nil
theorem aQN {t : TypeId} {cs : List (SV m)} (h : aMN P t = some cs) : ∃ inf zv, P.info? t = some inf ∧ inf.zero = some zv ∧ zv.cells.size = cs.length ∧ ∀ (loc : Nat → Loc) (j : Nat) (c : (SV m)) (u : Value), cs[j]? = some c → zv.cells[j]? = some u → aR P w F N Ow bm s.al (loc j) c u := by
  unfold aMN at h
  split at h
  · rename_i z hz
    obtain rfl := Option.some.inj h
    obtain ⟨inf, zv, hinf, hzv, hzl⟩ := xA hz
    have hlen := (vK w F (N := N) _ _ hzl).1
    exact ⟨inf, zv, hinf, hzv, by rw [aDj]; simpa using hlen, fun loc j c u hc hu => aSc _ 0 loc _ hzl j c u hc (by simpa using hu)⟩
  · rw [Option.map_eq_some_iff] at h
    obtain ⟨zv, hz, rfl⟩ := h
    rw [Option.bind_eq_some_iff] at hz
    obtain ⟨inf, hinf, hzv⟩ := hz
    refine ⟨inf, zv, hinf, hzv, by simp, fun loc j c u hc hu => ?_⟩
    rw [List.getElem?_replicate] at hc
    split at hc
    · obtain rfl := Option.some.inj hc
      simp only [aR, dF]
    · simp at hc
theorem aPw (h : Inv P s a.tmps w F N Ow bm) (hnt : nt ≤ s.boxes.length) {o : Oper} {mv : Bool} {t : TypeId} {e : (Eff m)} {D : (bK m)} {pu ta : Bool} (ho : o.op = .alloc t) (he : cV P D nt mv pu ta o s.eval s.boxes = some e)
    {next : Act → World → Prop} {Q : Exit → Act → World → Prop} (hk : ∀ a' w', kS P N nt (e.app s) a w F Ow bm a' w' → next a' w') : o.wp P a w next Q := by
  simp only [cV, ho] at he
  split at he
  · rename_i d hdst
    split at he
    · rename_i hb
      obtain ⟨hg, he'⟩ := aU he
      clear he
      rw [Option.map_eq_some_iff] at he'
      obtain ⟨z, hz, rfl⟩ := he'
      have hd : (d : Nat) < nt := of_decide_eq_true hg
      obtain ⟨inf, zv, hinf, hzv, hlen, hcl⟩ := aQN (w := w) (F := F) (N := N) (Ow := Ow) (bm := bm) (s := s) hz
      obtain ⟨Ow', k1, k2⟩ := h.newBox (d := d) (cells := zv.cells) (cs := z) hb t hlen (fun j c u hc hu => hcl (fun j => .box d j) j c u hc (by simpa using hu))
      have hrun : (execOp a.eval o).run P w = .ok (.value (.pointer (some ⟨w.heap.size, 0, none⟩))) (w.alloc (.cells zv.cells t)) := by
        simp [execOp, ho, Instr.alloc, zeroValue, typeInfo, hinf, hzv, newVar, newRow]
      unfold Oper.wp
      rw [hrun]
      refine hk _ _ ⟨F, Ow', fun b => if b = d then w.heap.size else bm b, ?_, k2, fun b hb' => if_neg (fun hbd : b = d => absurd hd (Nat.not_lt.2 (hbd ▸ hb'))), gQ _ _⟩
      have : ((⟨[(d, .ptr d 0)], some (s.boxes.set d (some (z)))⟩ : (Eff m)).app s) = ({ s with boxes := s.boxes.set d (some (z)) } : (St m)).put (some d) (.ptr d 0) := by
        rw [tM]; rfl
      rw [this, hdst]
      refine Inv.put (a := a) k1 fun dd hdd => ?_
      simp only [aR, dF]
      refine ⟨by simp, ?_⟩
      show (aW (s.boxes.set d (some (z))) d).isSome = true
      rw [eS (Nat.lt_of_lt_of_le hd hnt)]; rfl
    · simp at he
  · simp at he
theorem aCJ {α : Type} {ze : List α} : ∀ (n j : Nat), j < n * ze.length → (List.replicate n ze).flatten[j]? = ze[j % ze.length]?
  | 0, j, h => by omega
  | n + 1, j, h => by
    rw [List.replicate_succ, List.flatten_cons]
    by_cases hj : j < ze.length
    · rw [List.getElem?_append_left hj, Nat.mod_eq_of_lt hj]
    · have hmul : (n + 1) * ze.length = n * ze.length + ze.length := Nat.succ_mul _ _
      rw [List.getElem?_append_right (by omega), aCJ n (j - ze.length) (by omega), ← Nat.mod_eq_sub_mod (by omega)]
theorem aRl (h : Inv P s a.tmps w F N Ow bm) (hnt : nt ≤ s.boxes.length) {o : Oper} {mv : Bool} {t : TypeId} {x y : Operand} {e : (Eff m)} {D : (bK m)} {pu ta : Bool} (ho : o.op = .makeSlice t x y) (he : cV P D nt mv pu ta o s.eval s.boxes = some e)
    {next : Act → World → Prop} {Q : Exit → Act → World → Prop} (hk : ∀ a' w', kS P N nt (e.app s) a w F Ow bm a' w' → next a' w') : o.wp P a w next Q := by
  simp only [cV, ho] at he
  split at he
  · rename_i d hdst
    split at he
    · rename_i hb
      obtain ⟨hg, he'⟩ := aU he
      clear he
      rw [Option.map_eq_some_iff] at he'
      obtain ⟨⟨⟨z, n⟩, cs⟩, hp, rfl⟩ := he'
      have hd : (d : Nat) < nt := of_decide_eq_true hg
      unfold aNP at hp
      split at hp
      · rename_i k1 n1 k2 n2 ex ey
        rw [Option.bind_eq_some_iff] at hp
        obtain ⟨et, het, hp⟩ := hp
        rw [Option.bind_eq_some_iff] at hp
        obtain ⟨i, hi, hp⟩ := hp
        rw [Option.bind_eq_some_iff] at hp
        obtain ⟨ze, hze, hp⟩ := hp
        split at hp
        · rename_i hc
          obtain ⟨⟨h0, hab⟩, ⟨hi0, hby, hle⟩, hzl⟩ := hc
          subst hab
          simp only [Option.some.injEq, Prod.mk.injEq] at hp
          obtain ⟨⟨rfl, rfl⟩, rfl⟩ := hp
          obtain ⟨inf, zv, hinf, hzv, hlv⟩ := xA hze
          rw [hi] at hinf
          cases hinf
          have hrz := vK w F (N := N) _ _ hlv
          have hzs : zv.cells.size = i.size := by have := hrz.1; simp at this; omega
          have vx := lT ((h.eval (a := a) rfl x).leafOf _ (aBG ex))
          have vy := lT ((h.eval (a := a) rfl y).leafOf _ (aBG ey))
          have hmb : aK = 140737488355328 := rfl
          have hrun0 := run_make (P := P) w t et i zv (uN het) hi hzv k1 k2 n1 n1 h0 (Int.le_refl _) (by
            have h1 : ((n1.toNat * i.bytes : Nat) : Int) ≤ 140737488355328 := by omega
            rw [Int.natCast_mul, Int.toNat_of_nonneg h0] at h1
            rw [Int.mul_comm]; omega) (by omega)
          have hlen : (List.replicate n1.toNat ze).flatten.length = n1.toNat * i.size := by
            simp [hzl]
          obtain ⟨Ow', q1, q2⟩ := h.newBox (d := d) (cells := madeCells zv.cells (n1.toNat * i.size)) (cs := (List.replicate n1.toNat ze).flatten.map .leaf) hb et
            (by rw [size_madeCells, List.length_map, hlen]) (fun j c u hc hu => by
              rw [List.getElem?_map, Option.map_eq_some_iff] at hc
              obtain ⟨l, hl, rfl⟩ := hc
              have hj : j < n1.toNat * i.size := by have := (List.getElem?_eq_some_iff.1 hl).1; omega
              rw [aCJ _ _ (by rw [hzl]; exact hj), hzl] at hl
              have hjm : j % i.size < zv.cells.size := by rw [hzs]; exact Nat.mod_lt _ hi0
              have hu' : u = zv.cells[j % zv.cells.size]! := by simpa [madeCells, hj] using hu.symm
              rw [hzs] at hu'
              subst hu'
              refine aR.leaf (hrz.2 (j % i.size) l _ hl ?_)
              simp [hjm])
          have hrun : (execOp a.eval o).run P w = .ok (.value (.slice (some ⟨w.heap.size, 0, none⟩) n1.toNat n1.toNat)) (w.alloc (.cells (madeCells zv.cells (n1.toNat * i.size)) et)) := by
            simp [execOp, ho, vx, vy, hrun0]
          unfold Oper.wp
          rw [hrun]
          refine hk _ _ ⟨F, Ow', fun b => if b = d then w.heap.size else bm b, ?_, q2, fun b hb' => if_neg (fun hbd : b = d => absurd hd (Nat.not_lt.2 (hbd ▸ hb'))), gQ _ _⟩
          have : ((⟨[(d, .bsl d i.size 0 n1.toNat)], some (s.boxes.set d (some ((List.replicate n1.toNat ze).flatten.map .leaf)))⟩ : (Eff m)).app s) = ({ s with boxes := s.boxes.set d (some ((List.replicate n1.toNat ze).flatten.map .leaf)) } : (St m)).put (some d) (.bsl d i.size 0 n1.toNat) := by
            rw [tM]; rfl
          rw [this, hdst]
          refine Inv.put (a := a) q1 fun dd hdd => ?_
          simp only [aR, dF]
          refine ⟨.inr ⟨n1.toNat, by simp, Nat.le_refl _⟩, ?_⟩
          show (aW (s.boxes.set d (some ((List.replicate n1.toNat ze).flatten.map .leaf))) d).isSome = true
          rw [eS (Nat.lt_of_lt_of_le hd hnt)]; rfl
        · simp at hp
      · simp at hp
    · simp at he
  · simp at he
theorem aJV (h : Inv P s a.tmps w F N Ow bm) : ∀ (ps : List (Nat × Operand)), aFw w F N (ps.map fun p => (p.1, s.eval p.2)) (ps.map fun p => (p.1, a.eval p.2))
  | [] => .nil
  | p :: ps => .cons (fun l hl => aRb (h.eval rfl p.2) l hl) (aJV h ps)
def SV.mkO (q : Bool) (e : Option TypeId) (es : List (List (aC m))) : SV m := match q with | true => .raw e es | false => .own e es
theorem aHI (h : Inv P s a.tmps w F N Ow bm) {s' : (St m)} {F0 : Fr} {Ow0 : Own} (h' : Inv P s' a.tmps w F N Ow0 bm) (hal : s'.al = s.al) (hf : Far N w F0 Ow w F Ow0) {dst : Option Tmp} {e : TypeId} {i : TypeInfo} {es : List (List (aC m))} {z : Value} {w' : World} {g : Nat} {loc : Loc}
    (hi : P.info? e = some i) (h0 : 0 < i.size) (G : aOP P w w' F N e i es z g) (hg : (Ow0 g = some loc ∧ ¬ s'.holds loc) ∨ g = w.heap.size) (hN : N.n ≤ g) (q : Bool) (hq : q = true → F g = 0) (hbs : ∀ n, BSz w g n → BSz w' g n) :
    kS P N nt (s'.put dst (SV.mkO q (some e) es)) a w F0 Ow bm (a.put dst z) w' := by
  obtain ⟨F', Ow', k1, k2, k3⟩ := h'.grown (to := .tmp (dst.getD 0)) hi h0 G hg hN q hq hbs
  refine ⟨F', Ow', bm, Inv.put (a := a) k1 fun d hd => ?_, hf.trans k2, fun _ _ => rfl, gQ _ _⟩
  subst hd
  cases q <;> exact k3
theorem aJJ (h : Inv P s a.tmps w F N Ow bm) {o : Oper} {mv : Bool} {t : TypeId} {n : Nat} {parts : Array (Nat × Operand)} {e : (Eff m)} {D : (bK m)} {pu ta : Bool} (ho : o.op = .buildSlice t n parts) (he : cV P D nt mv pu ta o s.eval s.boxes = some e)
    {next : Act → World → Prop} {Q : Exit → Act → World → Prop} (hk : ∀ a' w', kS P N nt (e.app s) a w F Ow bm a' w' → next a' w') : o.wp P a w next Q := by
  simp only [cV, ho, Option.map_eq_some_iff] at he
  obtain ⟨v, hv, rfl⟩ := he
  obtain ⟨z, w', et, i, es, hrun, rfl, hi, h0, G⟩ := aDw (N := N) (F := F) (w := w) (qs := parts.map fun p => (p.1, a.eval p.2)) (h.new _ (Nat.le_refl _)).1 hv (by simpa using aJV h parts.toList)
  have hr : (execOp a.eval o).run P w = .ok (.value z) w' := by
    simp only [execOp, ho]
    simp [hrun]
  unfold Oper.wp
  rw [hr]
  refine hk _ _ ?_
  rw [aJa]
  exact aHI h h rfl (Far.refl _ _ _) (loc := .blk 0) hi h0 G (.inr rfl) h.low.le false (fun h => by simp at h) (aFP (Nat.le_refl _))
theorem aSu {loc : Loc} {x : (SV m)} {v : Value} (h : dF w F N bm s.al x v) : aR P w F N Ow bm s.al loc x.drop v := by
  cases x <;> first | exact h.elim | (simp only [SV.drop, aR]; exact h)
theorem aCi (h : Inv P s a.tmps w F N Ow bm) {x : Option Operand} {l : Option Nat} (hl : kR s.eval x = some l) : aCy (x.map a.eval) l := by
  cases x with
  | none => simp [kR] at hl; subst hl; exact .inl ⟨rfl, rfl⟩
  | some x =>
    simp only [kR, Option.map_eq_some_iff] at hl
    obtain ⟨n, hn, rfl⟩ := hl
    obtain ⟨k, hk⟩ := aR8 hn (fun l hl => (h.eval (a := a) rfl x).leafOf l (aBG hl))
    exact .inr ⟨k, n, by simp [hk], rfl⟩
theorem aMm {t : Tmp} : ¬ (s.take (.tmp t)).holds (.tmp t) := by
  rw [aFR]
  show ¬ jK ((s.tmps.set t (s.tmps.getD t .any).drop).getD t .any) = true
  by_cases hl : t < s.tmps.length
  · rw [List.getD_eq_getElem?_getD, List.getElem?_set_self hl]; simp [qP]
  · rw [List.getD_eq_getElem?_getD, List.getElem?_eq_none (by simpa using hl)]; simp [jK]
theorem aKZ (h : Inv P s a.tmps w F N Ow bm) {o : Oper} {c : Call} {x y : Operand} (ho : o.op = .call c) (hc : c.callee = .builtin .append) (hargs : c.args.toList = [x, y]) (q : Bool)
    {next : Act → World → Prop} {Q : Exit → Act → World → Prop} {v : SV m} (hk : ∀ a' w', kS P N nt ((⟨kG s.eval x ++ qJ o.dst v, none⟩ : (Eff m)).app s) a w F Ow bm a' w' → next a' w') {t u : TypeId} {eo : Option TypeId} {es : List (List (aC m))} (hat0 : c.argTypes.toList = [t, u]) (hxe : s.eval x = SV.mkO q eo es)
    (hv : ((oY P t).bind fun e => (P.info? e).bind fun i => aA (eo.getD e == e && decide (0 < i.size) && decide (0 < i.bytes) && pK P e) <|
      match P.underlying u, (s.eval y).see with
      | some (.slice _), .leaf (.sl _ fs) => if t = u ∧ (es.length + fs.length) * i.bytes ≤ aK then aA (sized i.size fs) (some (SV.mkO q (some e) (es ++ fs))) else none
      | some .string, .leaf (.str s) => if es.length + s.size ≤ aK then aA (xW P e) (some (SV.mkO q (some e) (es ++ s.data.toList.map fun b => [.int .u8 b.toNat]))) else none
      | _, _ => none) = some v) : o.wp P a w next Q := by
  have hargs' : c.args = #[x, y] := by rw [← hargs]
  have hat : c.argTypes = #[t, u] := by rw [← hat0]
  rw [Option.bind_eq_some_iff] at hv
  obtain ⟨et, het, hv⟩ := hv
  rw [Option.bind_eq_some_iff] at hv
  obtain ⟨i, hi, hv⟩ := hv
  obtain ⟨hgd, hv'⟩ := aU hv
  clear hv
  simp only [Bool.and_eq_true, beq_iff_eq, decide_eq_true_eq] at hgd
  obtain ⟨⟨⟨heo, h0⟩, hby⟩, hzs⟩ := hgd
  have htu := uN het
  have hx := h.eval (a := a) rfl x
  rw [hxe] at hx
  have hO : lO P w F N Ow (aEQ x) q eo es (a.eval x) := by cases q <;> exact hx
  have hy := h.eval (a := a) rfl y
  obtain ⟨h1, _⟩ := h.take (a := a) rfl x (aEQ x)
  have hmv : aDv x (aEQ x) Ow = Ow := by
    cases x with
    | tmp t => funext g; simp only [aDv, aEQ]; split <;> simp_all
    | _ => rfl
  rw [hmv] at h1
  have hal : (s.take x).al = s.al := by cases x <;> rfl
  have fin : ∀ (fs' : List (List (aC m))) (z : Value) (w' : World), (execOp a.eval o).run P w = .ok (.value z) w' → ((z = .slice none 0 0 ∧ fs' = [] ∧ w' = w) ∨ ∃ g, aOP P w w' F N et i fs' z g ∧ N.n ≤ g ∧ ((Ow g = some (aEQ x) ∧ (a.eval x).ownBlock = some g) ∨ g = w.heap.size) ∧ (q = true → F g = 0) ∧ ∀ n, BSz w g n → BSz w' g n) →
      v = SV.mkO q (some et) fs' → o.wp P a w next Q := by
    intro fs' z w' hrun hcase hve
    unfold Oper.wp
    rw [hrun]
    refine hk _ _ ?_
    rw [aQx, hve]
    rcases hcase with ⟨rfl, rfl, rfl⟩ | ⟨g, G, hN, hg, hqF, hbs⟩
    · exact ⟨F, Ow, bm, Inv.put (a := a) h1 fun d _ => by cases q <;> (simp only [SV.mkO, aR]; exact .inl ⟨rfl, rfl⟩), Far.refl _ _ _, fun _ _ => rfl, gQ _ _⟩
    · cases x with
      | tmp t =>
        refine aHI (s' := s.take (.tmp t)) (loc := .tmp t) h h1 hal (Far.refl _ _ _) hi h0 G ?_ hN q hqF hbs
        rcases hg with ⟨hg, _⟩ | hg
        · exact .inl ⟨hg, aMm⟩
        · exact .inr hg
      | const cv =>
        have hnil : a.eval (.const cv) = .slice none 0 0 ∧ es = [] := by
          simp only [St.eval] at hxe
          unfold aFN at hxe
          split at hxe <;> cases q <;> simp [SV.mkO] at hxe
          obtain ⟨_, rfl⟩ := hxe
          exact ⟨rfl, rfl⟩
        rcases hg with ⟨_, hg⟩ | hg
        · rw [hnil.1] at hg
          simp [Value.ownBlock] at hg
        · exact aHI (s' := s.take (.const cv)) (loc := .blk 0) h h1 hal (Far.refl _ _ _) hi h0 G (.inr hg) hN q hqF hbs
      | global g' => cases q <;> simp [St.eval, SV.mkO] at hxe
      | func f => cases q <;> simp [St.eval, SV.mkO] at hxe
  split at hv'
  · rename_i e2 c2 fs hu hye
    split at hv'
    · rename_i hcond
      obtain ⟨htu2, hb⟩ := hcond
      subst htu2
      obtain ⟨hsz, hv2⟩ := aU hv'
      simp only [Option.some.injEq] at hv2
      obtain ⟨z, w', hrun, hcase⟩ := aBH (ty := o.type) (fun g hg => (h.new g hg).1) h.low.le hO heo (hy.seeOf _ hye) htu hi hzs h0 hby (aFV hsz) hb
      exact fin (es ++ fs) z w' (by simp [execOp, ho, resolve, hc, invoke, builtin, hargs', hat, hrun]) hcase hv2.symm
    · simp at hv'
  · rename_i st hu hye
    split at hv'
    · rename_i hb
      obtain ⟨hzb, hv2⟩ := aU hv'
      simp only [Option.some.injEq] at hv2
      have hys := rT (show eB w F N (.str st) (a.eval y) from hy.seeOf _ hye)
      obtain ⟨z, w', hrun, hcase⟩ := aIZ (ty := o.type) (fun g hg => (h.new g hg).1) h.low.le hO heo htu hu hi hzb hb
      exact fin _ z w' (by simp [execOp, ho, resolve, hc, invoke, builtin, hargs', hat, hys, hrun]) hcase hv2.symm
    · simp at hv'
  · simp at hv'
theorem aOs (h : Inv P s a.tmps w F N Ow bm) {o : Oper} {mv : Bool} {c : Call} {x y : Operand} {e : (Eff m)} {D : (bK m)} {pu ta : Bool} (ho : o.op = .call c) (hc : c.callee = .builtin .append) (hargs : c.args.toList = [x, y])
    (he : cV P D nt mv pu ta o s.eval s.boxes = some e) {next : Act → World → Prop} {Q : Exit → Act → World → Prop} (hk : ∀ a' w', kS P N nt (e.app s) a w F Ow bm a' w' → next a' w') : o.wp P a w next Q := by
  simp only [cV, ho, hc, hargs, Option.map_eq_some_iff] at he
  obtain ⟨v, hv, rfl⟩ := he
  unfold aCE at hv
  split at hv
  · rename_i t u eo es hat0 hxe
    exact aKZ h ho hc hargs false hk hat0 hxe hv
  · rename_i t u eo es hat0 hxe
    exact aKZ h ho hc hargs true hk hat0 hxe hv
  · simp at hv
end
end Go.Vs
end
section
namespace Go.Vs
variable {m : Bool}
variable {P : Program} {N : Env}
theorem aSM {l : List Nat} {b c : Nat} : c ∈ aKR l b ↔ c ∈ l ∨ c = b := by
  unfold aKR
  split
  · rename_i h
    constructor
    · exact .inl
    · rintro (h' | rfl)
      · exact h'
      · simpa using h
  · simp
theorem aPL {l : List Nat} {b : Nat} (h : l.Nodup) : (aKR l b).Nodup := by
  unfold aKR
  split
  · exact h
  · rename_i hb
    rw [List.nodup_append]
    refine ⟨h, by simp, fun x hx y hy => ?_⟩
    simp at hy
    subst hy
    rintro rfl
    exact hb (by simpa using hx)
theorem aK7 (m : List Nat) : ∀ (l : List Nat), (l.Nodup → (m.foldl aKR l).Nodup) ∧ ∀ c, c ∈ m.foldl aKR l ↔ c ∈ l ∨ c ∈ m := by
  induction m with
  | nil => intro l; exact ⟨id, fun c => by simp⟩
  | cons b m ih =>
    intro l
    obtain ⟨h1, h2⟩ := ih (aKR l b)
    refine ⟨fun h => h1 (aPL h), fun c => ?_⟩
    rw [List.foldl_cons, h2 c, aSM, List.mem_cons]
    constructor
    · rintro ((h | h) | h)
      · exact .inl h
      · exact .inr (.inl h)
      · exact .inr (.inr h)
    · rintro (h | h | h)
      · exact .inl (.inl h)
      · exact .inl (.inr h)
      · exact .inr h
theorem aKT (args : List (SV m)) : (jM args).Nodup := (aK7 _ []).1 List.nodup_nil
theorem aNS {args : List (SV m)} {c : Nat} : c ∈ jM args ↔ ∃ x ∈ args, c ∈ x.boxIds := by
  unfold jM
  rw [(aK7 _ []).2 c]
  simp
theorem aAY : ∀ {l : List Nat} {b : Nat}, b ∈ l → l[gV l b]? = some b
  | [], _, h => by simp at h
  | x :: l, b, h => by
    unfold gV
    rw [List.findIdx_cons]
    by_cases hx : x = b
    · simp [hx]
    · have : (x == b) = false := by simpa using hx
      rw [this]
      simp only [cond_false, List.getElem?_cons_succ]
      exact aAY (List.mem_of_ne_of_mem (fun e => hx e.symm) h)
theorem aMH : ∀ {l : List Nat} {i b : Nat}, l.Nodup → l[i]? = some b → gV l b = i
  | [], _, _, _, h => by simp at h
  | x :: l, 0, b, _, h => by simp at h; subst h; simp [gV, List.findIdx_cons]
  | x :: l, i + 1, b, hn, h => by
    have hb : l[i]? = some b := by simpa using h
    have hx : (x == b) = false := by
      rw [List.nodup_cons] at hn
      simp only [beq_eq_false_iff_ne, ne_eq]
      rintro rfl
      exact hn.1 (List.mem_of_getElem? hb)
    unfold gV
    rw [List.findIdx_cons, hx]
    simp only [cond_false]
    have := aMH (List.nodup_cons.1 hn).2 hb
    unfold gV at this
    rw [this]
theorem uB : ∀ {bs : (gU m)} {ids : List Nat} {cs : List (List (SV m))}, sF bs ids = some cs → cs.length = ids.length ∧ ∀ (i b : Nat), ids[i]? = some b → ∃ c, cs[i]? = some c ∧ aW bs b = some c
  | bs, [], cs, h => by simp [sF] at h; subst h; simp
  | bs, b :: ids, cs, h => by
    simp only [sF] at h
    rw [Option.bind_eq_some_iff] at h
    obtain ⟨c, hc, h⟩ := h
    rw [Option.map_eq_some_iff] at h
    obtain ⟨cs', hcs, rfl⟩ := h
    obtain ⟨h1, h2⟩ := uB hcs
    refine ⟨by simp [h1], fun i b' hi => ?_⟩
    cases i with
    | zero => simp at hi; subst hi; exact ⟨c, rfl, hc⟩
    | succ i => simpa using h2 i b' (by simpa using hi)
theorem yG : ∀ (ids : List Nat) (cs : List (List (SV m))) (bs : (gU m)) (b : Nat), b ∉ ids → aW (iO bs ids cs) b = aW bs b
  | [], cs, bs, b, _ => by cases cs <;> rfl
  | c :: ids, [], bs, b, _ => rfl
  | c :: ids, x :: cs, bs, b, h => by
    simp only [List.mem_cons, not_or] at h
    rw [iO, yG ids cs _ b h.2, iW h.1]
theorem aDt : ∀ (ids : List Nat) (cs : List (List (SV m))) (bs : (gU m)), (iO bs ids cs).length = bs.length
  | [], cs, bs => by cases cs <;> rfl
  | c :: ids, [], bs => rfl
  | c :: ids, x :: cs, bs => by rw [iO, aDt]; simp
theorem aEO : ∀ (ids : List Nat) (cs : List (List (SV m))) (bs : (gU m)) (i b : Nat) (c : List (SV m)), ids.Nodup → ids[i]? = some b → cs[i]? = some c → b < bs.length → aW (iO bs ids cs) b = some c
  | [], _, _, _, _, _, _, h, _, _ => by simp at h
  | _ :: _, [], _, _, _, _, _, _, h, _ => by simp at h
  | x :: ids, y :: cs, bs, 0, b, c, hn, hi, hc, hb => by
    simp at hi hc
    subst hi hc
    rw [iO, yG ids cs _ _ (List.nodup_cons.1 hn).1, eS hb]
  | x :: ids, y :: cs, bs, i + 1, b, c, hn, hi, hc, hb => by
    rw [iO]
    exact aEO ids cs _ i b c (List.nodup_cons.1 hn).2 (by simpa using hi) (by simpa using hc) (by simpa using hb)
theorem aWf {w : World} {F : Fr} {bm bm' : Nat → Nat} {al al' : Nat → Bool} {f : Nat → Nat} {b o : Nat} {v : Value} (h : dF (m := m) w F N bm al (.ptr b o) v) (hb : bm' (f b) = bm b ∧ al' (f b) = true) : dF (m := m) w F N bm' al' (.ptr (f b) o) v := by
  simp only [dF] at h ⊢
  exact ⟨by rw [hb.1]; exact h.1, hb.2⟩
theorem aV9 {w : World} {F : Fr} {bm bm' : Nat → Nat} {al al' : Nat → Bool} {f : Nat → Nat} {g : FuncId} {cs : List (Option (Nat × Nat))} {v : Value} (h : dF (m := m) w F N bm al (.kfn g cs) v) (hb : ∀ b ∈ aJX cs, bm' (f b) = bm b ∧ al' (f b) = true) :
    dF (m := m) w F N bm' al' (.kfn g (aO9 f cs)) v := by
  obtain ⟨g', o, vs, e, ho, hc, hs, hr⟩ := h
  refine ⟨g', o, vs, e, ho, hc, by simp [aO9, hs], fun j c u hj hu => ?_⟩
  simp only [aO9, List.getElem?_map, Option.map_eq_some_iff] at hj
  obtain ⟨c0, hc0, rfl⟩ := hj
  have := hr j c0 u hc0 hu
  cases c0 with
  | none => exact this
  | some p =>
    obtain ⟨e', ha⟩ := this
    obtain ⟨h1, h2⟩ := hb p.1 (List.mem_flatMap.2 ⟨_, List.mem_of_getElem? hc0, by simp⟩)
    exact (show u = .pointer (some ⟨bm' (f p.1), p.2, none⟩) ∧ al' (f p.1) = true from ⟨by rw [h1]; exact e', h2⟩)
theorem aR.handed {w : World} {F : Fr} {Ow Ow' : Own} {bm bm' : Nat → Nat} {al al' : Nat → Bool} {loc loc' : Loc} {x : (SV m)} {v : Value} {f : Nat → Nat} (h : aR P w F N Ow bm al loc x v) (hx : x.handed = true)
    (hb : ∀ b ∈ x.boxIds, bm' (f b) = bm b ∧ al' (f b) = true) (ho : jK x = true → ∀ g, Ow g = some loc → Ow' g = some loc') : aR P w F N Ow' bm' al' loc' (x.ren f) v := by
  cases x with
  | ptr b o =>
    simp only [aR] at h
    exact (show dF w F N bm' al' (.ptr (f b) o) v from aWf h (hb b (by simp [SV.boxIds])))
  | bsl b z lo n =>
    simp only [aR] at h
    obtain ⟨h1, h2⟩ := hb b (by simp [SV.boxIds])
    exact (show aDi bm' al' (f b) z lo n v from ⟨(show aDi bm al b z lo n v from h).1.imp id fun ⟨cap, e, hc⟩ => ⟨cap, by rw [h1]; exact e, hc⟩, h2⟩)
  | fn g caps =>
    obtain ⟨vs, e, hs, hc⟩ := h
    refine ⟨vs, e, by simpa using hs, fun j c u hj hu => ?_⟩
    simp only [List.getElem?_map, Option.map_eq_some_iff] at hj
    obtain ⟨c', hc', rfl⟩ := hj
    have h0 := hc j c' u hc' hu
    have hmem : c' ∈ caps := List.mem_of_getElem? hc'
    have hok := List.all_eq_true.1 hx c' hmem
    cases c' with
    | ptr b o => exact aWf h0 (hb b (List.mem_flatMap.2 ⟨_, hmem, by simp⟩))
    | leaf l => exact h0
    | eptr c e o => exact h0
    | kfn g' cs => exact aV9 h0 fun b hbb => hb b (List.mem_flatMap.2 ⟨_, hmem, hbb⟩)
    | any => trivial
    | _ => simp at hok
  | own eo es => exact lO.keeps (eN.refl _ _) h fun g hg => ⟨rfl, rfl, ho rfl g hg⟩
  | raw eo es => exact lO.keeps (eN.refl _ _) h fun g hg => ⟨rfl, rfl, ho rfl g hg⟩
  | leaf l => exact h
  | agg cs => exact h
  | nilptr => exact h
  | nilface => exact h
  | any => exact h
  | skip => simp [SV.handed, SV.data] at hx
  | eptr c e o => exact h
  | kfn g' cs =>
    simp only [aR] at h
    exact (show dF w F N bm' al' (.kfn g' (aO9 f cs)) v from aV9 h fun b hbb => hb b hbb)
  | tup vs => simp [SV.handed, SV.data] at hx
theorem aR.flat {w : World} {F : Fr} {Ow Ow' : Own} {bm bm' : Nat → Nat} {al al' : Nat → Bool} {loc loc' : Loc} {x : (SV m)} {v : Value} (h : aR P w F N Ow bm al loc x v) (hx : x.flatT = true)
    (ho : jK x = true → ∀ g, Ow g = some loc → Ow' g = some loc') : aR P w F N Ow' bm' al' loc' x v := by
  cases x with
  | ptr b o => simp [SV.flatT, SV.flat] at hx
  | fn g caps => simp [SV.flatT, SV.flat] at hx
  | own eo es => exact lO.keeps (eN.refl _ _) h fun g hg => ⟨rfl, rfl, ho rfl g hg⟩
  | raw eo es => exact lO.keeps (eN.refl _ _) h fun g hg => ⟨rfl, rfl, ho rfl g hg⟩
  | leaf l => exact h
  | agg cs => exact h
  | nilptr => exact h
  | nilface => exact h
  | any => exact h
  | skip => exact h
  | eptr c e o => simp [SV.flatT, SV.flat] at hx
  | kfn f cs => simp [SV.flatT, SV.flat] at hx
  | bsl b z lo n => simp [SV.flatT, SV.flat] at hx
  | tup vs =>
    obtain ⟨us, e, hs, hc⟩ := h
    refine ⟨us, e, hs, fun j c u hj hu => ?_⟩
    have h0 := hc j c u hj hu
    have hok := List.all_eq_true.1 hx c (List.mem_of_getElem? hj)
    cases c <;> first | exact h0 | simp [SV.flat] at hok
theorem aCN {x : (SV m)} (h : x.flat = true) : x.flatT = true := by cases x <;> first | rfl | exact h | simp [SV.flat] at h
def aL5 (t : Nat) : Operand → Bool | .tmp u => u == t | _ => false
theorem aTY {xs : List Operand} {j t : Nat} (hn : (cQ xs).Nodup) (h : xs[j]? = some (.tmp t)) : xs.findIdx? (aL5 t) = some j := by
  induction xs generalizing j with
  | nil => simp at h
  | cons x xs ih =>
    cases j with
    | zero => simp at h; subst h; simp [List.findIdx?_cons, aL5]
    | succ j =>
      have h' : xs[j]? = some (.tmp t) := by simpa using h
      have hmem : t ∈ cQ xs := by
        unfold cQ
        exact List.mem_filterMap.2 ⟨_, List.mem_of_getElem? h', rfl⟩
      have hx : aL5 t x = false := by
        cases x with
        | tmp u =>
          simp only [aL5, beq_eq_false_iff_ne, ne_eq]
          rintro rfl
          unfold cQ at hn hmem
          rw [List.filterMap_cons_some (by rfl), List.nodup_cons] at hn
          exact hn.1 hmem
        | _ => rfl
      have hn' : (cQ xs).Nodup := by
        unfold cQ at hn ⊢
        cases x with
        | tmp u => rw [List.filterMap_cons_some (by rfl), List.nodup_cons] at hn; exact hn.2
        | _ => rwa [List.filterMap_cons_none (by rfl)] at hn
      rw [List.findIdx?_cons, hx, ih hn' h']
      rfl
theorem aQK {xs : List Operand} {t : Nat} (h : t ∉ cQ xs) : xs.findIdx? (aL5 t) = none := by
  rw [List.findIdx?_eq_none_iff]
  intro x hx
  cases x with
  | tmp u =>
    simp only [aL5, beq_eq_false_iff_ne, ne_eq]
    rintro rfl
    exact h (List.mem_filterMap.2 ⟨_, hx, rfl⟩)
  | _ => rfl
def kM (xs : List Operand) (ids : List Nat) : Loc → Option Loc
  | .tmp t => (xs.findIdx? (aL5 t)).map .tmp
  | .blk b => if b ∈ ids then some (.blk (gV ids b)) else none
  | .box b j => if b ∈ ids then some (.box (gV ids b) j) else none
def rI (dst : Option Tmp) (ids : List Nat) : Loc → Option Loc
  | .tmp 0 => dst.map .tmp
  | .tmp _ => none
  | .blk i => (ids[i]?).map .blk
  | .box i j => (ids[i]?).map fun b => .box b j
theorem aDa (s : (St m)) : ∀ (xs : List Operand) (l : List (SV m)), l.length = s.tmps.length → (eO l (xs.flatMap (kG s.eval))).length = s.tmps.length ∧
    ∀ t, (t ∈ cQ xs → t < s.tmps.length → (eO l (xs.flatMap (kG s.eval)))[t]? = some (s.tmps.getD t .any).drop) ∧ (t ∉ cQ xs → (eO l (xs.flatMap (kG s.eval)))[t]? = l[t]?)
  | [], l, hl => ⟨by simpa [eO] using hl, fun t => ⟨by simp [cQ], by simp [eO]⟩⟩
  | x :: xs, l, hl => by
    rw [List.flatMap_cons, jV]
    cases x with
    | tmp u =>
      have hl' : (eO l (kG s.eval (.tmp u))).length = s.tmps.length := by simp [eO, kG, hl]
      obtain ⟨h1, h2⟩ := aDa s xs _ hl'
      refine ⟨h1, fun t => ⟨fun ht htl => ?_, fun ht => ?_⟩⟩
      · by_cases htx : t ∈ cQ xs
        · exact (h2 t).1 htx htl
        · rw [(h2 t).2 htx]
          have : t = u := by
            unfold cQ at ht htx
            rw [List.filterMap_cons_some (by rfl), List.mem_cons] at ht
            rcases ht with h | h
            · exact h
            · exact absurd h htx
          subst this
          simp only [eO, kG, List.foldl_cons, List.foldl_nil, St.eval]
          have hlt : t < l.length := by rw [hl]; exact htl
          rw [List.getElem?_set_self hlt]
      · unfold cQ at ht
        rw [List.filterMap_cons_some (by rfl), List.mem_cons, not_or] at ht
        rw [(h2 t).2 ht.2]
        simp only [eO, kG, List.foldl_cons, List.foldl_nil]
        rw [List.getElem?_set_ne (fun e => ht.1 e.symm)]
    | _ =>
      obtain ⟨h1, h2⟩ := aDa s xs l hl
      exact ⟨h1, fun t => h2 t⟩
section
variable {s : (St m)} {a : Act} {w : World} {F : Fr} {Ow : Own} {bm : Nat → Nat} {nt : Nat}
theorem Inv.enter (h : Inv P s a.tmps w F N Ow bm) {xs : List Operand} {caps : List (SV m)} {vs : List Value} {cs : List (List (SV m))} {ta : Bool} (hn : (cQ xs).Nodup) (hh : (xs.map (rC ta s.eval) ++ caps).all SV.handed = true)
    (hcaps : vs.length = caps.length ∧ ∀ (j : Nat) (c : (SV m)) (u : Value), caps[j]? = some c → vs[j]? = some u → dF w F N bm s.al c u) (hcs : sF s.boxes (jM (xs.map (rC ta s.eval) ++ caps)) = some cs) (hfl : ∀ c ∈ cs, ∀ x ∈ c, x.flat = true) :
    Inv P { tmps := (xs.map (rC ta s.eval) ++ caps).map (SV.ren (gV (jM (xs.map (rC ta s.eval) ++ caps)))), boxes := cs.map some } (xs.map a.eval ++ vs).toArray w F N (fun g => (Ow g).bind (kM (aAC ta xs) (jM (xs.map (rC ta s.eval) ++ caps))))
      (fun i => bm ((jM (xs.map (rC ta s.eval) ++ caps)).getD i 0)) := by
  generalize hids : jM (xs.map (rC ta s.eval) ++ caps) = ids at *
  have hnd : ids.Nodup := by rw [← hids]; exact aKT _
  obtain ⟨hcl, hcg⟩ := uB hcs
  have hal : ∀ b ∈ ids, bm (ids.getD (gV ids b) 0) = bm b ∧ (aW (cs.map some) (gV ids b)).isSome = true := by
    intro b hb
    have h1 := aAY hb
    obtain ⟨c, hc, _⟩ := hcg _ _ h1
    refine ⟨by rw [List.getD_eq_getElem?_getD, h1]; rfl, ?_⟩
    unfold aW
    rw [List.getD_eq_getElem?_getD, List.getElem?_map, hc]; rfl
  have hmem : ∀ x ∈ xs.map (rC ta s.eval) ++ caps, ∀ b ∈ x.boxIds, b ∈ ids := fun x hx b hb => by rw [← hids]; exact aNS.2 ⟨x, hx, hb⟩
  refine ⟨by simp [hcaps.1], fun t => ?_, fun i c hc => ?_, h.low, fun g hg => ⟨(h.new g hg).1, by simp [(h.new g hg).2]⟩, fun i c hc => ?_, fun g hz => ⟨by simp [(h.zow g hz).1], (h.zow g hz).2⟩⟩
  · show aR P w F N _ _ (fun b => (aW (cs.map some) b).isSome) (.tmp t) (((xs.map (rC ta s.eval) ++ caps).map (SV.ren (gV ids))).getD t .any) _
    rw [List.getD_eq_getElem?_getD, List.getElem?_map, Array.getD_eq_getD_getElem?, List.getElem?_toArray]
    by_cases ht : t < xs.length
    · have e1 : (xs.map (rC ta s.eval) ++ caps)[t]? = some (rC ta s.eval xs[t]) := by rw [List.getElem?_append_left (by simpa using ht)]; simp [ht]
      have e2 : (xs.map a.eval ++ vs)[t]? = some (a.eval xs[t]) := by rw [List.getElem?_append_left (by simpa using ht)]; simp [ht]
      rw [e1, e2]
      simp only [Option.map_some, Option.getD_some]
      have hin : rC ta s.eval xs[t] ∈ xs.map (rC ta s.eval) ++ caps := List.mem_of_getElem? e1
      have hx := h.eval (a := a) rfl xs[t]
      have hok := List.all_eq_true.1 hh _ hin
      cases ta with
      | false =>
        have hxd : aR P w F N Ow bm s.al (aEQ xs[t]) (s.eval xs[t]).drop (a.eval xs[t]) := aR.drop hx
        exact hxd.handed hok (fun b hb => hal b (hmem _ hin b hb)) (fun ho => by rw [qP] at ho; simp at ho)
      | true =>
      have hav : ∀ x, rC true s.eval x = s.eval x := fun _ => rfl
      rw [hav] at hok hin ⊢
      cases hxt : xs[t] with
      | tmp u =>
        rw [hxt] at hx hok hin
        refine hx.handed hok (fun b hb => hal b (hmem _ hin b hb)) fun _ g hg => ?_
        simp only [aEQ] at hg
        rw [hg]
        simp only [Option.bind_some, kM, aAC, aTY hn (show xs[t]? = some (.tmp u) by rw [List.getElem?_eq_getElem ht, hxt]), Option.map_some]
      | const c =>
        rw [hxt] at hx hok hin
        cases hce : s.eval (.const c) with
        | own eo es =>
          have hnil : a.eval (.const c) = .slice none 0 0 ∧ es = [] := by
            simp only [St.eval] at hce
            unfold aFN at hce
            split at hce <;> simp at hce
            obtain ⟨_, rfl⟩ := hce
            exact ⟨rfl, rfl⟩
          obtain ⟨e3, rfl⟩ := hnil
          rw [e3]
          exact aR.own_nil
        | raw eo es =>
          simp only [St.eval] at hce
          unfold aFN at hce
          split at hce <;> simp at hce
        | _ =>
          rw [hce] at hx hok hin
          exact hx.handed hok (fun b hb => hal b (hmem _ hin b hb)) (fun ho => by simp [jK] at ho)
      | global g =>
        exact aR.any
      | func f =>
        rw [hxt] at hx hok hin
        exact hx.handed hok (fun b hb => hal b (hmem _ hin b hb)) (fun ho => by simp [St.eval, jK] at ho)
    · by_cases ht2 : t - xs.length < caps.length
      · have e1 : (xs.map (rC ta s.eval) ++ caps)[t]? = some caps[t - xs.length] := by rw [List.getElem?_append_right (by simp; omega)]; simp [ht2]
        have e2 : (xs.map a.eval ++ vs)[t]? = some (vs[t - xs.length]'(by rw [hcaps.1]; exact ht2)) := by rw [List.getElem?_append_right (by simp; omega)]; simp [hcaps.1, ht2]
        rw [e1, e2]
        simp only [Option.map_some, Option.getD_some]
        have hin : caps[t - xs.length] ∈ xs.map (rC ta s.eval) ++ caps := List.mem_of_getElem? e1
        have hok := List.all_eq_true.1 hh _ hin
        have h0 := hcaps.2 (t - xs.length) _ _ (List.getElem?_eq_getElem ht2) (List.getElem?_eq_getElem (by rw [hcaps.1]; exact ht2))
        generalize caps[t - xs.length] = c at *
        cases c with
        | own eo es => exact (show False from h0).elim
        | raw eo es => exact (show False from h0).elim
        | fn g cp => exact (show False from h0).elim
        | ptr b o =>
          refine aR.handed (Ow := Ow) (loc := .blk 0) (bm := bm) (al := s.al) ?_ hok (fun b hb => hal b (hmem _ hin b hb)) (fun ho => by simp [jK] at ho)
          simpa only [aR] using h0
        | leaf l =>
          refine aR.handed (Ow := Ow) (loc := .blk 0) (bm := bm) (al := s.al) ?_ hok (fun b hb => hal b (hmem _ hin b hb)) (fun ho => by simp [jK] at ho)
          simpa only [aR] using h0
        | agg l =>
          refine aR.handed (Ow := Ow) (loc := .blk 0) (bm := bm) (al := s.al) ?_ hok (fun b hb => hal b (hmem _ hin b hb)) (fun ho => by simp [jK] at ho)
          simpa only [aR] using h0
        | nilptr =>
          refine aR.handed (Ow := Ow) (loc := .blk 0) (bm := bm) (al := s.al) ?_ hok (fun b hb => hal b (hmem _ hin b hb)) (fun ho => by simp [jK] at ho)
          simpa only [aR] using h0
        | nilface =>
          refine aR.handed (Ow := Ow) (loc := .blk 0) (bm := bm) (al := s.al) ?_ hok (fun b hb => hal b (hmem _ hin b hb)) (fun ho => by simp [jK] at ho)
          simpa only [aR] using h0
        | any => exact aR.any
        | skip => simp [SV.handed, SV.data] at hok
        | kfn f cs =>
          refine aR.handed (Ow := Ow) (loc := .blk 0) (bm := bm) (al := s.al) ?_ hok (fun b hb => hal b (hmem _ hin b hb)) (fun ho => by simp [jK] at ho)
          simpa only [aR] using h0
        | eptr c e o =>
          refine aR.handed (Ow := Ow) (loc := .blk 0) (bm := bm) (al := s.al) ?_ hok (fun b hb => hal b (hmem _ hin b hb)) (fun ho => by simp [jK] at ho)
          simpa only [aR] using h0
        | bsl b z lo n =>
          refine aR.handed (Ow := Ow) (loc := .blk 0) (bm := bm) (al := s.al) ?_ hok (fun b hb => hal b (hmem _ hin b hb)) (fun ho => by simp [jK] at ho)
          simpa only [aR] using h0
        | tup l => simp [SV.handed, SV.data] at hok
      · have e1 : (xs.map (rC ta s.eval) ++ caps)[t]? = none := List.getElem?_eq_none (by simp; omega)
        rw [e1]
        exact aR.any
  · have hci : cs[i]? = some c := by
      have hc' : aW (cs.map some) i = some c := hc
      unfold aW at hc'
      rw [List.getD_eq_getElem?_getD, List.getElem?_map] at hc'
      cases hx : cs[i]? with
      | none => rw [hx] at hc'; simp at hc'
      | some y => rw [hx] at hc'; simpa using hc'
    have hilt : i < ids.length := by rw [← hcl]; exact (List.getElem?_eq_some_iff.1 hci).1
    obtain ⟨c', hc1, hc2⟩ := hcg i ids[i] (List.getElem?_eq_getElem hilt)
    rw [hci] at hc1
    cases hc1
    rcases h.box _ _ hc2 with g0 | ⟨cur, e, g1, g2, g3, g4, g5⟩
    · exact .inl g0
    have hg : ids.getD i 0 = ids[i] := by rw [List.getD_eq_getElem?_getD, List.getElem?_eq_getElem hilt]; rfl
    have hpl : gV ids ids[i] = i := aMH hnd (List.getElem?_eq_getElem hilt)
    have hin : ids[i] ∈ ids := List.getElem_mem hilt
    refine .inr ⟨cur, e, by rw [hg]; exact g1, g2, by rw [hg]; exact g3, ?_, fun j x u hx hu => ?_⟩
    · show (Ow (bm (ids.getD i 0))).bind _ = _
      rw [hg, g4]
      simp [kM, hin, hpl]
    · refine (g5 j x u hx hu).flat (aCN (hfl c (List.mem_of_getElem? hci) x (List.mem_of_getElem? hx))) fun _ g hg' => ?_
      rw [hg']
      simp [kM, hin, hpl]
  · have hci : cs[i]? = some c := by
      have hc' : aW (cs.map some) i = some c := hc
      unfold aW at hc'
      rw [List.getD_eq_getElem?_getD, List.getElem?_map] at hc'
      cases hx : cs[i]? with
      | none => rw [hx] at hc'; simp at hc'
      | some y => rw [hx] at hc'; simpa using hc'
    have hilt : i < ids.length := by rw [← hcl]; exact (List.getElem?_eq_some_iff.1 hci).1
    obtain ⟨c', hc1, hc2⟩ := hcg i ids[i] (List.getElem?_eq_getElem hilt)
    have hg : ids.getD i 0 = ids[i] := by rw [List.getD_eq_getElem?_getD, List.getElem?_eq_getElem hilt]; rfl
    show N.n ≤ bm (ids.getD i 0)
    rw [hg]
    exact h.bmn _ _ hc2
end
end Go.Vs
end
section
namespace Go.Vs
variable {m : Bool}
variable {P : Program} {N : Env}
section
variable {s : (St m)} {a : Act} {w : World} {F : Fr} {Ow : Own} {bm : Nat → Nat} {nt : Nat}
theorem aFZ {f : Nat → Nat} {x : SV m} (h : x.flatT = true) : x.ren f = x := by
  cases x <;> first | rfl | simp [SV.flatT, SV.flat] at h
theorem aDb {n : Nat} {x : SV m} (h : x.backOk n = true) : (∃ b z lo k, x = .bsl b z lo k ∧ b < n) ∨ x.flatT = true := by
  cases x
  case bsl b z lo k => exact .inl ⟨b, z, lo, k, rfl, by simpa only [SV.backOk, decide_eq_true_eq] using h⟩
  all_goals exact .inr h
theorem aR.back {w : World} {F : Fr} {Ow Ow' : Own} {bm bm' : Nat → Nat} {al al' : Nat → Bool} {loc loc' : Loc} {x : (SV m)} {v : Value} {f : Nat → Nat} {n : Nat} (h : aR P w F N Ow bm al loc x v) (hx : x.backOk n = true)
    (hb : ∀ b, b < n → bm' (f b) = bm b ∧ al' (f b) = true) (ho : jK x = true → ∀ g, Ow g = some loc → Ow' g = some loc') : aR P w F N Ow' bm' al' loc' (x.ren f) v := by
  rcases aDb hx with ⟨b, z, lo, k, rfl, hlt⟩ | hx'
  · exact h.handed rfl (fun c hc => by
      obtain rfl : c = b := by simpa [SV.boxIds] using hc
      exact hb c hlt) ho
  · rw [aFZ hx']
    exact h.flat hx' ho
theorem Inv.back (h : Inv P s a.tmps w F N Ow bm) {xs : List Operand} {ids : List Nat} {r : (SV m) × List (List (SV m))} {v : Value} {w' : World} {F' : Fr} {OwC : Own} {dst : Option Tmp} (hnd : ids.Nodup) (hex : ∀ b ∈ ids, (aW s.boxes b).isSome = true)
    (hI : Inv P { tmps := [r.1], boxes := r.2.map some } #[v] w' F' N OwC (fun i => bm (ids.getD i 0))) (hfar : Far N w F (fun g => (Ow g).bind (kM xs ids)) w' F' OwC) (hlen : r.2.length = ids.length)
    (hf1 : r.1.backOk ids.length = true) (hf2 : ∀ cs ∈ r.2, ∀ c ∈ cs, c.flat = true) :
    ∃ Ow', Inv P (({ (s.takes xs) with boxes := iO s.boxes ids r.2 } : (St m)).put dst (r.1.ren (ids.getD · 0))) (a.put dst v).tmps w' F' N Ow' bm ∧ Far N w F Ow w' F' Ow' := by
  let Ow' : Own := fun g => match OwC g with
    | some l => rI dst ids l
    | none => if (Ow g).bind (kM xs ids) = none then Ow g else none
  have hlt : ∀ k loc, Ow k = some loc → k < w.heap.size := by
    intro k loc hk'
    rcases Nat.lt_or_ge k w.heap.size with h' | h'
    · exact h'
    · rw [(h.new k h').2] at hk'; simp at hk'
  have aCI : ∀ g loc, Ow g = some loc → kM xs ids loc = none → w'.heap[g]? = w.heap[g]? ∧ F' g = F g ∧ Ow' g = some loc := by
    intro g loc hg hn
    have hnone : (Ow g).bind (kM xs ids) = none := by rw [hg]; exact hn
    obtain ⟨h1, h2, h3⟩ := hfar.old g (hlt g loc hg) hnone
    have hZ : N.Z g = false := by
      cases hz : N.Z g with
      | false => rfl
      | true => rw [(h.zow g hz).1] at hg; simp at hg
    refine ⟨h1 hZ, h2, ?_⟩
    show (match OwC g with | some l => rI dst ids l | none => if (Ow g).bind (kM xs ids) = none then Ow g else none) = _
    rw [h3]
    simp [hg, hn]
  have hal : ∀ b, s.al b = true → (aW (iO s.boxes ids r.2) b).isSome = true := by
    intro b hb
    by_cases hin : b ∈ ids
    · have h1 := aAY hin
      have hi : gV ids b < ids.length := (List.getElem?_eq_some_iff.1 h1).1
      obtain ⟨c, hc⟩ := Option.isSome_iff_exists.1 hb
      rw [aEO ids r.2 s.boxes _ b _ hnd h1 (List.getElem?_eq_getElem (by rw [hlen]; exact hi)) (rH hc)]
      rfl
    · rw [yG ids r.2 s.boxes b hin]; exact hb
  have hp : ∀ b, s.al b = true → bm b = bm b ∧ (aW (iO s.boxes ids r.2) b).isSome = true := fun b hb => ⟨rfl, hal b hb⟩
  obtain ⟨htl, htt⟩ := aDa s xs s.tmps rfl
  have hOC : ∀ g l, OwC g = some l → Ow' g = rI dst ids l := by
    intro g l hg
    show (match OwC g with | some l => rI dst ids l | none => if (Ow g).bind (kM xs ids) = none then Ow g else none) = _
    rw [hg]
  have hfarO : Far N w F Ow w' F' Ow' := by
    refine ⟨hfar.os, hfar.tape, hfar.output, hfar.size, hfar.keeps, fun g hg ho => ?_⟩
    obtain ⟨h1, h2, h3⟩ := hfar.old g hg (by rw [ho]; rfl)
    refine ⟨h1, h2, ?_⟩
    show (match OwC g with | some l => rI dst ids l | none => if (Ow g).bind (kM xs ids) = none then Ow g else none) = none
    rw [h3]
    simp [ho]
  have hbase : Inv P ({ (s.takes xs) with boxes := iO s.boxes ids r.2 } : (St m)) a.tmps w' F' N Ow' bm := by
    refine ⟨by rw [← h.len]; exact htl, fun t => ?_, fun b cs hb => ?_, h.low.to hfar.keeps hfar.size, fun g hg => ?_, fun b cs hb => ?_, fun g hz => ⟨?_, (hI.zow g hz).2⟩⟩
    · show aR P w' F' N Ow' bm (fun b => (aW (iO s.boxes ids r.2) b).isSome) (.tmp t) ((eO s.tmps (xs.flatMap (kG s.eval))).getD t .any) _
      rw [List.getD_eq_getElem?_getD]
      by_cases ht : t ∈ cQ xs
      · by_cases hl : t < s.tmps.length
        · rw [(htt t).1 ht hl]
          simp only [Option.getD_some]
          exact aR.to hfar.keeps (aR.drop (Ow' := Ow) (loc' := .tmp t) (h.slot t)) hp fun ho => by rw [qP] at ho; simp at ho
        · rw [List.getElem?_eq_none (by rw [htl]; omega)]
          exact aR.any
      · rw [(htt t).2 ht, ← List.getD_eq_getElem?_getD]
        exact (h.slot t).to hfar.keeps hp fun _ g hg => aCI g _ hg (by simp [kM, aQK ht])
    · have hb' : aW (iO s.boxes ids r.2) b = some cs := hb
      by_cases hin : b ∈ ids
      · have h1 := aAY hin
        have hi : gV ids b < ids.length := (List.getElem?_eq_some_iff.1 h1).1
        have hi2 : gV ids b < r.2.length := by rw [hlen]; exact hi
        obtain ⟨c0, hc0⟩ := Option.isSome_iff_exists.1 (hex b hin)
        rw [aEO ids r.2 s.boxes _ b _ hnd h1 (List.getElem?_eq_getElem hi2) (rH hc0)] at hb'
        cases hb'
        rcases hI.box (gV ids b) r.2[gV ids b] (by
          show aW (r.2.map some) _ = _
          unfold aW
          rw [List.getD_eq_getElem?_getD, List.getElem?_map, List.getElem?_eq_getElem hi2]; rfl) with g0 | ⟨cur, e, g1, g2, g3, g4, g5⟩
        · exact .inl g0
        have hgd : ids.getD (gV ids b) 0 = b := by rw [List.getD_eq_getElem?_getD, h1]; rfl
        rw [hgd] at g1 g3 g4
        refine .inr ⟨cur, e, g1, g2, g3, ?_, fun j c u hc hu => ?_⟩
        · rw [hOC _ _ g4]; simp [rI, h1]
        · refine (g5 j c u hc hu).flat (aCN (hf2 _ (List.getElem_mem hi2) c (List.mem_of_getElem? hc))) fun _ g hg => ?_
          rw [hOC _ _ hg]; simp [rI, h1]
      · rw [yG ids r.2 s.boxes b hin] at hb'
        rcases h.box b cs hb' with g0 | ⟨cur, e, g1, g2, g3, g4, g5⟩
        · exact .inl g0
        obtain ⟨k1, k2, k3⟩ := aCI (bm b) _ g4 (by simp [kM, hin])
        exact .inr ⟨cur, e, k1.trans g1, g2, k2.trans g3, k3, fun j c u hc hu => (g5 j c u hc hu).to hfar.keeps hp fun _ g hg => aCI g _ hg (by simp [kM, hin])⟩
    · obtain ⟨n1, n2⟩ := hI.new g hg
      refine ⟨n1, ?_⟩
      show (match OwC g with | some l => rI dst ids l | none => if (Ow g).bind (kM xs ids) = none then Ow g else none) = none
      rw [n2]
      have := (h.new g (Nat.le_trans hfar.size hg)).2
      simp [this]
    · have hb' : (aW (iO s.boxes ids r.2) b) = some cs := hb
      by_cases hin : b ∈ ids
      · obtain ⟨c0, hc0⟩ := Option.isSome_iff_exists.1 (hex b hin)
        exact h.bmn b c0 hc0
      · rw [yG ids r.2 s.boxes b hin] at hb'
        exact h.bmn b cs hb'
    · show (match OwC g with | some l => rI dst ids l | none => if (Ow g).bind (kM xs ids) = none then Ow g else none) = none
      rw [(hI.zow g hz).1]
      have := (h.zow g hz).1
      simp [this]
  refine ⟨Ow', hbase.put (a := a) fun d hd => ?_, hfarO⟩
  have h0 := hI.slot 0
  simp only [List.getD_cons_zero] at h0
  have h0' : aR P w' F' N OwC (fun i => bm (ids.getD i 0)) (fun b => (aW (r.2.map some) b).isSome) (.tmp 0) r.1 v := h0
  refine h0'.back hf1 (fun b hb => ⟨rfl, ?_⟩) fun _ g hg => by rw [hOC _ _ hg]; simp [rI, hd]
  have hbm : ids.getD b 0 ∈ ids := by rw [List.getD_eq_getElem?_getD, List.getElem?_eq_getElem hb]; exact List.getElem_mem hb
  exact hal _ (hex _ hbm)
theorem aQu {f : Nat → Nat} {cs : List (Option (Nat × Nat))} (h : aJX cs = []) : aO9 f cs = cs := by
  refine (List.map_congr_left (g := id) fun c hc => ?_).trans (List.map_id cs)
  cases c with
  | none => rfl
  | some p =>
    have : p.1 ∈ aJX cs := List.mem_flatMap.2 ⟨_, hc, by simp⟩
    rw [h] at this
    simp at this
theorem aU2 {f : Nat → Nat} {x : (SV m)} (h : x.boxIds = []) : x.ren f = x := by
  cases x with
  | ptr b o => simp [SV.boxIds] at h
  | bsl b z lo n => simp [SV.boxIds] at h
  | fn g caps =>
    simp only [SV.ren]
    congr 1
    refine (List.map_congr_left (g := id) fun c hc => ?_).trans (List.map_id caps)
    cases c with
    | ptr b o =>
      have : b ∈ SV.boxIds (.fn g caps) := List.mem_flatMap.2 ⟨_, hc, by simp⟩
      rw [h] at this
      simp at this
    | kfn g' cs =>
      have hk : aJX cs = [] := by
        rw [List.eq_nil_iff_forall_not_mem]
        intro b hb
        have : b ∈ SV.boxIds (.fn g caps) := List.mem_flatMap.2 ⟨_, hc, hb⟩
        rw [h] at this
        simp at this
      show SV.kfn g' (aO9 f cs) = SV.kfn g' cs
      rw [aQu hk]
    | _ => rfl
  | kfn g cs =>
    show SV.kfn g (aO9 f cs) = SV.kfn g cs
    rw [aQu h]
  | _ => rfl
theorem aQD {f : Nat → Nat} {args : List (SV m)} (h : args.all SV.handed = true) : (args.map (SV.ren f)).all SV.handed = true := by
  rw [List.all_map, List.all_eq_true] at *
  intro x hx
  have hok := h x hx
  cases x with
  | fn g caps =>
    simp only [Function.comp, SV.ren, SV.handed, List.all_map]
    rw [List.all_eq_true]
    intro c hc
    have := List.all_eq_true.1 hok c hc
    cases c <;> first | rfl | exact this
  | _ => exact hok
theorem aPM {D : (bK m)} {bs : (gU m)} {pu : Bool} {f : FuncId} {args : List (SV m)} {q : (SV m) × Option (gU m)} (h : aEX D bs pu f args = some q) :
    args.all SV.handed = true ∧ ∃ cs r, sF bs (jM args) = some cs ∧ (∀ c ∈ cs, ∀ x ∈ c, x.flat = true) ∧ D f (args.map (SV.ren (gV (jM args)))) cs = some r ∧ (q.1 = r.1.ren ((jM args).getD · 0) ∨ (q.1 = r.1 ∧ cs = [])) ∧ q.2.getD bs = iO bs (jM args) r.2 := by
  unfold aEX at h
  obtain ⟨h1, h2⟩ := aU h
  refine ⟨h1, ?_⟩
  split at h2
  · split at h2
    · rename_i hids
      rw [Option.map_eq_some_iff] at h2
      obtain ⟨r, hr, rfl⟩ := h2
      have hmap : args.map (SV.ren (gV (jM args))) = args := by
        have : ∀ x ∈ args, x.ren (gV (jM args)) = x := by
          intro x hx
          refine aU2 ?_
          cases hb : x.boxIds with
          | nil => rfl
          | cons b l =>
            have : b ∈ jM args := aNS.2 ⟨x, hx, by rw [hb]; simp⟩
            rw [hids] at this
            simp at this
        calc args.map _ = args.map id := List.map_congr_left (fun x hx => by simpa using this x hx)
          _ = args := List.map_id args
      refine ⟨[], r, by rw [hids]; rfl, by simp, by rw [hmap]; exact hr, .inr ⟨rfl, rfl⟩, ?_⟩
      rw [hids]
      simp only [Option.getD_none]
      cases r.2 <;> rfl
    · simp at h2
  · rw [Option.bind_eq_some_iff] at h2
    obtain ⟨cs, hcs, h3⟩ := h2
    obtain ⟨h4, h5⟩ := aU h3
    rw [Option.map_eq_some_iff] at h5
    obtain ⟨r, hr, rfl⟩ := h5
    refine ⟨cs, r, hcs, fun c hc x hx => ?_, hr, .inl rfl, rfl⟩
    exact List.all_eq_true.1 (List.all_eq_true.1 h4 c hc) x hx
theorem aQU {D : (bK m)} (hD : lS P N D) (h : Inv P s a.tmps w F N Ow bm) {o : Oper} {mv : Bool} {c : Call} {g : Operand} {e : (Eff m)} {pu ta : Bool} (ho : o.op = .call c) (hc : c.callee = .value g)
    (he : cV P D nt mv pu ta o s.eval s.boxes = some e) {next : Act → World → Prop} {Q : Exit → Act → World → Prop} (hk : ∀ a' w', kS P N nt (e.app s) a w F Ow bm a' w' → next a' w') : o.wp P a w next Q := by
  simp only [cV, ho, hc] at he
  split at he
  · rename_i f caps hge
    obtain ⟨hnd, he'⟩ := aU he
    clear he
    rw [Option.map_eq_some_iff] at he'
    obtain ⟨q, hq, rfl⟩ := he'
    have hnd' := of_decide_eq_true hnd
    obtain ⟨hh, cs, r, hcs, hfl, hr, hq1, hq2⟩ := aPM hq
    have hgv := h.eval (a := a) rfl g
    rw [hge] at hgv
    obtain ⟨vs, hv, hvs, hcap⟩ := hgv
    obtain ⟨hrl, hf1, hf2, ⟨fn, hfn, hname, hbody⟩, hcalls⟩ := hD f _ _ _ hr (aQD hh) hfl
    have hent := h.enter (xs := c.args.toList) (caps := caps) (vs := vs.toList) hnd' hh ⟨by simpa using hvs, fun j c u a b => hcap j c u a (by simpa using b)⟩ hcs hfl
    have hC := hcalls w F _ _ _ hent
    have hlen : cs.length = (jM (c.args.toList.map (rC ta s.eval) ++ caps)).length := (uB hcs).1
    have hrun : (execOp a.eval o).run P w = .ok (.enter f (c.args.toList.map a.eval ++ vs.toList).toArray) w := by
      have e1 : (c.args.toList.map a.eval ++ vs.toList).toArray = c.args.map a.eval ++ vs := by
        apply Array.ext'
        simp
      rw [e1]
      have hn1 : ¬ fn.name = "runtime.NumGoroutine" := by simpa using hname
      have hn2 : ¬ fn.body = none := by intro e; rw [e] at hbody; simp at hbody
      simp [execOp, ho, resolve, hc, hv, Deferred.ofValue, invoke, callFunc, hfn, hn1, hn2]
    unfold Oper.wp
    rw [hrun, Oper.upon_enter]
    refine hC.mono ?_
    rintro ed w' ⟨v, F', OwC, rfl, hI, hfar⟩
    obtain ⟨Ow', k1, k2⟩ := h.back (dst := o.dst) (aKT _) (fun b hb => by
      obtain ⟨i, hi⟩ := List.getElem?_of_mem hb
      obtain ⟨_, _, hx⟩ := (uB hcs).2 i b hi
      rw [hx]; rfl) hI hfar (by rw [hrl, hlen]) (by rw [← hlen]; exact hf1) hf2
    replace hq1 : q.1 = r.1.ren ((jM (c.args.toList.map (rC ta s.eval) ++ caps)).getD · 0) := by
      rcases hq1 with hq1 | ⟨hq1, hcs0⟩
      · exact hq1
      · rw [hq1]
        rw [hcs0] at hf1
        refine (aFZ ?_).symm
        rcases aDb hf1 with ⟨b, z, lo, k, _, hlt⟩ | hx'
        · simp at hlt
        · exact hx'
    refine hk _ _ ⟨F', Ow', bm, ?_, k2, fun _ _ => rfl, gQ _ _⟩
    have : ((⟨(aAC ta c.args.toList).flatMap (kG s.eval) ++ qJ o.dst q.1, q.2⟩ : (Eff m)).app s) = ({ (s.takes (aAC ta c.args.toList)) with boxes := iO s.boxes (jM (c.args.toList.map (rC ta s.eval) ++ caps)) r.2 } : (St m)).put o.dst (r.1.ren ((jM (c.args.toList.map (rC ta s.eval) ++ caps)).getD · 0)) := by
      rw [tM, hq1]
      simp only [Eff.app, St.takes, jV, hq2]
    rw [this]
    exact k1
  · simp at he
end
end Go.Vs
end
