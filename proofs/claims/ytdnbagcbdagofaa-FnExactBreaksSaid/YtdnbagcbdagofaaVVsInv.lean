/- How a frame of the shadow runner and the machine's frame go on together: reading a slot, writing one, taking a slice along, a world that grows, boxes. -/
import Derived.Test.YtdnbagcbdagofaaVVsVal3
set_option linter.unusedVariables false
set_option linter.unusedSimpArgs false
namespace Go.Vs
variable {m : Bool}
variable {P : Program} {N : Env}

def isOwn : (SV m) → Bool | .own _ _ => true | _ => false
def aliveB (bs : (Boxes m)) (b : Nat) : Bool := (boxAt bs b).isSome
abbrev St.al (s : (St m)) : Nat → Bool := fun b => (boxAt s.boxes b).isSome
/-- Does this place hold a slice that may be appended to, or a box? -/
def St.holds (s : (St m)) : Loc → Prop
  | .tmp t => isOwn (s.tmps.getD t .any) = true
  | .box b j => ∃ cs, boxAt s.boxes b = some cs ∧ isOwn (cs.getD j .any) = true
  | .blk b => (boxAt s.boxes b).isSome = true

theorem RepS.to {w w' : World} {F F' : Fr} {Ow Ow' : Own} {bm bm' : Nat → Nat} {al al' : Nat → Bool} {loc loc' : Loc} {x : (SV m)} {v : Value} (k : Keeps N w F w' F') (h : RepS P w F N Ow bm al loc x v)
    (hp : ∀ b, al b = true → bm' b = bm b ∧ al' b = true) (hb : isOwn x = true → ∀ g, Ow g = some loc → w'.heap[g]? = w.heap[g]? ∧ F' g = F g ∧ Ow' g = some loc') : RepS P w' F' N Ow' bm' al' loc' x v := by
  cases x
  case own eo es => exact RepO.keeps k h (hb rfl)
  case fn f caps => obtain ⟨vs, e, hs, hc⟩ := h; exact ⟨vs, e, hs, fun j c u a b => ((hc j c u a b).keeps k).boxes hp⟩
  case tup cs => obtain ⟨vs, e, hs, hc⟩ := h; exact ⟨vs, e, hs, fun j c u a b => ((hc j c u a b).keeps k).boxes hp⟩
  all_goals (simp only [RepS] at h ⊢; exact (RepF.keeps k h).boxes hp)

theorem RepS.any {w : World} {F : Fr} {Ow : Own} {bm : Nat → Nat} {al : Nat → Bool} {loc : Loc} {v : Value} : RepS (m := m) P w F N Ow bm al loc .any v := by simp only [RepS, RepF]
theorem RepS.own_nil {w : World} {F : Fr} {Ow : Own} {bm : Nat → Nat} {al : Nat → Bool} {loc : Loc} {e : Option TypeId} : RepS (m := m) P w F N Ow bm al loc (.own e []) (.slice none 0 0) := by
  simp only [RepS]; exact .inl ⟨rfl, rfl⟩
theorem RepS.leaf {w : World} {F : Fr} {Ow : Own} {bm : Nat → Nat} {al : Nat → Bool} {loc : Loc} {l : (Leaf m)} {v : Value} (h : RepL w F N l v) : RepS P w F N Ow bm al loc (.leaf l) v := by
  simp only [RepS, RepF]; exact h
theorem RepS.agg {w : World} {F : Fr} {Ow : Own} {bm : Nat → Nat} {al : Nat → Bool} {loc : Loc} {cs : List (Leaf m)} {us : Array Value} (h : RepR w F N cs us.toList) : RepS P w F N Ow bm al loc (.agg cs) (.agg us) := by
  simp only [RepS, RepF]; exact ⟨us, rfl, h⟩
theorem RepS.leafOf {w : World} {F : Fr} {Ow : Own} {bm : Nat → Nat} {al : Nat → Bool} {loc : Loc} {x : (SV m)} {v : Value} (h : RepS P w F N Ow bm al loc x v) : ∀ l, x.drop = .leaf l → RepL w F N l v := by
  intro l hl
  have := RepS.drop (Ow' := Ow) (loc' := loc) h
  rw [hl] at this
  simpa only [RepS, RepF] using this
theorem RepS.aggOf {w : World} {F : Fr} {Ow : Own} {bm : Nat → Nat} {al : Nat → Bool} {loc : Loc} {x : (SV m)} {v : Value} (h : RepS P w F N Ow bm al loc x v) : ∀ cs, x.drop = .agg cs → ∃ vs, v = .agg vs ∧ RepR w F N cs vs.toList := by
  intro l hl
  have := RepS.drop (Ow' := Ow) (loc' := loc) h
  rw [hl] at this
  simpa only [RepS, RepF] using this
theorem RepS.bslOf {w : World} {F : Fr} {Ow : Own} {bm : Nat → Nat} {al : Nat → Bool} {loc : Loc} {x : (SV m)} {v : Value} (h : RepS P w F N Ow bm al loc x v) : ∀ b z lo n, x.drop = .bsl b z lo n → ∃ cap, v = .slice (some ⟨bm b, lo * z, none⟩) n cap ∧ n ≤ cap ∧ al b = true := by
  intro b z lo n hl
  have := RepS.drop (Ow' := Ow) (loc' := loc) h
  rw [hl] at this
  simpa only [RepS, RepF] using this
theorem drop_leaf {x : (SV m)} {l : (Leaf m)} (h : x = .leaf l) : x.drop = .leaf l := by subst h; rfl

section
variable {s : (St m)} {tmps : Array Value} {w : World} {F : Fr} {Ow : Own} {bm : Nat → Nat}

/-- Where an operand's ownership lies. -/
def locOf : Operand → Loc | .tmp t => .tmp t | _ => .blk 0

theorem Inv.eval (h : Inv P s tmps w F N Ow bm) {a : Act} (ha : a.tmps = tmps) (x : Operand) : RepS P w F N Ow bm s.al (locOf x) (s.eval x) (a.eval x) := by
  cases x with
  | tmp t => simpa [St.eval, Act.eval, ha, locOf] using h.slot t
  | const v =>
    simp only [St.eval, Act.eval, locOf]
    unfold ofConst
    split <;> first | exact RepS.leaf (.bool _) | exact RepS.leaf (.int _ _) | exact RepS.leaf (.str _) | exact RepS.own_nil | (simp only [RepS, RepF]; done) | exact RepS.any
  | global g => exact RepS.any
  | func f => exact ⟨#[], rfl, rfl, fun j c u h => by simp at h⟩

/-- A slot is written. -/
theorem Inv.set (h : Inv P s tmps w F N Ow bm) {d : Nat} {v : (SV m)} {u : Value} (hv : RepS P w F N Ow bm s.al (.tmp d) v u) :
    Inv P { s with tmps := s.tmps.set d v } (tmps.setIfInBounds d u) w F N Ow bm := by
  refine ⟨by simp [h.len], fun t => ?_, h.box, h.low, h.new, h.bmn, h.zow⟩
  show RepS P w F N Ow bm s.al (.tmp t) ((s.tmps.set d v).getD t .any) ((tmps.setIfInBounds d u).getD t undef)
  by_cases ht : t = d
  · subst ht
    by_cases hl : t < s.tmps.length
    · have hl' : t < tmps.size := by rw [← h.len]; exact hl
      rw [List.getD_eq_getElem?_getD, List.getElem?_set_self hl]
      simpa [Array.getD, hl'] using hv
    · have hl' : ¬ t < tmps.size := by rw [← h.len]; exact hl
      rw [List.getD_eq_getElem?_getD, List.getElem?_eq_none (by simpa using hl)]
      exact RepS.any
  · rw [List.getD_eq_getElem?_getD, List.getElem?_set_ne (fun e => ht e.symm), ← List.getD_eq_getElem?_getD]
    have : (tmps.setIfInBounds d u).getD t undef = tmps.getD t undef := by
      simp only [Array.getD_eq_getD_getElem?]
      rw [Array.getElem?_setIfInBounds_ne (fun e => ht e.symm)]
    rw [this]
    exact h.slot t
/-- A slot keeps less than it did. -/
theorem Inv.forget (h : Inv P s tmps w F N Ow bm) {d : Nat} {v : (SV m)} (hv : RepS P w F N Ow bm s.al (.tmp d) v (tmps.getD d undef)) :
    Inv P { s with tmps := s.tmps.set d v } tmps w F N Ow bm := by
  have := h.set (d := d) (v := v) (u := tmps.getD d undef) hv
  have e : tmps.setIfInBounds d (tmps.getD d undef) = tmps := by
    apply Array.ext_getElem?
    intro i
    by_cases hi : i = d
    · subst hi
      by_cases hl : i < tmps.size
      · simp [Array.getElem?_setIfInBounds, hl, Array.getD]
      · simp [Array.getElem?_setIfInBounds, hl]
    · rw [Array.getElem?_setIfInBounds_ne (fun e => hi e.symm)]
  rwa [e] at this

/-- The world goes on, and with it who may write to what; what is held stays. -/
theorem Inv.to (h : Inv P s tmps w F N Ow bm) {w' : World} {F' : Fr} {Ow' : Own} {bm' : Nat → Nat} (k : Keeps N w F w' F') (hsz : w.heap.size ≤ w'.heap.size) (hb : ∀ b, (boxAt s.boxes b).isSome = true → bm' b = bm b)
    (ho : ∀ g loc, Ow g = some loc → s.holds loc → w'.heap[g]? = w.heap[g]? ∧ F' g = F g ∧ Ow' g = some loc) (hn : ∀ g, w'.heap.size ≤ g → F' g = 0 ∧ Ow' g = none) (hz : ∀ g, N.Z g = true → Ow' g = none ∧ ∃ cur e, w'.heap[g]? = some (.cells cur e (0, 0))) : Inv P s tmps w' F' N Ow' bm' := by
  have hp : ∀ b, s.al b = true → bm' b = bm b ∧ s.al b = true := fun b hb' => ⟨hb b hb', hb'⟩
  refine ⟨h.len, fun t => (h.slot t).to k hp fun hown g hg => ho g _ hg hown, fun b cs hbox => ?_, Nat.le_trans h.low hsz, hn, fun b cs hb' => by rw [hb b (by rw [hb']; rfl)]; exact h.bmn b cs hb', hz⟩
  obtain ⟨cur, e, h1, h2, h3, h4, h5⟩ := h.box b cs hbox
  have hs : (boxAt s.boxes b).isSome = true := by rw [hbox]; rfl
  obtain ⟨o1, o2, o3⟩ := ho (bm b) (.blk b) h4 hs
  refine ⟨cur, e, by rw [hb b hs, o1]; exact h1, h2, by rw [hb b hs, o2]; exact h3, by rw [hb b hs]; exact o3, fun j c u hc hu => (h5 j c u hc hu).to k hp fun hown g hg => ho g _ hg ⟨cs, hbox, ?_⟩⟩
  rw [List.getD_eq_getElem?_getD, hc]
  exact hown

/-- What a slot held goes to another place. -/
def moved (x : Operand) (to : Loc) (Ow : Own) : Own := match x with
  | .tmp t => fun g => if Ow g = some (.tmp t) then some to else Ow g
  | _ => Ow
theorem moved_none {x : Operand} {to : Loc} {Ow : Own} {g : Nat} (h : Ow g = none) : moved x to Ow g = none := by cases x <;> simp [moved, h]
theorem take_eq (s : (St m)) (x : Operand) : s.take x = match x with | .tmp t => { s with tmps := s.tmps.set t (s.tmps.getD t .any).drop } | _ => s := by
  cases x <;> simp [St.take, St.takes, takeE, setAll, St.eval]
theorem drop_not_own (v : (SV m)) : isOwn v.drop = false := by cases v <;> rfl
theorem Inv.take (h : Inv P s tmps w F N Ow bm) {a : Act} (ha : a.tmps = tmps) (x : Operand) (to : Loc) :
    Inv P (s.take x) tmps w F N (moved x to Ow) bm ∧ RepS P w F N (moved x to Ow) bm s.al to (s.eval x) (a.eval x) := by
  have hv := h.eval ha x
  cases x with
  | tmp t =>
    have h1 : Inv P (s.take (.tmp t)) tmps w F N Ow bm := by
      rw [take_eq]
      exact h.forget (RepS.drop (h.slot t))
    have hd : isOwn ((s.take (.tmp t)).tmps.getD t .any) = false := by
      rw [take_eq]
      show isOwn ((s.tmps.set t (s.tmps.getD t .any).drop).getD t .any) = false
      by_cases hl : t < s.tmps.length
      · rw [List.getD_eq_getElem?_getD, List.getElem?_set_self hl]; exact drop_not_own _
      · rw [List.getD_eq_getElem?_getD, List.getElem?_eq_none (by simpa using hl)]; rfl
    refine ⟨h1.to (Keeps.refl _ _) (Nat.le_refl _) (fun _ _ => rfl) (fun g loc hg hl => ⟨rfl, rfl, ?_⟩) (fun g hg => ⟨(h.new g hg).1, moved_none (h.new g hg).2⟩) (fun g hg => ⟨moved_none (h.zow g hg).1, (h.zow g hg).2⟩), ?_⟩
    · simp only [moved]
      rw [if_neg]
      · exact hg
      · rintro he
        rw [he] at hg
        cases hg
        rw [St.holds] at hl
        rw [hd] at hl
        exact Bool.false_ne_true hl
    · refine hv.to (Keeps.refl _ _) (fun b hb => ⟨rfl, hb⟩) fun _ g hg => ⟨rfl, rfl, ?_⟩
      simp only [locOf] at hg
      simp [moved, hg]
  | const c =>
    refine ⟨by rw [take_eq]; exact h, ?_⟩
    simp only [St.eval, Act.eval] at hv ⊢
    unfold ofConst at hv ⊢
    split <;> simp_all [RepS, RepO, moved]
  | global g => exact ⟨by rw [take_eq]; exact h, RepS.any⟩
  | func f => exact ⟨by rw [take_eq]; exact h, ⟨#[], rfl, rfl, fun j c u h => by simp at h⟩⟩

/-- A box more. -/
theorem Inv.addBox (h : Inv P s tmps w F N Ow bm) {d : Nat} {cs : List (SV m)} {cur : Array Value} {e : TypeId} (hd : boxAt s.boxes d = none) (h1 : w.heap[bm d]? = some (.cells cur e (0, 0))) (h2 : cur.size = cs.length)
    (h3 : F (bm d) = 0) (h4 : Ow (bm d) = some (.blk d)) (h6 : N.n ≤ bm d) (h5 : ∀ (j : Nat) (c : (SV m)) (u : Value), cs[j]? = some c → cur[j]? = some u → RepS P w F N Ow bm s.al (.box d j) c u) :
    Inv P { s with boxes := s.boxes.set d (some cs) } tmps w F N Ow bm := by
  have hal : ∀ b, s.al b = true → boxAt (s.boxes.set d (some cs)) b = boxAt s.boxes b := by
    intro b hb
    have hne : b ≠ d := by rintro rfl; simp [St.al, hd] at hb
    unfold boxAt
    rw [List.getD_eq_getElem?_getD, List.getElem?_set_ne (fun e => hne e.symm), ← List.getD_eq_getElem?_getD]
  have hp : ∀ b, s.al b = true → bm b = bm b ∧ (boxAt (s.boxes.set d (some cs)) b).isSome = true := fun b hb => ⟨rfl, by rw [hal b hb]; exact hb⟩
  refine ⟨h.len, fun t => (h.slot t).to (Keeps.refl _ _) hp fun _ g hg => ⟨rfl, rfl, hg⟩, fun b cs' hb => ?_, h.low, h.new, fun b cs' hb => ?_, h.zow⟩
  rotate_left
  · by_cases hbd : b = d
    · subst hbd; exact h6
    · refine h.bmn b cs' ?_
      unfold boxAt at hb ⊢
      rw [List.getD_eq_getElem?_getD, List.getElem?_set_ne (fun e => hbd e.symm), ← List.getD_eq_getElem?_getD] at hb
      exact hb
  by_cases hbd : b = d
  · subst hbd
    have : cs' = cs := by
      unfold boxAt at hb
      by_cases hl : b < s.boxes.length
      · rw [List.getD_eq_getElem?_getD, List.getElem?_set_self hl] at hb
        simpa using hb.symm
      · rw [List.getD_eq_getElem?_getD, List.getElem?_eq_none (by simpa using hl)] at hb
        simp at hb
    subst this
    exact ⟨cur, e, h1, h2, h3, h4, fun j c u hc hu => (h5 j c u hc hu).to (Keeps.refl _ _) hp fun _ g hg => ⟨rfl, rfl, hg⟩⟩
  · have hb' : boxAt s.boxes b = some cs' := by
      unfold boxAt at hb ⊢
      rw [List.getD_eq_getElem?_getD, List.getElem?_set_ne (fun e => hbd e.symm), ← List.getD_eq_getElem?_getD] at hb
      exact hb
    obtain ⟨cur, e, g1, g2, g3, g4, g5⟩ := h.box b cs' hb'
    exact ⟨cur, e, g1, g2, g3, g4, fun j c u hc hu => (g5 j c u hc hu).to (Keeps.refl _ _) hp fun _ g hg => ⟨rfl, rfl, hg⟩⟩
end
end Go.Vs
