/- What the shadow runner's values say of the machine's memory. Sealed cells are written no more; a slice that may be appended to and a box have each a block of their own. -/
import Derived.Test.YtdnbagcbdagofaaVVsOrder
import Derived.Maps.AppendAt
import Derived.Laws.Tables
import Derived.Laws.BytesArg
import Derived.Extends
namespace Go.Vs
variable {m : Bool}

/-- Where new memory begins, and which blocks (older ones) are written to. -/
structure Env where
  n : Nat
  Z : Nat → Bool
  lt : ∀ g, Z g = true → g < n
variable {N : Env}
def plainV : Value → Bool | .bool _ | .int _ _ | .string _ => true | _ => false
/-- It may lie where one writes. -/
def Leaf.soft : (Leaf m) → Bool | .unk | .sl _ _ => true | _ => false

/-- How many cells of a block are sealed. -/
abbrev Fr := Nat → Nat
/-- Who may write to a block. -/
inductive Loc where
  | tmp (t : Nat) | box (b j : Nat) | blk (b : Nat)
  deriving DecidableEq
abbrev Own := Nat → Option Loc

inductive RepL (w : World) (F : Fr) (N : Env) : (Leaf m) → Value → Prop
  | bool (b : Bool) : RepL w F N (.bool b) (.bool b)
  | int (k : IntKind) (n : Int) : RepL w F N (.int k n) (.int k n)
  | str (s : ByteArray) : RepL w F N (.str s) (.string s)
  | unk (v : Value) (h : plainV v = true) : RepL w F N .unk v
  | sl (c : Fl m) (es : List (List (Leaf m))) (A : Option Addr) (cap z : Nat) (vals : List Value) (hc : es.length ≤ cap) (hz : ∀ e ∈ es, e.length = z) (hv : vals.length = es.length * z)
      (hcell : 0 < es.length → ∃ g o, A = some ⟨g, o, none⟩ ∧ (c.fresh = true → N.n ≤ g) ∧ o + vals.length ≤ F g ∧ ((c.isSoft = true → N.Z g = true) ∧ (N.Z g = true → ∀ l ∈ es.flatten, l.soft = true)) ∧ ∀ (j : Nat) (v : Value), vals[j]? = some v → w.cell? ⟨g, o + j, none⟩ = some v)
      (hrep : ∀ (j : Nat) (l : (Leaf m)) (v : Value), es.flatten[j]? = some l → vals[j]? = some v → RepL w F N l v) : RepL w F N (.sl c es) (.slice A es.length cap)

/-- What is sealed stays; numbers, bools and texts may turn where one writes. -/
structure Keeps (N : Env) (w : World) (F : Fr) (w' : World) (F' : Fr) : Prop where
  hard : ∀ g j, j < F g → N.Z g = false → w'.cell? ⟨g, j, none⟩ = w.cell? ⟨g, j, none⟩
  soft : ∀ g j v, j < F g → w.cell? ⟨g, j, none⟩ = some v → ∃ v', w'.cell? ⟨g, j, none⟩ = some v' ∧ (v' = v ∨ (plainV v = true ∧ plainV v' = true))
  le : ∀ g, F g ≤ F' g
theorem Keeps.mk' {w : World} {F : Fr} {w' : World} {F' : Fr} (h : ∀ g j, j < F g → w'.cell? ⟨g, j, none⟩ = w.cell? ⟨g, j, none⟩) (le : ∀ g, F g ≤ F' g) : Keeps N w F w' F' :=
  ⟨fun g j hj _ => h g j hj, fun g j v hj hv => ⟨v, (h g j hj).trans hv, .inl rfl⟩, le⟩
theorem Keeps.refl (w : World) (F : Fr) : Keeps N w F w F := .mk' (fun _ _ _ => rfl) fun _ => Nat.le_refl _
theorem Keeps.trans {w w1 w2 : World} {F F1 F2 : Fr} (h : Keeps N w F w1 F1) (k : Keeps N w1 F1 w2 F2) : Keeps N w F w2 F2 :=
  ⟨fun g j hj hz => (k.hard g j (Nat.lt_of_lt_of_le hj (h.le g)) hz).trans (h.hard g j hj hz), fun g j v hj hv => by
    obtain ⟨v1, h1, h2⟩ := h.soft g j v hj hv
    obtain ⟨v2, k1, k2⟩ := k.soft g j v1 (Nat.lt_of_lt_of_le hj (h.le g)) h1
    refine ⟨v2, k1, ?_⟩
    rcases h2 with rfl | ⟨a, b⟩ <;> rcases k2 with rfl | ⟨c, d⟩
    · exact .inl rfl
    · exact .inr ⟨c, d⟩
    · exact .inr ⟨a, b⟩
    · exact .inr ⟨a, d⟩, fun g => Nat.le_trans (h.le g) (k.le g)⟩

theorem RepL.not_plain {w : World} {F : Fr} {c : Fl m} {es : List (List (Leaf m))} {v : Value} (h : RepL w F N (.sl c es) v) : plainV v = false := by cases h; rfl
/-- A row of sealed cells later on. -/
theorem row_keeps {w w' : World} {F F' : Fr} (k : Keeps N w F w' F') {ls : List (Leaf m)} {vals : List Value} {g o : Nat} (hl : vals.length = ls.length) (hle : o + vals.length ≤ F g) (hs : N.Z g = true → ∀ l ∈ ls, l.soft = true)
    (hc : ∀ (j : Nat) (v : Value), vals[j]? = some v → w.cell? ⟨g, o + j, none⟩ = some v) (hr : ∀ (j : Nat) (l : (Leaf m)) (v : Value), ls[j]? = some l → vals[j]? = some v → RepL w F N l v ∧ RepL w' F' N l v) :
    ∃ vals' : List Value, vals'.length = vals.length ∧ (∀ (j : Nat) (v : Value), vals'[j]? = some v → w'.cell? ⟨g, o + j, none⟩ = some v) ∧ (∀ (j : Nat) (l : (Leaf m)) (v : Value), ls[j]? = some l → vals'[j]? = some v → RepL w' F' N l v) := by
  cases hZ : N.Z g with
  | false => exact ⟨vals, rfl, fun j v hj => by
      have hj' := (List.getElem?_eq_some_iff.1 hj).1
      rw [k.hard g (o + j) (by omega) hZ]
      exact hc j v hj, fun j l v a b => (hr j l v a b).2⟩
  | true =>
    have key : ∀ (j : Nat) (v : Value), vals[j]? = some v → ∃ v', w'.cell? ⟨g, o + j, none⟩ = some v' ∧ (v' = v ∨ (plainV v = true ∧ plainV v' = true)) := fun j v hj => by
      have hj' := (List.getElem?_eq_some_iff.1 hj).1
      exact k.soft g (o + j) v (by omega) (hc j v hj)
    refine ⟨(List.range vals.length).map fun j => (w'.cell? ⟨g, o + j, none⟩).getD undef, by simp, fun j v hj => ?_, fun j l v hl' hj => ?_⟩
    · have hj' : j < vals.length := by have := (List.getElem?_eq_some_iff.1 hj).1; simpa using this
      obtain ⟨v', h1, _⟩ := key j _ (List.getElem?_eq_getElem hj')
      simp only [List.getElem?_map, List.getElem?_range hj', Option.map_some, h1, Option.getD_some, Option.some.injEq] at hj
      rw [h1, hj]
    · have hj' : j < vals.length := by have := (List.getElem?_eq_some_iff.1 hj).1; simpa using this
      obtain ⟨v', h1, h2⟩ := key j _ (List.getElem?_eq_getElem hj')
      simp only [List.getElem?_map, List.getElem?_range hj', Option.map_some, h1, Option.getD_some, Option.some.injEq] at hj
      subst hj
      obtain ⟨h00, h0⟩ := hr j l _ hl' (List.getElem?_eq_getElem hj')
      rcases h2 with h2 | ⟨h2, h3⟩
      · rw [h2]; exact h0
      · have hso := hs hZ l (List.mem_of_getElem? hl')
        cases l with
        | unk => exact .unk _ h3
        | sl c es => rw [h00.not_plain] at h2; simp at h2
        | _ => simp [Leaf.soft] at hso

theorem RepL.keeps {w w' : World} {F F' : Fr} (k : Keeps N w F w' F') {l : (Leaf m)} {v : Value} (h : RepL w F N l v) : RepL w' F' N l v := by
  induction h with
  | bool b => exact .bool b
  | int k n => exact .int k n
  | str s => exact .str s
  | unk v h => exact .unk v h
  | sl c es A cap z vals hc hz hv hcell hr ih =>
    by_cases hpos : 0 < es.length
    · obtain ⟨g, o, e, hn, hle, hso, hcells⟩ := hcell hpos
      have hfl : vals.length = es.flatten.length := by rw [hv, List.length_flatten, show es.map List.length = List.replicate es.length z from List.eq_replicate_iff.2 ⟨by simp, by simpa using hz⟩, List.sum_replicate_nat]
      obtain ⟨vals', h1, h2, h3⟩ := row_keeps k hfl hle hso.2 hcells fun j l v a b => ⟨hr j l v a b, ih j l v a b⟩
      exact .sl c es A cap z vals' hc hz (h1.trans hv) (fun _ => ⟨g, o, e, hn, by rw [h1]; exact Nat.le_trans hle (k.le g), hso, h2⟩) h3
    · exact .sl c es A cap z vals hc hz hv (fun h => absurd h hpos) ih
theorem RepL.one {w : World} {F : Fr} {l : (Leaf m)} {v : Value} (h : RepL w F N l v) : v.oneCell' = true := by
  cases h <;> try rfl
  rename_i h; cases v <;> first | rfl | simp [plainV] at h
theorem RepL.cells {w : World} {F : Fr} {l : (Leaf m)} {v : Value} (h : RepL w F N l v) : v.cells = #[v] := by
  cases h <;> try rfl
  rename_i h; cases v <;> first | rfl | simp [plainV] at h

/-- A row of cells. -/
def RepR (w : World) (F : Fr) (N : Env) (ls : List (Leaf m)) (vs : List Value) : Prop := vs.length = ls.length ∧ ∀ (j : Nat) (l : (Leaf m)) (v : Value), ls[j]? = some l → vs[j]? = some v → RepL w F N l v
theorem RepR.keeps {w w' : World} {F F' : Fr} (k : Keeps N w F w' F') {ls : List (Leaf m)} {vs : List Value} (h : RepR w F N ls vs) : RepR w' F' N ls vs :=
  ⟨h.1, fun j l v a b => (h.2 j l v a b).keeps k⟩
theorem RepR.nil (w : World) (F : Fr) (N : Env) : RepR w F N ([] : List (Leaf m)) [] := ⟨rfl, fun j l v h => by simp at h⟩
theorem RepR.cons {w : World} {F : Fr} {l : (Leaf m)} {v : Value} {ls : List (Leaf m)} {vs : List Value} (h : RepL w F N l v) (hs : RepR w F N ls vs) : RepR w F N (l :: ls) (v :: vs) := by
  refine ⟨by simp [hs.1], fun j l' v' a b => ?_⟩
  cases j with
  | zero => simp at a b; subst a b; exact h
  | succ j => simp at a b; exact hs.2 j l' v' a b
theorem RepR.uncons {w : World} {F : Fr} {l : (Leaf m)} {ls : List (Leaf m)} {vs : List Value} (h : RepR w F N (l :: ls) vs) : ∃ v r, vs = v :: r ∧ RepL w F N l v ∧ RepR w F N ls r := by
  cases vs with
  | nil => simp [RepR] at h
  | cons v r => exact ⟨v, r, rfl, h.2 0 l v rfl rfl, by simpa using h.1, fun j l' v' a b => h.2 (j + 1) l' v' (by simpa using a) (by simpa using b)⟩
theorem RepR.append {w : World} {F : Fr} {a b : List (Leaf m)} {x y : List Value} (h : RepR w F N a x) (k : RepR w F N b y) : RepR w F N (a ++ b) (x ++ y) := by
  induction a generalizing x with
  | nil => obtain rfl : x = [] := List.eq_nil_of_length_eq_zero h.1; simpa using k
  | cons l a ih =>
    obtain ⟨v, r, rfl, h1, h2⟩ := h.uncons
    exact RepR.cons h1 (ih h2)
theorem RepR.drop {w : World} {F : Fr} {a : List (Leaf m)} {x : List Value} (h : RepR w F N a x) (n : Nat) : RepR w F N (a.drop n) (x.drop n) :=
  ⟨by simp [h.1], fun j l v p q => h.2 (n + j) l v (by simpa using p) (by simpa using q)⟩
theorem RepR.take {w : World} {F : Fr} {a : List (Leaf m)} {x : List Value} (h : RepR w F N a x) (n : Nat) : RepR w F N (a.take n) (x.take n) := by
  refine ⟨by simp [h.1], fun j l v p q => ?_⟩
  rw [List.getElem?_take] at p q
  split at p
  · rename_i hj; simp only [hj, if_true] at q; exact h.2 j l v p q
  · simp at p
theorem RepR.get {w : World} {F : Fr} {a : List (Leaf m)} {x : List Value} (h : RepR w F N a x) {j : Nat} {l : (Leaf m)} (hl : a[j]? = some l) : ∃ v, x[j]? = some v ∧ RepL w F N l v := by
  have hj : j < x.length := by rw [h.1]; exact (List.getElem?_eq_some_iff.1 hl).1
  exact ⟨x[j], List.getElem?_eq_getElem hj, h.2 j l _ hl (List.getElem?_eq_getElem hj)⟩
theorem RepR.one {w : World} {F : Fr} {a : List (Leaf m)} {x : List Value} (h : RepR w F N a x) : ∀ v ∈ x, v.oneCell' = true := by
  intro v hv
  obtain ⟨j, hj, rfl⟩ := List.getElem_of_mem hv
  have hj' : j < a.length := by rw [← h.1]; exact hj
  exact (h.2 j a[j] _ (List.getElem?_eq_getElem hj') (List.getElem?_eq_getElem hj)).one

/-- A slice's cells as one row. -/
theorem repL_sl {w : World} {F : Fr} {c : Fl m} {es : List (List (Leaf m))} {v : Value} (h : RepL w F N (.sl c es) v) :
    ∃ A cap z vals, v = .slice A es.length cap ∧ es.length ≤ cap ∧ (∀ e ∈ es, e.length = z) ∧ vals.length = es.length * z ∧
      (0 < es.length → ∃ g o, A = some ⟨g, o, none⟩ ∧ (c.fresh = true → N.n ≤ g) ∧ o + vals.length ≤ F g ∧ ((c.isSoft = true → N.Z g = true) ∧ (N.Z g = true → ∀ l ∈ es.flatten, l.soft = true)) ∧ ∀ (j : Nat) (v : Value), vals[j]? = some v → w.cell? ⟨g, o + j, none⟩ = some v) ∧ RepR w F N es.flatten vals := by
  cases h with
  | sl c es A cap z vals hc hz hv hcell hrep =>
    exact ⟨A, cap, z, vals, rfl, hc, hz, hv, hcell, by rw [hv, List.length_flatten, show es.map List.length = List.replicate es.length z from List.eq_replicate_iff.2 ⟨by simp, by simpa using hz⟩, List.sum_replicate_nat], hrep⟩
theorem flatten_length {es : List (List (Leaf m))} {z : Nat} (hz : ∀ e ∈ es, e.length = z) : es.flatten.length = es.length * z := by
  rw [List.length_flatten, show es.map List.length = List.replicate es.length z from List.eq_replicate_iff.2 ⟨by simp, by simpa using hz⟩, List.sum_replicate_nat]
theorem repL_sl_mk {w : World} {F : Fr} {c : Fl m} {es : List (List (Leaf m))} {A : Option Addr} {cap z : Nat} {vals : List Value} (hc : es.length ≤ cap) (hz : ∀ e ∈ es, e.length = z)
    (hcell : 0 < es.length → ∃ g o, A = some ⟨g, o, none⟩ ∧ (c.fresh = true → N.n ≤ g) ∧ o + vals.length ≤ F g ∧ ((c.isSoft = true → N.Z g = true) ∧ (N.Z g = true → ∀ l ∈ es.flatten, l.soft = true)) ∧ ∀ (j : Nat) (v : Value), vals[j]? = some v → w.cell? ⟨g, o + j, none⟩ = some v) (hr : RepR w F N es.flatten vals) : RepL w F N (.sl c es) (.slice A es.length cap) :=
  .sl c es A cap z vals hc hz (by rw [hr.1, flatten_length hz]) hcell hr.2

/-! ### What a slot holds -/
/-- Data and pointers: nobody's own. -/
def RepF (w : World) (F : Fr) (N : Env) (bm : Nat → Nat) (al : Nat → Bool) : (SV m) → Value → Prop
  | .any, _ => True
  | .skip, v => v = undef
  | .leaf l, v => RepL w F N l v
  | .agg cs, v => ∃ vs, v = .agg vs ∧ RepR w F N cs vs.toList
  | .ptr b o, v => v = .pointer (some ⟨bm b, o, none⟩) ∧ al b = true
  | .bsl b z lo n, v => ∃ cap, v = .slice (some ⟨bm b, lo * z, none⟩) n cap ∧ n ≤ cap ∧ al b = true
  | .eptr c e o, v => ∃ g p vals, v = .pointer (some ⟨g, p + o, none⟩) ∧ p + e.length ≤ F g ∧ ((c.isSoft = true → N.Z g = true) ∧ (N.Z g = true → ∀ l ∈ e, l.soft = true)) ∧ RepR w F N e vals ∧ ∀ (j : Nat) (u : Value), vals[j]? = some u → w.cell? ⟨g, p + j, none⟩ = some u
  | .nilptr, v => v = .pointer none
  | .nilface, v => v = .nilIface
  | _, _ => False
def RepO (P : Program) (w : World) (F : Fr) (N : Env) (Ow : Own) (loc : Loc) (eo : Option TypeId) (es : List (List (Leaf m))) (v : Value) : Prop :=
  (v = .slice none 0 0 ∧ es = []) ∨
  ∃ g cap cur e i vals, N.n ≤ g ∧ eo = some e ∧ P.info? e = some i ∧ 0 < i.size ∧ v = .slice (some ⟨g, 0, none⟩) es.length cap ∧ w.heap[g]? = some (.cells cur e (0, 0)) ∧ es.length ≤ cap ∧ cap ≤ maxLen ∧ cur.size = cap * i.size ∧
    (∀ x ∈ es, x.length = i.size) ∧ Ow g = some loc ∧ F g = es.length * i.size ∧ cur.toList.take (es.length * i.size) = vals ∧ RepR w F N es.flatten vals
def RepS (P : Program) (w : World) (F : Fr) (N : Env) (Ow : Own) (bm : Nat → Nat) (al : Nat → Bool) (loc : Loc) : (SV m) → Value → Prop
  | .own eo es, v => RepO P w F N Ow loc eo es v
  | .fn f caps, v => ∃ vs, v = .func (.func f) #[] vs ∧ vs.size = caps.length ∧ ∀ (j : Nat) (c : (SV m)) (u : Value), caps[j]? = some c → vs[j]? = some u → RepF w F N bm al c u
  | .tup cs, v => ∃ vs, v = .tuple vs ∧ vs.size = cs.length ∧ ∀ (j : Nat) (c : (SV m)) (u : Value), cs[j]? = some c → vs[j]? = some u → RepF w F N bm al c u
  | x, v => RepF w F N bm al x v

theorem RepF.keeps {w w' : World} {F F' : Fr} {bm : Nat → Nat} {al : Nat → Bool} (k : Keeps N w F w' F') {x : (SV m)} {v : Value} (h : RepF w F N bm al x v) : RepF w' F' N bm al x v := by
  cases x <;> simp only [RepF] at h ⊢ <;> try exact h
  · exact h.keeps k
  · obtain ⟨vs, e, hr⟩ := h; exact ⟨vs, e, hr.keeps k⟩
  · obtain ⟨g, p, vals, e, hle, hso, hr, hc⟩ := h
    obtain ⟨vals', h1, h2, h3⟩ := row_keeps k hr.1 (by rw [hr.1]; exact hle) hso.2 hc fun j l v a b => ⟨hr.2 j l v a b, (hr.keeps k).2 j l v a b⟩
    exact ⟨g, p, vals', e, Nat.le_trans hle (k.le g), hso, ⟨h1.trans hr.1, h3⟩, h2⟩
theorem RepF.boxes {w : World} {F : Fr} {bm bm' : Nat → Nat} {al al' : Nat → Bool} {x : (SV m)} {v : Value} (h : RepF w F N bm al x v) (hb : ∀ b, al b = true → bm' b = bm b ∧ al' b = true) : RepF w F N bm' al' x v := by
  cases x <;> simp only [RepF] at h ⊢ <;> try exact h
  · obtain ⟨e, ha⟩ := h
    obtain ⟨h1, h2⟩ := hb _ ha
    exact ⟨by rw [h1]; exact e, h2⟩
  · obtain ⟨cap, e, hc, ha⟩ := h
    obtain ⟨h1, h2⟩ := hb _ ha
    exact ⟨cap, by rw [h1]; exact e, hc, h2⟩
/-- The block of a slice that may be appended to is as it was. -/
theorem RepO.keeps {P : Program} {w w' : World} {F F' : Fr} {Ow Ow' : Own} {loc loc' : Loc} {eo : Option TypeId} {es : List (List (Leaf m))} {v : Value} (k : Keeps N w F w' F') (h : RepO P w F N Ow loc eo es v)
    (hb : ∀ g, Ow g = some loc → w'.heap[g]? = w.heap[g]? ∧ F' g = F g ∧ Ow' g = some loc') : RepO P w' F' N Ow' loc' eo es v := by
  rcases h with h | ⟨g, cap, cur, e, i, vals, hn, he, hi, hz, hv, hg, hc, hm, hs, hx, ho, hf, ht, hr⟩
  · exact .inl h
  · obtain ⟨b1, b2, b3⟩ := hb g ho
    exact .inr ⟨g, cap, cur, e, i, vals, hn, he, hi, hz, hv, b1.trans hg, hc, hm, hs, hx, b3, b2.trans hf, ht, hr.keeps k⟩
theorem RepS.keeps {P : Program} {w w' : World} {F F' : Fr} {Ow Ow' : Own} {bm bm' : Nat → Nat} {al al' : Nat → Bool} {loc loc' : Loc} {x : (SV m)} {v : Value} (k : Keeps N w F w' F') (h : RepS P w F N Ow bm al loc x v)
    (hp : ∀ b, al b = true → bm' b = bm b ∧ al' b = true) (hb : ∀ g, Ow g = some loc → w'.heap[g]? = w.heap[g]? ∧ F' g = F g ∧ Ow' g = some loc') : RepS P w' F' N Ow' bm' al' loc' x v := by
  cases x
  case own eo es => exact RepO.keeps k h hb
  case fn f caps => obtain ⟨vs, e, hs, hc⟩ := h; exact ⟨vs, e, hs, fun j c u a b => ((hc j c u a b).keeps k).boxes hp⟩
  case tup cs => obtain ⟨vs, e, hs, hc⟩ := h; exact ⟨vs, e, hs, fun j c u a b => ((hc j c u a b).keeps k).boxes hp⟩
  all_goals (simp only [RepS] at h ⊢; exact (RepF.keeps k h).boxes hp)

/-- It may be read by others. -/
theorem RepO.leaf {P : Program} {w : World} {F : Fr} {Ow : Own} {loc : Loc} {eo : Option TypeId} {es : List (List (Leaf m))} {v : Value} (h : RepO P w F N Ow loc eo es v) : RepL w F N (.sl (Fl.new m) es) v := by
  rcases h with ⟨rfl, rfl⟩ | ⟨g, cap, cur, e, i, vals, hn, he, hi, hz, rfl, hg, hc, hm, hs, hx, ho, hf, ht, hr⟩
  · exact repL_sl_mk (es := []) (z := 0) (vals := []) (Nat.le_refl _) (by simp) (fun h => by simp at h) (RepR.nil _ _ _)
  · refine repL_sl_mk hc hx (fun _ => ⟨g, 0, rfl, fun _ => hn, ?_, ⟨fun h => by rw [Fl.soft_new] at h; simp at h, fun hz => absurd (N.lt g hz) (Nat.not_lt.2 hn)⟩, fun j v hj => ?_⟩) hr
    · rw [hr.1, flatten_length hx, hf]; omega
    · subst ht
      rw [List.getElem?_take] at hj
      split at hj
      · simp only [World.cell?, hg]; simpa using hj
      · simp at hj
theorem RepS.drop {P : Program} {w : World} {F : Fr} {Ow Ow' : Own} {bm : Nat → Nat} {al : Nat → Bool} {loc loc' : Loc} {x : (SV m)} {v : Value} (h : RepS P w F N Ow bm al loc x v) : RepS P w F N Ow' bm al loc' x.drop v := by
  cases x
  case own eo es => exact RepO.leaf h
  all_goals exact h

/-! ### A frame, and the world around it -/
structure Inv (P : Program) (s : (St m)) (tmps : Array Value) (w : World) (F : Fr) (N : Env) (Ow : Own) (bm : Nat → Nat) : Prop where
  len : s.tmps.length = tmps.size
  slot : ∀ t, RepS P w F N Ow bm (fun b => (boxAt s.boxes b).isSome) (.tmp t) (s.tmps.getD t .any) (tmps.getD t undef)
  box : ∀ b cs, boxAt s.boxes b = some cs → ∃ cur e, w.heap[bm b]? = some (.cells cur e (0, 0)) ∧ cur.size = cs.length ∧ F (bm b) = 0 ∧ Ow (bm b) = some (.blk b) ∧
    ∀ (j : Nat) (c : (SV m)) (u : Value), cs[j]? = some c → cur[j]? = some u → RepS P w F N Ow bm (fun b => (boxAt s.boxes b).isSome) (.box b j) c u
  low : N.n ≤ w.heap.size
  new : ∀ g, w.heap.size ≤ g → F g = 0 ∧ Ow g = none
  bmn : ∀ b cs, boxAt s.boxes b = some cs → N.n ≤ bm b
  zow : ∀ g, N.Z g = true → Ow g = none ∧ ∃ cur e, w.heap[g]? = some (.cells cur e (0, 0))

/-- From one state of the frame to a later one. -/
structure Far (N : Env) (w : World) (F : Fr) (Ow : Own) (w' : World) (F' : Fr) (Ow' : Own) : Prop where
  os : w'.os = w.os
  tape : w'.tape = w.tape
  output : w'.output = w.output
  size : w.heap.size ≤ w'.heap.size
  keeps : Keeps N w F w' F'
  old : ∀ g, g < w.heap.size → Ow g = none → (N.Z g = false → w'.heap[g]? = w.heap[g]?) ∧ F' g = F g ∧ Ow' g = none
theorem Far.refl (w : World) (F : Fr) (Ow : Own) : Far N w F Ow w F Ow := ⟨rfl, rfl, rfl, Nat.le_refl _, Keeps.refl _ _, fun _ _ h => ⟨fun _ => rfl, rfl, h⟩⟩
theorem Far.trans {w w1 w2 : World} {F F1 F2 : Fr} {O O1 O2 : Own} (h : Far N w F O w1 F1 O1) (k : Far N w1 F1 O1 w2 F2 O2) : Far N w F O w2 F2 O2 :=
  ⟨k.os.trans h.os, k.tape.trans h.tape, k.output.trans h.output, Nat.le_trans h.size k.size, h.keeps.trans k.keeps, fun g hg ho => by
    obtain ⟨a, b, c⟩ := h.old g hg ho
    obtain ⟨a', b', c'⟩ := k.old g (Nat.lt_of_lt_of_le hg h.size) c
    exact ⟨fun hz => (a' hz).trans (a hz), b'.trans b, c'⟩⟩
end Go.Vs
