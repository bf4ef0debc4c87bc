/- (Boxes m): variables in memory that are made, read and written; slices that are built; what the shadow runner says of the machine's. -/
import Derived.Test.YtdnbagcbdagofaaVVsBuild
set_option linter.unusedVariables false
set_option linter.unusedSimpArgs false
namespace Go.Vs
variable {m : Bool}
variable {P : Program} {N : Env}

theorem buildSliceV_run {w : World} {F : Fr} {t : TypeId} {n : Nat} {ps : List (Nat × (SV m))} {qs : Array (Nat × Value)} {v : (SV m)} (hF : F w.heap.size = 0) (h : buildSliceV P t n ps = some v) (hr : PartsR w F N ps qs.toList) :
    ∃ z w' e i es, (Instr.buildSlice t n qs).run P w = .ok z w' ∧ v = .own (some e) es ∧ P.info? e = some i ∧ 0 < i.size ∧ Grew P w w' F N e i es z w.heap.size := by
  unfold buildSliceV at h
  rw [Option.bind_eq_some_iff] at h
  obtain ⟨e, he, h⟩ := h
  rw [Option.bind_eq_some_iff] at h
  obtain ⟨z, hz, h⟩ := h
  obtain ⟨hzs, h'⟩ := guarded_eq h
  clear h
  split at h'
  · rename_i hc
    obtain ⟨rfl, hc2, hc3⟩ := hc
    rw [Option.map_eq_some_iff] at h'
    obtain ⟨es, hes, rfl⟩ := h'
    have hu := elemT_eq he
    obtain ⟨d, i, hd, hi, rfl⟩ := sizeT_eq hz
    obtain ⟨zv, hzv, hzl⟩ := zeroSized_eq hi hzs
    have run : ∀ (zc : Array Value), ((ps.length * i.size = 0 ∧ zc = #[]) ∨ (ps.length * i.size ≠ 0 ∧ zc = zv.cells)) → ∀ cells, Instr.fill (fun k => some (k * i.size, i.size)) ((Array.range (ps.length * i.size)).map (fun x => zc[x % zc.size]!)) qs.toList = some cells →
        (Instr.buildSlice t ps.length qs).run P w = .ok (.slice (some ⟨w.heap.size, 0, none⟩) ps.length ps.length) (w.alloc (.cells cells e)) := by
      intro zc hzc cells hf
      have hns : ¬ (2 ^ 24 < ps.length * i.size) := by omega
      rcases hzc with ⟨h0, rfl⟩ | ⟨h0, rfl⟩
      · simp [Instr.buildSlice, run_underlying hu, sizeOf_run hi, hns, h0] at hf ⊢
        simp [hf, newRow]
      · simp [Instr.buildSlice, run_underlying hu, sizeOf_run hi, hns, h0, zeroValue, typeInfo, hi, hzv] at hf ⊢
        simp [hf, newRow]
    obtain ⟨zc, hzc⟩ : ∃ zc : Array Value, (ps.length * i.size = 0 ∧ zc = #[]) ∨ (ps.length * i.size ≠ 0 ∧ zc = zv.cells) := by
      by_cases h0 : ps.length * i.size = 0
      · exact ⟨#[], .inl ⟨h0, rfl⟩⟩
      · exact ⟨zv.cells, .inr ⟨h0, rfl⟩⟩
    obtain ⟨cells, h1, h2, _, h4, h5, h6⟩ := elemsV_fill hr 0 es ((Array.range (ps.length * i.size)).map (fun x => zc[x % zc.size]!)) hes (by simp)
    have hcs : cells.size = ps.length * i.size := by rw [h2]; simp
    refine ⟨_, _, e, i, es, run zc hzc cells h1, rfl, hi, hc3, ?_⟩
    have hcl : cells.toList = (cells.toList.drop (0 * i.size)).take (ps.length * i.size) ++ [] := by
      have := Array.length_toList (xs := cells)
      rw [Nat.zero_mul, List.drop_zero, List.append_nil, List.take_of_length_le (by omega)]
    have hmm : maxLen = 9223372036854775807 := rfl
    have hle : ps.length ≤ ps.length * i.size := Nat.le_mul_of_pos_right _ hc3
    have := grew_of_new (P := P) (N := N) (F := F) (e := e) (i := i) (es := es) (cap := ps.length) (.inl rfl) hcl hF (by omega) hcs h6 h4 (by omega)
    rw [h5] at this
    exact this
  · simp at h'

/-! ### A value's cells -/
theorem cells_rep {w : World} {F : Fr} {Ow : Own} {bm : Nat → Nat} {al : Nat → Bool} {loc : Loc} {locf : Nat → Loc} (hloc : locf 0 = loc) {x : (SV m)} {v : Value} (h : RepS P w F N Ow bm al loc x v) (hx : (x.flat || isFn x) = true) :
    v.cells.size = x.cells.length ∧ (∀ u ∈ v.cells.toList, u.oneCell' = true) ∧ ∀ (j : Nat) (c : (SV m)) (u : Value), x.cells[j]? = some c → v.cells[j]? = some u → RepS P w F N Ow bm al (locf j) c u := by
  have single : ∀ (x : (SV m)) (v : Value), v.cells = #[v] → x.cells = [x] → v.oneCell' = true → RepS P w F N Ow bm al loc x v →
      v.cells.size = x.cells.length ∧ (∀ u ∈ v.cells.toList, u.oneCell' = true) ∧ ∀ (j : Nat) (c : (SV m)) (u : Value), x.cells[j]? = some c → v.cells[j]? = some u → RepS P w F N Ow bm al (locf j) c u := by
    intro x v hv hx h1 hr
    rw [hv, hx]
    refine ⟨rfl, by simpa using h1, fun j c u hc hu => ?_⟩
    cases j with
    | zero => simp at hc hu; subst hc hu; rw [hloc]; exact hr
    | succ j => simp at hc
  cases x with
  | any => simp [SV.flat, isFn] at hx
  | skip => simp [SV.flat, isFn] at hx
  | ptr b o => simp [SV.flat, isFn] at hx
  | eptr e o => simp [SV.flat, isFn] at hx
  | bsl b z lo n => simp [SV.flat, isFn] at hx
  | tup vs => simp [SV.flat, isFn] at hx
  | leaf l =>
    have hl : RepL w F N l v := by simpa only [RepS, RepF] using h
    exact single _ _ hl.cells rfl hl.one h
  | own eo es =>
    refine single _ _ ?_ rfl ?_ h
    · rcases (show RepO P w F N Ow loc eo es v from h) with ⟨rfl, _⟩ | ⟨g, cap, cur, e, i, vals, _, _, _, _, rfl, _⟩ <;> rfl
    · rcases (show RepO P w F N Ow loc eo es v from h) with ⟨rfl, _⟩ | ⟨g, cap, cur, e, i, vals, _, _, _, _, rfl, _⟩ <;> rfl
  | agg cs =>
    obtain ⟨vs, rfl, hr⟩ : ∃ vs, v = .agg vs ∧ RepR w F N cs vs.toList := by simpa only [RepS, RepF] using h
    refine ⟨by have := hr.1; simp at this; simp [SV.cells, Value.cells, this], fun u hu => hr.one u (by simpa [Value.cells] using hu), fun j c u hc hu => ?_⟩
    simp only [SV.cells, List.getElem?_map, Option.map_eq_some_iff] at hc
    obtain ⟨l, hl, rfl⟩ := hc
    exact RepS.leaf (hr.2 j l u hl (by simpa [Value.cells] using hu))
  | nilptr =>
    have : v = .pointer none := by simpa only [RepS, RepF] using h
    subst this
    exact single _ _ rfl rfl rfl h
  | nilface =>
    have : v = .nilIface := by simpa only [RepS, RepF] using h
    subst this
    exact single _ _ rfl rfl rfl h
  | fn f caps =>
    obtain ⟨vs, rfl, hr⟩ := (show ∃ vs, v = .func (.func f) #[] vs ∧ _ from h)
    exact single _ _ rfl rfl rfl h

theorem leaves_rep {w : World} {F : Fr} {Ow : Own} {bm : Nat → Nat} {al : Nat → Bool} {loc : Loc} {x : (SV m)} {v : Value} (h : RepS P w F N Ow bm al loc x v) : ∀ l, x.leaves = some l → RepR w F N l v.cells.toList := by
  intro l hl
  cases x <;> simp only [SV.leaves] at hl <;> try (simp at hl; done)
  · simp at hl; subst hl
    rename_i l0
    have h' : RepL w F N l0 v := by simpa only [RepS, RepF] using h
    rw [h'.cells]
    exact RepR.cons h' (RepR.nil _ _ _)
  · simp at hl; subst hl
    have h' := RepO.leaf (show RepO P w F N Ow loc _ _ v from h)
    rw [h'.cells]
    exact RepR.cons h' (RepR.nil _ _ _)
  · simp at hl; subst hl
    rename_i l0
    obtain ⟨vs, rfl, hr⟩ : ∃ vs, v = .agg vs ∧ RepR w F N l0 vs.toList := by simpa only [RepS, RepF] using h
    exact hr

theorem asLeaf_rep {w : World} {F : Fr} {Ow : Own} {bm : Nat → Nat} {al : Nat → Bool} {loc : Loc} {x : (SV m)} {v : Value} (h : RepS P w F N Ow bm al loc x v) {l : (Leaf m)} (hl : asLeaf x = some l) : RepL w F N l v := by
  cases x <;> simp only [asLeaf] at hl <;> try (simp at hl; done)
  · simp at hl; subst hl; simpa only [RepS, RepF] using h
  · simp at hl; subst hl; exact RepO.leaf (show RepO P w F N Ow loc _ _ v from h)
theorem asLeaves_rep {w : World} {F : Fr} {Ow : Own} {bm : Nat → Nat} {al : Nat → Bool} : ∀ (cs : List (SV m)) (us : List Value) (ls : List (Leaf m)) (locf : Nat → Loc), asLeaves cs = some ls → us.length = cs.length →
    (∀ (j : Nat) (c : (SV m)) (u : Value), cs[j]? = some c → us[j]? = some u → RepS P w F N Ow bm al (locf j) c u) → RepR w F N ls us
  | [], us, ls, _, h, hl, _ => by simp [asLeaves] at h; subst h; obtain rfl : us = [] := List.eq_nil_of_length_eq_zero (by simpa using hl); exact RepR.nil _ _ _
  | c :: cs, us, ls, locf, h, hl, hr => by
    simp only [asLeaves] at h
    rw [Option.bind_eq_some_iff] at h
    obtain ⟨l, h1, h⟩ := h
    rw [Option.map_eq_some_iff] at h
    obtain ⟨ls', h2, rfl⟩ := h
    cases us with
    | nil => simp at hl
    | cons u us =>
      exact RepR.cons (asLeaf_rep (hr 0 c u rfl rfl) h1) (asLeaves_rep cs us ls' (fun j => locf (j + 1)) h2 (by simpa using hl) fun j c' u' a b => hr (j + 1) c' u' (by simpa using a) (by simpa using b))

theorem boxAt_set_self {bs : (Boxes m)} {b : Nat} {v : Option (List (SV m))} (h : b < bs.length) : boxAt (bs.set b v) b = v := by
  unfold boxAt; rw [List.getD_eq_getElem?_getD, List.getElem?_set_self h]; rfl
theorem boxAt_set_ne {bs : (Boxes m)} {b c : Nat} {v : Option (List (SV m))} (h : c ≠ b) : boxAt (bs.set b v) c = boxAt bs c := by
  unfold boxAt; rw [List.getD_eq_getElem?_getD, List.getElem?_set_ne (fun e => h e.symm), ← List.getD_eq_getElem?_getD]
theorem boxAt_lt {bs : (Boxes m)} {b : Nat} {cs : List (SV m)} (h : boxAt bs b = some cs) : b < bs.length := by
  unfold boxAt at h
  rcases Nat.lt_or_ge b bs.length with h' | h'
  · exact h'
  · rw [List.getD_eq_getElem?_getD, List.getElem?_eq_none h'] at h; simp at h

section
variable {s : (St m)} {tmps : Array Value} {w : World} {F : Fr} {Ow : Own} {bm : Nat → Nat}

/-- A box is written. -/
theorem Inv.setBox (h : Inv P s tmps w F N Ow bm) {b : Nat} {cs cs' : List (SV m)} {cur cur' : Array Value} {e : TypeId} {w' : World} (hb : boxAt s.boxes b = some cs) (hg : w.heap[bm b]? = some (.cells cur e (0, 0))) (hs : cur'.size = cs'.length)
    (hw1 : ∀ k, k ≠ bm b → w'.heap[k]? = w.heap[k]?) (hw2 : w'.heap[bm b]? = some (.cells cur' e (0, 0))) (hw3 : w'.heap.size = w.heap.size) (hos : w'.os = w.os) (htp : w'.tape = w.tape) (hou : w'.output = w.output)
    (hr : ∀ (j : Nat) (c : (SV m)) (u : Value), cs'[j]? = some c → cur'[j]? = some u → RepS P w F N Ow bm s.al (.box b j) c u) :
    Inv P { s with boxes := s.boxes.set b (some cs') } tmps w' F N Ow bm ∧ Far N w F Ow w' F Ow := by
  obtain ⟨_, _, _, _, hF, hO, _⟩ := h.box b cs hb
  have hlt := boxAt_lt hb
  have hk : Keeps N w F w' F := by
    refine .mk' (fun k j hj => ?_) fun _ => Nat.le_refl _
    have : k ≠ bm b := by rintro rfl; omega
    simp only [World.cell?, hw1 k this]
  have hp : ∀ c, s.al c = true → bm c = bm c ∧ (boxAt (s.boxes.set b (some cs')) c).isSome = true := by
    intro c hc
    refine ⟨rfl, ?_⟩
    by_cases hcb : c = b
    · subst hcb; rw [boxAt_set_self hlt]; rfl
    · rw [boxAt_set_ne hcb]; exact hc
  have ho : ∀ loc g, loc ≠ .blk b → Ow g = some loc → w'.heap[g]? = w.heap[g]? ∧ F g = F g ∧ Ow g = some loc := by
    intro loc g hl hg'
    refine ⟨hw1 g ?_, rfl, hg'⟩
    rintro rfl
    rw [hO] at hg'
    cases hg'
    exact hl rfl
  refine ⟨⟨h.len, fun t => (h.slot t).to hk hp fun _ g hg' => ho _ g (by simp) hg', fun c ds hc => ?_, by rw [hw3]; exact h.low, fun g hg' => h.new g (by omega), fun c ds hc => ?_, fun g hz => ⟨(h.zow g hz).1, by rw [hw1 g (fun e => by rw [e] at hz; have := (h.zow _ hz).1; rw [hO] at this; simp at this)]; exact (h.zow g hz).2⟩⟩, ⟨hos, htp, hou, by omega, hk, fun g _ hg' => ?_⟩⟩
  · by_cases hcb : c = b
    · subst hcb
      have hc' : boxAt (s.boxes.set c (some cs')) c = some ds := hc
      rw [boxAt_set_self hlt] at hc'
      cases hc'
      exact ⟨cur', e, hw2, hs, hF, hO, fun j x u hx hu => (hr j x u hx hu).to hk hp fun _ g hg' => ho _ g (by simp) hg'⟩
    · have hc' : boxAt (s.boxes.set b (some cs')) c = some ds := hc
      rw [boxAt_set_ne hcb] at hc'
      obtain ⟨cur2, e2, g1, g2, g3, g4, g5⟩ := h.box c ds hc'
      have hne : bm c ≠ bm b := by
        intro he
        rw [he, hO] at g4
        cases g4
        exact hcb rfl
      exact ⟨cur2, e2, (hw1 _ hne).trans g1, g2, g3, g4, fun j x u hx hu => (g5 j x u hx hu).to hk hp fun _ g hg' => ho _ g (by simp) hg'⟩
  · by_cases hcb : c = b
    · subst hcb; exact h.bmn c cs hb
    · have hc' : boxAt (s.boxes.set b (some cs')) c = some ds := hc
      rw [boxAt_set_ne hcb] at hc'
      exact h.bmn c ds hc'
  · refine ⟨fun _ => hw1 g ?_, rfl, hg'⟩
    rintro rfl
    rw [hO] at hg'
    simp at hg'

/-- A cell of a box is taken along. -/
theorem Inv.takeBox (h : Inv P s tmps w F N Ow bm) {b p : Nat} {cs : List (SV m)} {c : (SV m)} (hb : boxAt s.boxes b = some cs) (hc : cs[p]? = some c) (to : Loc) :
    ∃ Ow', Inv P { s with boxes := s.boxes.set b (some (cs.set p c.drop)) } tmps w F N Ow' bm ∧ Far N w F Ow w F Ow' ∧ ∃ cur e u, w.heap[bm b]? = some (.cells cur e (0, 0)) ∧ cur[p]? = some u ∧ cur.size = cs.length ∧
      RepS P w F N Ow' bm s.al to c u := by
  obtain ⟨cur, e, h1, h2, h3, h4, h5⟩ := h.box b cs hb
  have hp : p < cs.length := (List.getElem?_eq_some_iff.1 hc).1
  have hu : cur[p]? = some cur[p] := by simp
  obtain ⟨h6, h7⟩ := h.setBox (cs' := cs.set p c.drop) (cur' := cur) hb h1 (by simpa using h2) (fun _ _ => rfl) h1 rfl rfl rfl rfl (fun j x u hx hu' => by
    by_cases hj : j = p
    · subst hj
      rw [List.getElem?_set_self hp] at hx
      cases hx
      exact RepS.drop (h5 j c u hc hu')
    · rw [List.getElem?_set_ne (fun e => hj e.symm)] at hx
      exact h5 j x u hx hu')
  have hlt := boxAt_lt hb
  refine ⟨fun g => if Ow g = some (.box b p) then some to else Ow g, h6.to (Keeps.refl _ _) (Nat.le_refl _) (fun _ _ => rfl) (fun g loc hg hl => ⟨rfl, rfl, ?_⟩) (fun g hg => ⟨(h.new g hg).1, by simp [(h.new g hg).2]⟩) (fun g hg => ⟨by simp [(h.zow g hg).1], (h.zow g hg).2⟩), ⟨rfl, rfl, rfl, Nat.le_refl _, Keeps.refl _ _, fun g _ hg => ⟨fun _ => rfl, rfl, by simp [hg]⟩⟩, cur, e, cur[p], h1, hu, h2, ?_⟩
  · rw [if_neg]
    · exact hg
    · intro he
      rw [he] at hg
      cases hg
      obtain ⟨ds, hd1, hd2⟩ := hl
      have hd1' : boxAt (s.boxes.set b (some (cs.set p c.drop))) b = some ds := hd1
      rw [boxAt_set_self hlt] at hd1'
      cases hd1'
      rw [List.getD_eq_getElem?_getD, List.getElem?_set_self hp] at hd2
      simp [drop_not_own] at hd2
  · exact (h5 p c _ hc hu).to (Keeps.refl _ _) (fun b hb => ⟨rfl, hb⟩) fun _ g hg => ⟨rfl, rfl, by simp [hg]⟩
end
end Go.Vs
