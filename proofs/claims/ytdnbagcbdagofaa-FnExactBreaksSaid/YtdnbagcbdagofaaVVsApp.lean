/- Appending: the slice that may be appended to grows in its block or in a new one; all that is sealed stays. -/
import Derived.Test.YtdnbagcbdagofaaVVsInv
import Derived.Laws.OwnMore
import Derived.Lib.AppendStr
set_option linter.unusedVariables false
set_option linter.unusedSimpArgs false
namespace Go.Vs
variable {m : Bool}
variable {P : Program} {N : Env}

/-- A block that one may write to (g) has been written, or made; else all is as it was. -/
structure Wrote (w w' : World) (F : Fr) (g : Nat) : Prop where
  os : w'.os = w.os
  tape : w'.tape = w.tape
  output : w'.output = w.output
  size : w.heap.size ≤ w'.heap.size
  top : w'.heap.size ≤ max w.heap.size (g + 1)
  block : ∀ k, k < w.heap.size → k ≠ g → w'.heap[k]? = w.heap[k]?
  cell : ∀ j, j < F g → w'.cell? ⟨g, j, none⟩ = w.cell? ⟨g, j, none⟩

/-- The new slice. -/
structure Grew (P : Program) (w w' : World) (F : Fr) (N : Env) (e : TypeId) (i : TypeInfo) (es : List (List (Leaf m))) (v : Value) (g : Nat) : Prop where
  row : ∃ cap cur vals, v = .slice (some ⟨g, 0, none⟩) es.length cap ∧ w'.heap[g]? = some (.cells cur e (0, 0)) ∧ es.length ≤ cap ∧ cap ≤ maxLen ∧ cur.size = cap * i.size ∧ cur.toList.take (es.length * i.size) = vals ∧ RepR w F N es.flatten vals
  sized : ∀ x ∈ es, x.length = i.size
  wrote : Wrote w w' F g
  le : F g ≤ es.length * i.size

theorem cell_in {w : World} {g : Nat} {cur : Array Value} {e : TypeId} {z : Nat × Nat} (h : w.heap[g]? = some (.cells cur e z)) (j : Nat) : w.cell? ⟨g, j, none⟩ = cur[j]? := by
  simp [World.cell?, h]

theorem Inv.grown {s : (St m)} {tmps : Array Value} {w w' : World} {F : Fr} {Ow : Own} {bm : Nat → Nat} {loc to : Loc} {e : TypeId} {i : TypeInfo} {es : List (List (Leaf m))} {v : Value} {g : Nat} (h : Inv P s tmps w F N Ow bm)
    (hi : P.info? e = some i) (h0 : 0 < i.size) (G : Grew P w w' F N e i es v g) (hg : (Ow g = some loc ∧ ¬ s.holds loc) ∨ g = w.heap.size) (hN : N.n ≤ g) :
    ∃ F' Ow', Inv P s tmps w' F' N Ow' bm ∧ Far N w F Ow w' F' Ow' ∧ (∀ al, RepS P w' F' N Ow' bm al to (.own (some e) es) v) := by
  let F' : Fr := fun k => if k = g then es.length * i.size else F k
  let Ow' : Own := fun k => if k = g then some to else Ow k
  have W := G.wrote
  have hk : Keeps N w F w' F' := by
    refine .mk' (fun k j hj => ?_) fun k => ?_
    · by_cases hkg : k = g
      · subst hkg; exact W.cell j hj
      · by_cases hks : k < w.heap.size
        · simp only [World.cell?, W.block k hks hkg]
        · rw [(h.new k (by omega)).1] at hj; omega
    · show F k ≤ if k = g then es.length * i.size else F k
      split
      · rename_i hkg; subst hkg; exact G.le
      · exact Nat.le_refl _
  obtain ⟨cap, cur, vals, hv, hb, hc, hm, hs, ht, hr⟩ := G.row
  have hlt : g < w'.heap.size := by
    rcases Nat.lt_or_ge g w'.heap.size with h | h
    · exact h
    · rw [Array.getElem?_eq_none h] at hb; simp at hb
  refine ⟨F', Ow', h.to hk W.size (fun _ _ => rfl) (fun k l hkl hl => ?_) (fun k hk' => ?_) (fun k hz => ?_), ⟨W.os, W.tape, W.output, W.size, hk, fun k hks hko => ?_⟩, fun al => ?_⟩
  · have hne : k ≠ g := by
      rintro rfl
      rcases hg with ⟨h1, h2⟩ | h1
      · rw [h1] at hkl; cases hkl; exact h2 hl
      · rw [(h.new k (by omega)).2] at hkl; simp at hkl
    have hks : k < w.heap.size := by
      rcases Nat.lt_or_ge k w.heap.size with h' | h'
      · exact h'
      · rw [(h.new k h').2] at hkl; simp at hkl
    exact ⟨W.block k hks hne, by simp [F', hne], by simp [Ow', hne, hkl]⟩
  · have hne : k ≠ g := by omega
    have := h.new k (Nat.le_trans W.size hk')
    exact ⟨by simp [F', hne, this.1], by simp [Ow', hne, this.2]⟩
  · have hne : k ≠ g := by have := N.lt k hz; omega
    obtain ⟨z1, z2⟩ := h.zow k hz
    have hks : k < w.heap.size := Nat.lt_of_lt_of_le (N.lt k hz) h.low
    exact ⟨by simp [Ow', hne, z1], by rw [W.block k hks hne]; exact z2⟩
  · have hne : k ≠ g := by
      rintro rfl
      rcases hg with ⟨h1, _⟩ | h1
      · rw [h1] at hko; simp at hko
      · omega
    exact ⟨fun _ => W.block k hks hne, by simp [F', hne], by simp [Ow', hne, hko]⟩
  · simp only [RepS]
    exact .inr ⟨g, cap, cur, e, i, vals, hN, rfl, hi, h0, hv, hb, hc, hm, hs, G.sized, by simp [Ow'], by simp [F'], ht, hr.keeps hk⟩

theorem addr_self (g j : Nat) : (⟨g, 0, none⟩ : Addr).add j = ⟨g, j, none⟩ := by rw [addr_add]; simp

/-- The new cells are there: in room, or in a new block. -/
theorem grew_of_room {w : World} {F : Fr} {e : TypeId} {i : TypeInfo} {es fs : List (List (Leaf m))} {vals news : List Value} {g cap : Nat} {cur : Array Value}
    (hb : w.heap[g]? = some (.cells cur e (0, 0))) (hm : cap ≤ maxLen) (hs : cur.size = cap * i.size) (hes : ∀ x ∈ es, x.length = i.size) (hfs : ∀ x ∈ fs, x.length = i.size)
    (hF : F g = es.length * i.size) (ht : cur.toList.take (es.length * i.size) = vals) (hr : RepR w F N es.flatten vals) (hn : RepR w F N fs.flatten news) (hroom : es.length + fs.length ≤ cap) :
    Grew P w (w.setRow g (cur.toList.take (es.length * i.size) ++ news ++ cur.toList.drop (es.length * i.size + news.length)).toArray) F N e i (es ++ fs) (.slice (some ⟨g, 0, none⟩) (es.length + fs.length) cap) g := by
  have hnl : news.length = fs.length * i.size := by rw [hn.1, flatten_length hfs]
  have hvl : vals.length = es.length * i.size := by rw [hr.1, flatten_length hes]
  have hfit : es.length * i.size + news.length ≤ cur.size := by rw [hnl, hs, ← Nat.add_mul]; exact Nat.mul_le_mul_right _ hroom
  have hset := setRow_heap w g cur (cur.toList.take (es.length * i.size) ++ news ++ cur.toList.drop (es.length * i.size + news.length)).toArray e (0, 0) hb
  refine ⟨⟨cap, _, vals ++ news, by rw [List.length_append], hset, by rw [List.length_append]; exact hroom, hm, ?_, ?_, ?_⟩, ?_, ?_, ?_⟩
  · simp only [List.size_toArray, List.length_append, List.length_take, List.length_drop, Array.length_toList]
    omega
  · rw [ht, List.length_append, Nat.add_mul, ← hnl, ← hvl, ← List.length_append]
    exact List.take_left
  · rw [List.flatten_append]
    exact hr.append hn
  · intro x hx
    rcases List.mem_append.1 hx with h | h
    · exact hes x h
    · exact hfs x h
  · refine ⟨rfl, rfl, rfl, by simp, Nat.le_trans (Nat.le_of_eq (by simp)) (Nat.le_max_left _ _), fun k _ hk => setRow_other w g k _ hk, fun j hj => ?_⟩
    rw [cell_in hset, cell_in hb]
    rw [hF] at hj
    have : (cur.toList.take (es.length * i.size) ++ news ++ cur.toList.drop (es.length * i.size + news.length))[j]? = cur.toList[j]? := by
      have hlt : j < (cur.toList.take (es.length * i.size)).length := by
        have hsz' : es.length * i.size ≤ cur.toList.length := by
          have := Array.length_toList (xs := cur)
          omega
        rw [List.length_take]
        exact Nat.lt_min.2 ⟨hj, Nat.lt_of_lt_of_le hj hsz'⟩
      rw [List.append_assoc, List.getElem?_append_left hlt, List.getElem?_take, if_pos hj]
    simpa using this
  · rw [hF, List.length_append, Nat.add_mul]; omega

theorem grew_of_new {w w' : World} {F : Fr} {e : TypeId} {i : TypeInfo} {es : List (List (Leaf m))} {vals rest : List Value} {cap : Nat} {cur : Array Value} (hw : w' = w.alloc (.cells cur e) ∨ w' = w.drew.alloc (.cells cur e)) (hcur : cur.toList = vals ++ rest)
    (hF : F w.heap.size = 0) (hm : cap ≤ maxLen) (hs : cur.size = cap * i.size) (hes : ∀ x ∈ es, x.length = i.size) (hr : RepR w F N es.flatten vals) (hc : es.length ≤ cap) :
    Grew P w w' F N e i es (.slice (some ⟨w.heap.size, 0, none⟩) es.length cap) w.heap.size := by
  have hvl : vals.length = es.length * i.size := by rw [hr.1, flatten_length hes]
  have hnew : w'.heap[w.heap.size]? = some (.cells cur e (0, 0)) := by
    rcases hw with rfl | rfl
    · exact heap_alloc_new w _
    · exact heap_alloc_new w.drew _
  have hsz : w'.heap.size = w.heap.size + 1 := by rcases hw with rfl | rfl <;> exact Array.size_push _
  refine ⟨⟨cap, cur, vals, rfl, hnew, hc, hm, hs, ?_, hr⟩, hes, ⟨?_, ?_, ?_, by omega, by omega, fun k hk _ => ?_, fun j hj => by omega⟩, by omega⟩
  · rw [hcur, ← hvl]; exact List.take_left
  · rcases hw with rfl | rfl <;> rfl
  · rcases hw with rfl | rfl <;> rfl
  · rcases hw with rfl | rfl <;> rfl
  · rcases hw with rfl | rfl
    · exact heap_alloc_old w _ k hk
    · exact heap_alloc_old w.drew _ k hk

theorem leaf_cells {w : World} {F : Fr} {l : (Leaf m)} {v : Value} (h : RepL w F N l v) : v.cells = #[v] := h.cells
theorem zeroSized_eq {e : TypeId} {i : TypeInfo} (hi : P.info? e = some i) (h : zeroSized P e = true) : ∃ z, i.zero = some z ∧ z.cells.size = i.size := by
  unfold zeroSized at h
  rw [hi] at h
  simp only at h
  split at h
  · rename_i z hz; exact ⟨z, hz, by simpa using h⟩
  · simp at h
theorem zeroByte_eq {e : TypeId} {i : TypeInfo} (hi : P.info? e = some i) (h : zeroByte P e = true) : i.zero = some (.int .u8 0) ∧ i.size = 1 ∧ i.bytes = 1 := by
  unfold zeroByte at h
  rw [hi] at h
  simp only at h
  split at h
  · rename_i n hz
    simp only [Bool.and_eq_true, beq_iff_eq] at h
    obtain ⟨⟨rfl, h2⟩, h3⟩ := h
    exact ⟨hz, h2, h3⟩
  · simp at h

theorem append_slice_run {w : World} {F : Fr} {Ow : Own} {loc : Loc} {t ty e : TypeId} {i : TypeInfo} {eo : Option TypeId} {es fs : List (List (Leaf m))} {c : Fl m} {v u : Value} (hnew : ∀ g, w.heap.size ≤ g → F g = 0) (hlow : N.n ≤ w.heap.size)
    (hO : RepO P w F N Ow loc eo es v) (heo : eo.getD e = e) (hy : RepL w F N (.sl c fs) u) (ht : P.underlying t = some (.slice e)) (hi : P.info? e = some i) (hzs : zeroSized P e = true) (h0 : 0 < i.size) (hby : 0 < i.bytes) (hsz : ∀ x ∈ fs, x.length = i.size)
    (hb : (es.length + fs.length) * i.bytes ≤ maxBytes) :
    ∃ v' w', (Builtin.append_ #[t, t] ty #[v, u]).run P w = .ok v' w' ∧ ((v' = .slice none 0 0 ∧ es ++ fs = [] ∧ w' = w) ∨ ∃ g, Grew P w w' F N e i (es ++ fs) v' g ∧ N.n ≤ g ∧ ((Ow g = some loc ∧ v.ownBlock = some g) ∨ g = w.heap.size)) := by
  obtain ⟨z, hz, hzl⟩ := zeroSized_eq hi hzs
  obtain ⟨A, m, z', news, rfl, hcm, _, _, hcell, hn⟩ := repL_sl hy
  have hnl : news.length = fs.length * i.size := by rw [hn.1, flatten_length hsz]
  have hle : es.length + fs.length ≤ maxBytes := Nat.le_trans (Nat.le_mul_of_pos_right _ hby) hb
  have hmb : maxBytes = 140737488355328 := rfl
  have one : ∀ x ∈ news, x.oneCell' = true := hn.one
  have holdes : ∀ x ∈ es ++ fs, x.length = i.size → True := fun _ _ _ => trivial
  rcases hO with ⟨rfl, rfl⟩ | ⟨g, cap, cur, e', i', vals, hNg, he', hi', hz0, rfl, hg, hc, hm, hs, hx, ho, hf, htk, hr⟩
  · by_cases hfe : fs = []
    · subst hfe
      refine ⟨.slice none 0 0, w, ?_, .inl ⟨rfl, rfl, rfl⟩⟩
      cases A with
      | none => simp [Builtin.append_, run_underlying ht, sizeOf, typeInfo, hi, Builtin.lenOf, Builtin.firstCells]
      | some a => simp [Builtin.append_, run_underlying ht, sizeOf, typeInfo, hi, Builtin.lenOf, Builtin.firstCells, loadCells, loadCellsFrom]
    · have hpos : 0 < fs.length := List.length_pos_iff.2 hfe
      obtain ⟨ga, o, rfl, _, _, _, hcl⟩ := hcell hpos
      have hrun := run_append_nil (P := P) w t ty e i z ht hi hz ⟨ga, o, none⟩ fs.length m news hnl (fun j x hj => by rw [addr_add]; exact hcl j x hj) hpos (by simp at hle; omega) (by simp at hb; omega)
      refine ⟨_, _, hrun, .inr ⟨w.heap.size, ?_, hlow, .inr rfl⟩⟩
      have hge := grownCap_ge w fs.length 0 e
      exact grew_of_new (es := [] ++ fs) (vals := news) (rest := (Builtin.zeroCells z.cells (grownCap w fs.length 0 e - fs.length)).toList) (.inr rfl) (by simp) (hnew _ (Nat.le_refl _)) (grownCap_le_maxLen w fs.length 0 e (by unfold maxLen; simp at hle; omega))
        (by rw [Array.size_append, List.size_toArray, size_zeroCells, hzl, hnl, ← Nat.add_mul]; congr 1; omega) (by simpa using hsz) (by simpa using hn) (by simpa using hge)
  · subst he'
    simp only [Option.getD_some] at heo
    subst heo
    rw [hi] at hi'
    cases hi'
    by_cases hroom : es.length + fs.length ≤ cap
    · have hgrew := grew_of_room (P := P) (N := N) (F := F) (es := es) (fs := fs) (vals := vals) (news := news) hg hm hs hx hsz hf htk hr hn hroom
      have hfit : es.length * i.size + news.length ≤ cur.size := by rw [hnl, hs, ← Nat.add_mul]; exact Nat.mul_le_mul_right _ hroom
      cases A with
      | none =>
        have hfe : fs = [] := by
          rcases Nat.eq_zero_or_pos fs.length with h | h
          · exact List.eq_nil_of_length_eq_zero h
          · obtain ⟨_, _, h', _⟩ := hcell h; simp at h'
        subst hfe
        have hne : news = [] := List.eq_nil_of_length_eq_zero (by simpa using hnl)
        subst hne
        refine ⟨.slice (some ⟨g, 0, none⟩) es.length cap, w, ?_, .inr ⟨g, ?_, hNg, .inl ⟨ho, rfl⟩⟩⟩
        · simp at hroom
          simp [Builtin.append_, run_underlying ht, sizeOf, typeInfo, hi, Builtin.lenOf, Builtin.firstCells, hroom, storeCells]
        · have hself : w.setRow g (cur.toList.take (es.length * i.size) ++ [] ++ cur.toList.drop (es.length * i.size + ([] : List Value).length)).toArray = w := by
            simp only [List.append_nil, List.length_nil, Nat.add_zero, List.take_append_drop]
            exact setRow_self w g cur _ (0, 0) hg
          rw [hself] at hgrew
          simpa using hgrew
      | some a =>
        by_cases hfe : fs = []
        · subst hfe
          have hne : news = [] := List.eq_nil_of_length_eq_zero (by simpa using hnl)
          subst hne
          have hrun := run_append_room (P := P) w t ty _ i ht hi g es.length cap cur hg a 0 m [] (by simp) (by simp) (by simp) (by simpa using hroom) (by simpa using hfit)
          exact ⟨_, _, hrun, .inr ⟨g, by simpa using hgrew, hNg, .inl ⟨ho, rfl⟩⟩⟩
        · obtain ⟨ga, o, h', _, _, _, hcl⟩ := hcell (List.length_pos_iff.2 hfe)
          cases h'
          have hrun := run_append_room (P := P) w t ty _ i ht hi g es.length cap cur hg ⟨ga, o, none⟩ fs.length m news hnl (fun j x hj => by rw [addr_add]; exact hcl j x hj) one hroom hfit
          exact ⟨_, _, hrun, .inr ⟨g, hgrew, hNg, .inl ⟨ho, rfl⟩⟩⟩
    · have hpos : 0 < fs.length := by omega
      obtain ⟨ga, o, rfl, _, _, _, hcl⟩ := hcell hpos
      have hvl : vals.length = es.length * i.size := by rw [hr.1, flatten_length hx]
      have holds : ∀ j u, vals[j]? = some u → w.cell? ((⟨g, 0, none⟩ : Addr).add j) = some u := by
        intro j x hj
        rw [addr_self, cell_in hg]
        subst htk
        rw [List.getElem?_take] at hj
        split at hj
        · simpa using hj
        · simp at hj
      have hrun := run_append_grow (P := P) w t ty _ i z ht hi hz ⟨g, 0, none⟩ es.length cap vals hvl holds ⟨ga, o, none⟩ fs.length m news hnl (fun j x hj => by rw [addr_add]; exact hcl j x hj) (by omega) (by omega) (growslice_fits (by omega) (by omega))
      have hge := grownCap_ge w (es.length + fs.length) cap e'
      refine ⟨_, _, hrun, .inr ⟨w.heap.size, ?_, hlow, .inr rfl⟩⟩
      have := grew_of_new (P := P) (N := N) (F := F) (e := e') (i := i) (es := es ++ fs) (vals := vals ++ news) (rest := (Builtin.zeroCells z.cells (grownCap w (es.length + fs.length) cap e' - (es.length + fs.length))).toList)
        (cap := grownCap w (es.length + fs.length) cap e') (.inr rfl) (by simp) (hnew _ (Nat.le_refl _)) (grownCap_le_maxLen w (es.length + fs.length) cap e' (by unfold maxLen; omega))
        (cur := vals.toArray ++ news.toArray ++ Builtin.zeroCells z.cells (grownCap w (es.length + fs.length) cap e' - (es.length + fs.length)))
        (by rw [Array.size_append, Array.size_append, List.size_toArray, List.size_toArray, size_zeroCells, hzl, hnl, hvl, ← Nat.add_mul, ← Nat.add_mul]; congr 1; omega)
        (by intro x hx'; rcases List.mem_append.1 hx' with h | h; exact hx x h; exact hsz x h) (by rw [List.flatten_append]; exact hr.append hn) (by rw [List.length_append]; exact hge)
      rw [List.length_append] at this
      exact this
end Go.Vs
