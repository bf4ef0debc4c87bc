/- Texts and bytes, structs and slices that are built: what the shadow runner says of the machine's. -/
import Derived.Test.YtdnbagcbdagofaaVVsApp
import Derived.Laws.IdiomStrings
namespace Go.Vs
variable {m : Bool}
variable {P : Program} {N : Env}

theorem repR_bytes (w : World) (F : Fr) : ∀ (l : List UInt8), RepR w F N (l.map fun b => [(Leaf.int .u8 b.toNat : Leaf m)]).flatten (l.map fun b => Value.int .u8 b.toNat)
  | [] => RepR.nil _ _ _
  | b :: l => by simpa using RepR.cons (.int _ _) (repR_bytes w F l)

theorem append_string_run {w : World} {F : Fr} {Ow : Own} {loc : Loc} {t u ty e : TypeId} {i : TypeInfo} {eo : Option TypeId} {es : List (List (Leaf m))} {v : Value} {s : ByteArray} (hnew : ∀ g, w.heap.size ≤ g → F g = 0) (hlow : N.n ≤ w.heap.size)
    (hO : RepO P w F N Ow loc eo es v) (heo : eo.getD e = e) (ht : P.underlying t = some (.slice e)) (hu : P.underlying u = some .string) (hi : P.info? e = some i) (hzb : zeroByte P e = true) (hb : es.length + s.size ≤ maxBytes) :
    ∃ v' w', (Builtin.append_ #[t, u] ty #[v, .string s]).run P w = .ok v' w' ∧ ((v' = .slice none 0 0 ∧ es ++ (s.data.toList.map fun b => [(Leaf.int .u8 b.toNat : Leaf m)]) = [] ∧ w' = w) ∨
      ∃ g, Grew P w w' F N e i (es ++ s.data.toList.map fun b => [(Leaf.int .u8 b.toNat : Leaf m)]) v' g ∧ N.n ≤ g ∧ ((Ow g = some loc ∧ v.ownBlock = some g) ∨ g = w.heap.size)) := by
  obtain ⟨hz, h1, hby⟩ := zeroByte_eq hi hzb
  have hmb : maxBytes = 140737488355328 := rfl
  have hn : RepR w F N (s.data.toList.map fun b => [(Leaf.int .u8 b.toNat : Leaf m)]).flatten (Lib.strCells s) := repR_bytes w F _
  have hfl : (s.data.toList.map fun b => [(Leaf.int .u8 b.toNat : Leaf m)]).length = s.size := by rw [List.length_map, Array.length_toList]; rfl
  have hsz : ∀ x ∈ (s.data.toList.map fun b => [(Leaf.int .u8 b.toNat : Leaf m)]), x.length = i.size := by
    intro x hx
    obtain ⟨b, _, rfl⟩ := List.mem_map.1 hx
    simp [h1]
  have hnl : (Lib.strCells s).length = s.size := Lib.strCells_length s
  have hzl : (Value.int .u8 0).cells.size = 1 := rfl
  generalize hfs : (s.data.toList.map fun b => [(Leaf.int .u8 b.toNat : Leaf m)]) = fs at *
  rcases hO with ⟨rfl, rfl⟩ | ⟨g, cap, cur, e', i', vals, hNg, he', hi', hz0, rfl, hg, hc, hm, hs, hx, ho, hf, htk, hr⟩
  · by_cases hfe : s.size = 0
    · have : fs = [] := List.eq_nil_of_length_eq_zero (by omega)
      subst this
      refine ⟨.slice none 0 0, w, ?_, .inl ⟨rfl, rfl, rfl⟩⟩
      have hrf := Lib.run_firstCells_string (P := P) w 1 s
      rw [hfe] at hrf
      simp [Builtin.append_, run_underlying ht, run_underlying hu, sizeOf, typeInfo, hi, h1, Builtin.lenOf, hfe, hrf]
    · have hrun := run_append_nil_string (P := P) w t u ty e i (.int .u8 0) ht hu hi hz s (by omega) (by simp at hb; omega) (by rw [hby]; simp at hb; omega)
      have e1 : (s.data.map fun b => Value.int .u8 b.toNat) = (Lib.strCells s).toArray := by
        apply Array.ext'
        simp [Lib.strCells]
      rw [e1] at hrun
      refine ⟨_, _, hrun, .inr ⟨w.heap.size, ?_, hlow, .inr rfl⟩⟩
      have hge := grownCap_ge w s.size 0 e
      have := grew_of_new (P := P) (N := N) (F := F) (e := e) (i := i) (es := [] ++ fs) (vals := Lib.strCells s) (rest := (Builtin.zeroCells (Value.int .u8 0).cells (grownCap w s.size 0 e - s.size)).toList) (cap := grownCap w s.size 0 e)
        (cur := (Lib.strCells s).toArray ++ Builtin.zeroCells (Value.int .u8 0).cells (grownCap w s.size 0 e - s.size)) (.inr rfl) (by simp) (hnew _ (Nat.le_refl _)) (grownCap_le_maxLen w s.size 0 e (by unfold maxLen; simp at hb; omega))
        (by rw [Array.size_append, List.size_toArray, size_zeroCells, hzl, hnl, h1]; omega) (by simpa using hsz) (by simpa using hn) (by simpa [hfl] using hge)
      simpa [hfl] using this
  · subst he'
    simp only [Option.getD_some] at heo
    subst heo
    rw [hi] at hi'
    cases hi'
    have hvl : vals.length = es.length * i.size := by rw [hr.1, flatten_length hx]
    by_cases hroom : es.length + s.size ≤ cap
    · have hcs' : cur.size = cap := by rw [hs, h1, Nat.mul_one]
      have hrun := Lib.run_append_room_string (P := P) w t u ty e' i ht hu hi h1 g es.length cap cur hg s hroom (by omega)
      refine ⟨_, _, hrun, .inr ⟨g, ?_, hNg, .inl ⟨ho, rfl⟩⟩⟩
      have := grew_of_room (P := P) (N := N) (F := F) (es := es) (fs := fs) (vals := vals) (news := Lib.strCells s) hg hm hs hx hsz hf htk hr hn (by rw [hfl]; exact hroom)
      rw [hfl, h1, Nat.mul_one, hnl] at this
      exact this
    · have holds : ∀ j u, vals[j]? = some u → w.cell? ((⟨g, 0, none⟩ : Addr).add j) = some u := by
        intro j x hj
        rw [addr_self, cell_in hg]
        subst htk
        rw [List.getElem?_take] at hj
        split at hj
        · simpa using hj
        · simp at hj
      have hrun := Lib.run_append_grow_string (P := P) w t u ty e' i (.int .u8 0) ht hu hi hz ⟨g, 0, none⟩ es.length cap vals hvl holds s (by omega) (by omega) (by rw [hby]; exact growslice_fits (by omega) (by omega))
      have hge := grownCap_ge w (es.length + s.size) cap e'
      refine ⟨_, _, hrun, .inr ⟨w.heap.size, ?_, hlow, .inr rfl⟩⟩
      have := grew_of_new (P := P) (N := N) (F := F) (e := e') (i := i) (es := es ++ fs) (vals := vals ++ Lib.strCells s) (rest := (Builtin.zeroCells (Value.int .u8 0).cells (grownCap w (es.length + s.size) cap e' - (es.length + s.size))).toList)
        (cap := grownCap w (es.length + s.size) cap e') (cur := vals.toArray ++ (Lib.strCells s).toArray ++ Builtin.zeroCells (Value.int .u8 0).cells (grownCap w (es.length + s.size) cap e' - (es.length + s.size)))
        (.inr rfl) (by simp) (hnew _ (Nat.le_refl _)) (grownCap_le_maxLen w (es.length + s.size) cap e' (by unfold maxLen; omega))
        (by rw [Array.size_append, Array.size_append, List.size_toArray, List.size_toArray, size_zeroCells, hzl, hnl, hvl, h1]; omega)
        (by intro x hx'; rcases List.mem_append.1 hx' with h | h; exact hx x h; exact hsz x h) (by rw [List.flatten_append]; exact hr.append hn) (by rw [List.length_append, hfl]; exact hge)
      rw [List.length_append, hfl] at this
      exact this

/-! ### A block more -/
theorem Inv.more {s : (St m)} {tmps : Array Value} {w w' : World} {F : Fr} {Ow : Own} {bm : Nat → Nat} (h : Inv P s tmps w F N Ow bm) (W : Wrote w w' F w.heap.size) (hs : w.heap.size < w'.heap.size) (n : Nat) :
    ∃ F', Inv P s tmps w' F' N Ow bm ∧ Far N w F Ow w' F' Ow ∧ F' w.heap.size = n ∧ Keeps N w F w' F' := by
  let F' : Fr := fun k => if k = w.heap.size then n else F k
  have hk : Keeps N w F w' F' := by
    refine .mk' (fun k j hj => ?_) fun k => ?_
    · by_cases hkg : k = w.heap.size
      · subst hkg; exact W.cell j hj
      · by_cases hks : k < w.heap.size
        · simp only [World.cell?, W.block k hks hkg]
        · rw [(h.new k (by omega)).1] at hj; omega
    · show F k ≤ if k = w.heap.size then n else F k
      split
      · rename_i hkg; rw [(h.new k (by omega)).1]; omega
      · exact Nat.le_refl _
  refine ⟨F', h.to hk W.size (fun _ _ => rfl) (fun k l hkl _ => ?_) (fun k hk' => ?_) (fun k hz => ⟨(h.zow k hz).1, by rw [W.block k (Nat.lt_of_lt_of_le (N.lt k hz) h.low) (Nat.ne_of_lt (Nat.lt_of_lt_of_le (N.lt k hz) h.low))]; exact (h.zow k hz).2⟩), ⟨W.os, W.tape, W.output, W.size, hk, fun k hks hko => ?_⟩, by simp [F'], hk⟩
  · have hks : k < w.heap.size := by
      rcases Nat.lt_or_ge k w.heap.size with h' | h'
      · exact h'
      · rw [(h.new k h').2] at hkl; simp at hkl
    exact ⟨W.block k hks (by omega), by simp [F', show k ≠ w.heap.size by omega], hkl⟩
  · have := h.new k (by omega)
    exact ⟨by simp [F', show k ≠ w.heap.size by omega, this.1], this.2⟩
  · exact ⟨fun _ => W.block k hks (by omega), by simp [F', show k ≠ w.heap.size by omega], hko⟩

theorem wrote_new {w w' : World} {F : Fr} {o : Obj} (hF : F w.heap.size = 0) (hw : w' = w.alloc o ∨ w' = w.drew.alloc o) : Wrote w w' F w.heap.size ∧ w'.heap.size = w.heap.size + 1 ∧ w'.heap[w.heap.size]? = some o := by
  have hsz : w'.heap.size = w.heap.size + 1 := by rcases hw with rfl | rfl <;> exact Array.size_push _
  refine ⟨⟨?_, ?_, ?_, by omega, by omega, fun k hk _ => ?_, fun j hj => by omega⟩, hsz, ?_⟩
  · rcases hw with rfl | rfl <;> rfl
  · rcases hw with rfl | rfl <;> rfl
  · rcases hw with rfl | rfl <;> rfl
  · rcases hw with rfl | rfl
    · exact heap_alloc_old w _ k hk
    · exact heap_alloc_old w.drew _ k hk
  · rcases hw with rfl | rfl
    · exact heap_alloc_new w _
    · exact heap_alloc_new w.drew _

/-! ### Texts and bytes -/
theorem bytesOf_eq : ∀ (es : List (List (Leaf m))) (l : List UInt8), bytesOfLeaves es = some l → ∃ ns : List Int, es.flatten = ns.map (Leaf.int (m := m) .u8) ∧ es.length = ns.length ∧ l = ns.map (fun n => UInt8.ofNat n.toNat) ∧ ∀ e ∈ es, e.length = 1 := by
  intro es
  induction es with
  | nil => intro l h; simp [bytesOfLeaves] at h; subst h; exact ⟨[], rfl, rfl, rfl, by simp⟩
  | cons e r ih =>
    intro l h
    unfold bytesOfLeaves at h
    split at h
    · simp at *
    · rename_i n r' he
      cases he
      rw [Option.map_eq_some_iff] at h
      obtain ⟨l', hl', rfl⟩ := h
      obtain ⟨ns, h1, h2, h3, h4⟩ := ih l' hl'
      exact ⟨n :: ns, by simp [h1], by simp [h2], by simp [h3], by intro x hx; rcases List.mem_cons.1 hx with rfl | hx; rfl; exact h4 x hx⟩
    · simp at h

/-- A conversion: a value as it was, or a new block. -/
theorem convV_run {w : World} {F : Fr} {src dst : TypeId} {x v : (SV m)} {u : Value} (h : convV P src dst x = some v) (hx : ∀ l, x.drop = .leaf l → RepL w F N l u) :
    (∃ z l, (convert src dst u).run P w = .ok z w ∧ v = .leaf l ∧ RepL w F N l z) ∨
    ∃ (s : ByteArray) (cap : Nat) (o : Obj) (w' : World), (convert src dst u).run P w = .ok (.slice (some ⟨w.heap.size, 0, none⟩) s.size cap) w' ∧ s.size ≤ cap ∧ v = .leaf (.sl (Fl.new m) (s.data.toList.map fun b => [.int .u8 b.toNat])) ∧
      w' = w.drew.alloc o ∧ ∀ j (b : UInt8), s.data.toList[j]? = some b → w'.cell? ⟨w.heap.size, j, none⟩ = some (.int .u8 b.toNat) := by
  unfold convV at h
  split at h
  · rename_i k k' q n hs hd ex
    simp only [Option.some.injEq] at h; subst h
    cases repL_int (hx _ ex)
    exact .inl ⟨.int k' (k'.wrap n), _, by simp [convert, run_underlying hs, run_underlying hd, Conv.intToInt], rfl, .int _ _⟩
  · rename_i s hs hd ex
    simp only [Option.some.injEq] at h; subst h
    cases repL_str (hx _ ex)
    exact .inl ⟨.string s, _, by simp [convert, run_underlying hs, run_underlying hd], rfl, .str _⟩
  · rename_i e c es hs hd ex
    split at h
    · rename_i he
      rw [Option.map_eq_some_iff] at h
      obtain ⟨l, hl, rfl⟩ := h
      obtain ⟨A, cap, z, vals, rfl, hc, hz, hvl, hcell, hr⟩ := repL_sl (hx _ ex)
      obtain ⟨ns, h1, h2, rfl, h4⟩ := bytesOf_eq es l hl
      rcases Nat.eq_zero_or_pos es.length with h0 | h0
      · have : ns = [] := List.eq_nil_of_length_eq_zero (by omega)
        subst this
        have hes : es = [] := List.eq_nil_of_length_eq_zero h0
        subst hes
        cases A with
        | none => exact .inl ⟨.string ByteArray.empty, _, run_convert_bytes_nil w src e hs he _ _ dst hd, rfl, .str _⟩
        | some a =>
          have := run_convert_bytes_back (P := P) w src dst e a cap [] hs he hd (by simp)
          exact .inl ⟨_, _, by simpa using this, rfl, .str _⟩
      · obtain ⟨g, o, rfl, _, _, _, hcl⟩ := hcell h0
        refine .inl ⟨.string (strOfNums ns), _, run_convert_bytes_arg w src e hs he g o es.length cap ns h2.symm (fun i hi => ?_) dst hd, rfl, .str _⟩
        have hi' : i < ns.length := by omega
        have hfl : es.flatten[i]? = some (.int .u8 ns[i]) := by rw [h1]; simp [hi']
        obtain ⟨z, hz1, hz2⟩ := hr.get hfl
        rw [hcl _ _ hz1, repL_int hz2]
        simp [List.getD, hi']
    · simp at h
  · rename_i e s hs hd ex
    split at h
    · rename_i he
      simp only [Option.some.injEq] at h; subst h
      cases repL_str (hx _ ex)
      refine .inr ⟨s, _, _, _, run_bytes_of_string w src dst e s hs hd he, grownCap_ge w s.size 0 e, rfl, rfl, fun j b hb => ?_⟩
      rw [cell_in (g := w.heap.size) (heap_alloc_new w.drew _)]
      have hj : j < s.data.size := by have := (List.getElem?_eq_some_iff.1 hb).1; simpa using this
      simp only [bytesRow]
      rw [Array.getElem?_append_left (by simpa using hj)]
      simp at hb
      simp [hb]
    · simp at h
  · simp at h
end Go.Vs
