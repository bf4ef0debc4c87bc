/- What the shadow runner's slicing, indexing, lengths and parts say of the machine's. -/
import Derived.Test.YtdnbagcbdagofaaVVsVal
namespace Go.Vs
variable {m : Bool}
variable {P : Program} {w : World} {F : Fr} {N : Env}

theorem guarded_eq {β : Type} {b : Bool} {x : Option β} {y : β} (h : guarded b x = some y) : b = true ∧ x = some y := by
  cases b
  · simp [guarded] at h
  · exact ⟨rfl, h⟩
theorem sized_mem {n : Nat} {es : List (List (Leaf m))} (h : sized n es = true) : ∀ e ∈ es, e.length = n := by
  intro e he
  have := List.all_eq_true.1 h e he
  simpa using this
theorem flatten_drop {z : Nat} : ∀ (es : List (List (Leaf m))) (n : Nat), (∀ e ∈ es, e.length = z) → (es.drop n).flatten = es.flatten.drop (n * z)
  | [], n, _ => by simp
  | e :: es, 0, _ => by simp
  | e :: es, n + 1, h => by
    rw [List.drop_succ_cons, flatten_drop es n (fun x hx => h x (List.mem_cons_of_mem _ hx)), List.flatten_cons, List.drop_append]
    have := h e List.mem_cons_self
    rw [List.drop_eq_nil_of_le (as := e) (by rw [Nat.add_mul]; omega), List.nil_append]
    congr 1
    rw [Nat.add_mul]; omega
theorem flatten_take {z : Nat} : ∀ (es : List (List (Leaf m))) (n : Nat), (∀ e ∈ es, e.length = z) → (es.take n).flatten = es.flatten.take (n * z)
  | [], n, _ => by simp
  | e :: es, 0, _ => by simp
  | e :: es, n + 1, h => by
    rw [List.take_succ_cons, List.flatten_cons, flatten_take es n (fun x hx => h x (List.mem_cons_of_mem _ hx)), List.flatten_cons, List.take_append]
    have := h e List.mem_cons_self
    rw [List.take_of_length_le (l := e) (by rw [Nat.add_mul]; omega)]
    congr 2
    rw [Nat.add_mul]; omega
/-- One element's cells among all. -/
theorem flatten_at {z : Nat} {es : List (List (Leaf m))} {n : Nat} {e : List (Leaf m)} (h : ∀ e ∈ es, e.length = z) (he : es[n]? = some e) : (es.flatten.drop (n * z)).take z = e := by
  rw [← flatten_drop es n h]
  have hlt := (List.getElem?_eq_some_iff.1 he).1
  have : es.drop n = e :: es.drop (n + 1) := by
    rw [List.drop_eq_getElem_cons hlt]
    congr 1
    exact (List.getElem?_eq_some_iff.1 he).2
  rw [this, List.flatten_cons, List.take_append]
  have hl := h e (List.mem_of_getElem? he)
  rw [List.take_of_length_le (by omega)]
  simp [hl]

theorem sizeT_eq {t : TypeId} {n : Nat} (h : sizeT P t = some n) : ∃ d i, P.underlying t = some d ∧ P.info? t = some i ∧ i.size = n := by
  unfold sizeT at h
  split at h
  · rename_i d hd
    rw [Option.map_eq_some_iff] at h
    obtain ⟨i, hi, rfl⟩ := h
    exact ⟨d, i, hd, hi, rfl⟩
  · simp at h
theorem elemT_eq {t e : TypeId} (h : elemT P t = some e) : P.underlying t = some (.slice e) := by
  unfold elemT at h
  split at h <;> simp_all
theorem isAggT_eq {t : TypeId} {d : TypeDesc} (h : P.underlying t = some d) : isAggT P t = aggD d := by
  unfold isAggT
  cases d <;> simp [h, aggD]

theorem natOf_int {x : (SV m)} {n : Nat} {v : Value} (h : natOf x = some n) (hx : ∀ l, x = .leaf l → RepL w F N l v) : ∃ k, v = .int k n := by
  unfold natOf at h
  split at h
  · rename_i k m
    split at h
    · rename_i hm
      simp only [Option.some.injEq] at h
      subst h
      refine ⟨k, ?_⟩
      have := repL_int (hx _ rfl)
      rw [this]
      congr 1
      omega
    · simp at h
  · simp at h

/-- A part of a row of cells. -/
theorem partL_run {t : TypeId} {cs : List (Leaf m)} {o : Nat} {v : (SV m)} {vs : Array Value} (h : partL P t cs o = some v) (hr : RepR w F N cs vs.toList) :
    ∃ z, (part t vs o).run P w = .ok z w ∧ ((∃ l, v = .leaf l ∧ RepL w F N l z) ∨ ∃ ls us, v = .agg ls ∧ z = .agg us ∧ RepR w F N ls us.toList) := by
  unfold partL at h
  cases hd : P.underlying t with
  | none =>
    have : isAggT P t = true := by simp [isAggT, hd]
    simp [this, sizeT, hd] at h
  | some d =>
    rw [isAggT_eq hd] at h
    split at h
    · rename_i ha
      rw [Option.bind_eq_some_iff] at h
      obtain ⟨n, hn, h⟩ := h
      obtain ⟨d', i, hd', hi, rfl⟩ := sizeT_eq hn
      split at h
      · rename_i hle
        simp only [Option.some.injEq] at h
        subst h
        refine ⟨.agg (vs.extract o (o + i.size)), by simp [part, isAgg_run hd, ha, sizeOf_run hi], .inr ⟨_, _, rfl, rfl, ?_⟩⟩
        have := (hr.drop o).take i.size
        simpa [Array.toList_extract, List.extract_eq_take_drop] using this
      · simp at h
    · rename_i ha
      rw [Option.map_eq_some_iff] at h
      obtain ⟨l, hl, rfl⟩ := h
      obtain ⟨z, hz, hr'⟩ := hr.get hl
      exact ⟨z, part_run hd (by simpa using ha) (by simpa using hz), .inl ⟨l, rfl, hr'⟩⟩

theorem lenV_run {ts : Array TypeId} {ty : TypeId} {x v : (SV m)} {u : Value} (h : lenV P ts x = some v) (hx : ∀ l, x.drop = .leaf l → RepL w F N l u) (hb : ∀ b z lo n, x.drop = .bsl b z lo n → ∃ A cap, u = .slice A n cap) :
    ∃ z, (Builtin.len_ ts ty #[u]).run P w = .ok z w ∧ ∃ l, v = .leaf l ∧ RepL w F N l z := by
  unfold lenV at h
  cases ht : ts[0]? with
  | none => rw [ht] at h; simp at h
  | some t =>
    rw [ht] at h
    simp only [Option.bind_some] at h
    split at h
    · rename_i s hu ex
      simp only [Option.some.injEq] at h; subst h
      cases repL_str (hx _ ex)
      exact ⟨.int .i64 s.size, by simp [Builtin.len_, ht, run_underlying hu, goInt], _, rfl, .int _ _⟩
    · rename_i e c es hu ex
      simp only [Option.some.injEq] at h; subst h
      obtain ⟨A, cap, z, vals, rfl, _⟩ := repL_sl (hx _ ex)
      exact ⟨.int .i64 es.length, by simp [Builtin.len_, ht, run_underlying hu, goInt], _, rfl, .int _ _⟩
    · rename_i e b z lo n hu ex
      simp only [Option.some.injEq] at h; subst h
      obtain ⟨A, cap, rfl⟩ := hb _ _ _ _ ex
      exact ⟨.int .i64 n, by simp [Builtin.len_, ht, run_underlying hu, goInt], _, rfl, .int _ _⟩
    · simp at h
theorem minV_run {b : Bool} {ts : Array TypeId} {ty : TypeId} {x y v : (SV m)} {u u' : Value} (h : minV b x y = some v) (hx : ∀ l, x = .leaf l → RepL w F N l u) (hy : ∀ l, y = .leaf l → RepL w F N l u') :
    ∃ z, (if b then Builtin.max_ ts ty #[u, u'] else Builtin.min_ ts ty #[u, u']).run P w = .ok z w ∧ ∃ l, v = .leaf l ∧ RepL w F N l z := by
  unfold minV at h
  split at h
  · rename_i k a k' c
    split at h
    · rename_i hk; subst hk
      simp only [Option.some.injEq] at h; subst h
      cases repL_int (hx _ rfl); cases repL_int (hy _ rfl)
      cases b
      · exact ⟨.int k (if c < a then c else a), by simp [Builtin.min_, Builtin.min2], _, rfl, by simpa using .int _ _⟩
      · exact ⟨.int k (if a < c then c else a), by simp [Builtin.max_, Builtin.max2], _, rfl, by simpa using .int _ _⟩
    · simp at h
  · simp at h
theorem indexV_run {t : TypeId} {x i v : (SV m)} {u u' : Value} (h : indexV P t x i = some v) (hx : ∀ l, x = .leaf l → RepL w F N l u) (hi : ∀ l, i = .leaf l → RepL w F N l u') :
    ∃ z, (Instr.index t u u').run P w = .ok z w ∧ ∃ l, v = .leaf l ∧ RepL w F N l z := by
  unfold indexV at h
  split at h
  · rename_i s k n hu
    split at h
    · rename_i h0
      split at h
      · rename_i hn
        simp only [Option.some.injEq] at h; subst h
        cases repL_str (hx _ rfl); cases repL_int (hi _ rfl)
        have hlt : n.toNat < s.size := by omega
        have hb : (if 0 ≤ n then s[n.toNat]? else none) = some s[n.toNat] := by rw [if_pos h0]; exact getElem?_pos s n.toNat hlt
        have he : s.data.toList.getD n.toNat 0 = s[n.toNat] := by
          have : n.toNat < s.data.toList.length := by rw [Array.length_toList]; exact hlt
          rw [List.getD_eq_getElem?_getD, List.getElem?_eq_getElem this]
          simp [ByteArray.getElem_eq_getElem_data]
        refine ⟨.int .u8 s[n.toNat].toNat, by simp only [Instr.index, asIntOf, Sem.run_bind, Sem.run_pure, Result.andThen_ok, run_underlying hu, hb], _, rfl, ?_⟩
        rw [he]
        exact .int _ _
      · simp at h
    · simp at h
  · simp at h
end Go.Vs
