/- What the shadow runner's slices and pointers into their elements say of the machine's. -/
import Derived.Test.YtdnbagcbdagofaaVVsVal2
import Derived.Laws.Cells
namespace Go.Vs
variable {m : Bool}
variable {P : Program} {w : World} {F : Fr} {N : Env}

def BoundV (v : Option Value) (n : Option Nat) : Prop := (v = none ∧ n = none) ∨ ∃ (k : IntKind) (m : Nat), v = some (.int k m) ∧ n = some m
theorem sliceBound_run {k : IntKind} {m y : Nat} (code : BoundsCode) (h : m ≤ y) : (Instr.sliceBound (.int k m) y code).run P w = .ok m w := by
  have h0 : (0 : Int) ≤ (m : Int) ∧ (m : Int) ≤ (y : Int) := by omega
  simp [Instr.sliceBound, asIntOf, h]
theorem sliceBounds_run {b : Bool} {len cap : Nat} {lo hi : Option Value} {l h : Option Nat} (hl : BoundV lo l) (hh : BoundV hi h) (h1 : l.getD 0 ≤ h.getD len) (h2 : h.getD len ≤ cap) :
    (Instr.sliceBounds b len cap lo hi none).run P w = .ok (l.getD 0, h.getD len, cap) w := by
  rcases hl with ⟨rfl, rfl⟩ | ⟨k, m, rfl, rfl⟩ <;> rcases hh with ⟨rfl, rfl⟩ | ⟨k', m', rfl, rfl⟩ <;> simp only [Option.getD_none, Option.getD_some] at h1 h2 ⊢
  · simp [Instr.sliceBounds]
  · simp [Instr.sliceBounds, sliceBound_run _ h2]
  · simp [Instr.sliceBounds, sliceBound_run _ h1]
  · simp [Instr.sliceBounds, sliceBound_run _ h1, sliceBound_run _ h2]

theorem addr_add (g o n : Nat) : (⟨g, o, none⟩ : Addr).add n = ⟨g, o + n, none⟩ := by unfold Addr.add; split <;> simp_all

theorem sliceV_run {t : TypeId} {x v : (SV m)} {l h : Option Nat} {u : Value} {lo hi : Option Value} (hv : sliceV P t x l h = some v) (hx : ∀ l, x.drop = .leaf l → RepL w F N l u) (hl : BoundV lo l) (hh : BoundV hi h) :
    ∃ z, (Instr.sliceAt t u lo hi none).run P w = .ok z w ∧ ∃ l, v = .leaf l ∧ RepL w F N l z := by
  unfold sliceV at hv
  split at hv
  · rename_i s hu ex
    cases repL_str (hx _ ex)
    split at hv
    · rename_i hb
      simp only [Option.some.injEq] at hv; subst hv
      refine ⟨.string (s.extract (l.getD 0) (h.getD s.size)), ?_, _, rfl, .str _⟩
      simp [Instr.sliceAt, Instr.slice, run_underlying hu, sliceBounds_run hl hh hb.1 hb.2]
    · simp at hv
  · rename_i e c es hu ex
    obtain ⟨A, cap, z, vals, rfl, hc, hz, hvl, hcell, hr⟩ := repL_sl (hx _ ex)
    rw [Option.bind_eq_some_iff] at hv
    obtain ⟨e', he', hv⟩ := hv
    rw [Option.bind_eq_some_iff] at hv
    obtain ⟨n, hn, hv⟩ := hv
    obtain ⟨d, i, hd, hi', rfl⟩ := sizeT_eq hn
    have := elemT_eq he'
    rw [hu] at this
    cases this
    split at hv
    · rename_i hb
      obtain ⟨hs, hv⟩ := guarded_eq hv
      simp only [Option.some.injEq] at hv; subst hv
      have hs' := sized_mem hs
      refine ⟨_, by simp [Instr.sliceAt, Instr.slice, run_underlying hu, sliceBounds_run hl hh hb.1 (Nat.le_trans hb.2 hc), sizeOf_run hi']; rfl, _, rfl, ?_⟩
      have hlen : ((es.take (h.getD es.length)).drop (l.getD 0)).length = h.getD es.length - l.getD 0 := by
        rw [List.length_drop, List.length_take]; omega
      rw [← hlen]
      have hflat : ((es.take (h.getD es.length)).drop (l.getD 0)).flatten = (es.flatten.take (h.getD es.length * i.size)).drop (l.getD 0 * i.size) := by
        rw [flatten_drop _ _ (fun x hx => hs' x (List.mem_of_mem_take hx)), flatten_take _ _ hs']
      refine repL_sl_mk (z := i.size) (vals := (vals.take (h.getD es.length * i.size)).drop (l.getD 0 * i.size)) (by rw [hlen]; omega) (fun x hx => hs' x (List.mem_of_mem_take (List.mem_of_mem_drop hx))) (fun hpos => ?_) ?_
      · rw [hlen] at hpos
        obtain ⟨g, o, rfl, hN, hle, hso, hcl⟩ := hcell (by omega)
        have hne : ¬ cap = l.getD 0 := by omega
        have hlv : vals.length = es.length * i.size := by rw [hr.1, flatten_length hs']
        have hmul : h.getD es.length * i.size ≤ es.length * i.size := Nat.mul_le_mul_right _ hb.2
        have hmul2 : l.getD 0 * i.size ≤ h.getD es.length * i.size := Nat.mul_le_mul_right _ hb.1
        refine ⟨g, o + l.getD 0 * i.size, by simp [hne, addr_add], hN, ?_, ⟨hso.1, fun hz' x hx' => hso.2 hz' x ?_⟩, fun j v hj => ?_⟩
        · rw [List.length_drop, List.length_take]; omega
        · rw [hflat] at hx'; exact List.mem_of_mem_take (List.mem_of_mem_drop hx')
        · rw [List.getElem?_drop, List.getElem?_take] at hj
          split at hj
          · have := hcl _ _ hj
            rw [← this, Nat.add_assoc]
          · simp at hj
      · rw [hflat]
        exact (hr.take _).drop _
    · simp at hv
  · simp at hv

/-- A pointer to an element. -/
theorem indexAddrV_run {t : TypeId} {x i v : (SV m)} {u u' : Value} (hv : indexAddrV P t x i = some v) (hx : ∀ l, x.drop = .leaf l → RepL w F N l u) (hi : ∀ l, i = .leaf l → RepL w F N l u') {bm : Nat → Nat} {al : Nat → Bool}
    (hb : ∀ b z lo n, x.drop = .bsl b z lo n → ∃ cap, u = .slice (some ⟨bm b, lo * z, none⟩) n cap ∧ n ≤ cap ∧ al b = true) :
    ∃ z, (Instr.indexAt t u u').run P w = .ok z w ∧ ∀ Ow loc, RepS P w F N Ow bm al loc v z := by
  unfold indexAddrV at hv
  split at hv
  · rename_i e b z lo k kk n he ex
    have hu := elemT_eq he
    rw [Option.bind_eq_some_iff] at hv
    obtain ⟨z', hz, hv⟩ := hv
    obtain ⟨d, inf, hd, hinf, rfl⟩ := sizeT_eq hz
    split at hv
    · rename_i h0
      split at hv
      · rename_i hn
        split at hv
        · rename_i hzz
          simp only [Option.some.injEq] at hv; subst hv
          obtain ⟨cap, rfl, hc, hal⟩ := hb _ _ _ _ ex
          cases repL_int (hi _ rfl)
          refine ⟨.pointer (some ⟨bm b, lo * z + n.toNat * inf.size, none⟩), ?_, fun Ow loc => ?_⟩
          · simp [Instr.indexAt, asIntOf, run_underlying hu, sizeOf_run hinf, h0, hn, addr_add]
          · simp only [RepS, RepF]
            exact ⟨by rw [hzz.1, Nat.add_mul], hal⟩
        · simp at hv
      · simp at hv
    · simp at hv
  · rename_i e c es k n he ex
    have hu := elemT_eq he
    rw [Option.bind_eq_some_iff] at hv
    obtain ⟨z, hz, hv⟩ := hv
    obtain ⟨d, inf, hd, hinf, rfl⟩ := sizeT_eq hz
    split at hv
    · rename_i h0
      split at hv
      · rename_i hn
        obtain ⟨hs, hv⟩ := guarded_eq hv
        simp only [Option.some.injEq] at hv; subst hv
        obtain ⟨A, cap, z, vals, rfl, hc, hz', hvl, hcell, hr⟩ := repL_sl (hx _ ex)
        cases repL_int (hi _ rfl)
        have hs' := sized_mem hs
        have hlt : n.toNat < es.length := by omega
        obtain ⟨g, o, rfl, hN, hle, hso, hcl⟩ := hcell (by omega)
        have hge : es[n.toNat]? = some es[n.toNat] := List.getElem?_eq_getElem hlt
        have hel : es[n.toNat].length = inf.size := hs' _ (List.getElem_mem hlt)
        have hlv : vals.length = es.length * inf.size := by rw [hr.1, flatten_length hs']
        have hmul : n.toNat * inf.size + inf.size ≤ es.length * inf.size := by
          rw [← Nat.succ_mul]; exact Nat.mul_le_mul_right _ hlt
        refine ⟨.pointer (some ⟨g, o + n.toNat * inf.size, none⟩), ?_, fun Ow loc => ?_⟩
        · have hn' : n < (es.length : Int) := hn
          simp [Instr.indexAt, asIntOf, run_underlying hu, sizeOf_run hinf, h0, hn', addr_add]
        · have hD : es.getD n.toNat [] = es[n.toNat] := by rw [List.getD_eq_getElem?_getD, hge]; rfl
          rw [hD]
          simp only [RepS, RepF]
          refine ⟨g, o + n.toNat * inf.size, (vals.drop (n.toNat * inf.size)).take inf.size, rfl, ?_, ⟨hso.1, fun hz x hx => hso.2 hz x (List.mem_flatten.2 ⟨_, List.getElem_mem hlt, hx⟩)⟩, ?_, fun j u hj => ?_⟩
          · rw [hel]; omega
          · have := (hr.drop (n.toNat * inf.size)).take inf.size
            rwa [flatten_at hs' hge] at this
          · rw [List.getElem?_take] at hj
            split at hj
            · rw [List.getElem?_drop] at hj
              rw [← hcl _ _ hj]
              congr 2
              omega
            · simp at hj
      · simp at hv
    · simp at hv
  · simp at hv

/-- A part of a row behind an address. -/
theorem loadL_run {t : TypeId} {cs : List (Leaf m)} {o g p : Nat} {v : (SV m)} {vals : List Value} (h : partL P t cs o = some v) (hr : RepR w F N cs vals) (hc : ∀ (j : Nat) (u : Value), vals[j]? = some u → w.cell? ⟨g, p + j, none⟩ = some u) :
    ∃ z, (Instr.loadAt t (.pointer (some ⟨g, p + o, none⟩))).run P w = .ok z w ∧ ((∃ l, v = .leaf l ∧ RepL w F N l z) ∨ ∃ ls us, v = .agg ls ∧ z = .agg us ∧ RepR w F N ls us.toList) := by
  unfold partL at h
  cases hd : P.underlying t with
  | none =>
    have : isAggT P t = true := by simp [isAggT, hd]
    simp [this, sizeT, hd] at h
  | some d =>
    rw [isAggT_eq hd] at h
    split at h
    · rename_i ha
      rw [Option.bind_eq_some_iff] at h
      obtain ⟨n, hn, h⟩ := h
      obtain ⟨d', i, hd', hi, rfl⟩ := sizeT_eq hn
      split at h
      · rename_i hle
        simp only [Option.some.injEq] at h
        subst h
        have hlen : ((vals.drop o).take i.size).length = i.size := by
          rw [List.length_take, List.length_drop, hr.1]; omega
        have hl := run_loadCells_list (P := P) w ⟨g, p + o, none⟩ ((vals.drop o).take i.size) (fun j v hj => by
          rw [List.getElem?_take] at hj
          split at hj
          · rw [List.getElem?_drop] at hj
            rw [addr_add, ← hc _ _ hj]
            congr 2
            omega
          · simp at hj)
        rw [hlen] at hl
        refine ⟨.agg ((vals.drop o).take i.size).toArray, by simp [Instr.loadAt, Instr.sureAddr, loadVar, isAgg_run hd, ha, sizeOf_run hi, hl], .inr ⟨_, _, rfl, rfl, ?_⟩⟩
        simpa using (hr.drop o).take i.size
      · simp at h
    · rename_i ha
      rw [Option.map_eq_some_iff] at h
      obtain ⟨l, hl, rfl⟩ := h
      obtain ⟨z, hz, hr'⟩ := hr.get hl
      have hcz := hc _ _ hz
      refine ⟨z, ?_, .inl ⟨l, rfl, hr'⟩⟩
      have ha' : aggD d = false := by simpa using ha
      simp [Instr.loadAt, Instr.sureAddr, loadVar, isAgg_run hd, ha', hcz]
end Go.Vs
