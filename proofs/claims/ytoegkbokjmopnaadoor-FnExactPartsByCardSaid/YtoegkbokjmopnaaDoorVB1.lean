/- What the program's functions compute, read off their text by the shadow runner (VsVal3, VsInv, VsApp, VsMem, VsBuild, VsBox, VsSound, VsSound2); no condition. -/
import Derived.Laws.Cells
import Derived.Laws.OwnMore
import Derived.Lib.AppendStr
import Derived.Laws.IdiomStrings
import Derived.Laws.Tables
import Derived.Laws.MakeOwn
import Derived.Test.YtoegkbokjmopnaaDoorVB0
section
namespace Go.Vs
variable {m : Bool}
variable {P : Program} {w : World} {F : Fr} {N : Env}
def BoundV (v : Option Value) (n : Option Nat) : Prop := (v = none ∧ n = none) ∨ ∃ (k : IntKind) (m : Nat), v = some (.int k m) ∧ n = some m
theorem sliceBound_run {k : IntKind} {m y : Nat} (code : BoundsCode) (h : m ≤ y) : (Instr.sliceBound (.int k m) y code).run P w = .ok m w := by
  have h0 : (0 : Int) ≤ (m : Int) ∧ (m : Int) ≤ (y : Int) := by omega
  simp [Instr.sliceBound, asIntOf, h]
theorem sliceBounds_run {b : Bool} {len cap : Nat} {lo hi : Option Value} {l h : Option Nat} (hl : BoundV lo l) (hh : BoundV hi h) (h1 : l.getD 0 ≤ h.getD len) (h2 : h.getD len ≤ cap) :
    (Instr.sliceBounds b len cap lo hi none).run P w = .ok (l.getD 0, h.getD len, cap) w := by
  rcases hl with ⟨rfl, rfl⟩ | ⟨k, m, rfl, rfl⟩ <;> rcases hh with ⟨rfl, rfl⟩ | ⟨k', m', rfl, rfl⟩ <;> simp only [Option.getD_none, Option.getD_some] at h1 h2 ⊢
  · simp [Instr.sliceBounds]
  · simp [Instr.sliceBounds, sliceBound_run _ h2]
  · simp [Instr.sliceBounds, sliceBound_run _ h1]
  · simp [Instr.sliceBounds, sliceBound_run _ h1, sliceBound_run _ h2]
theorem addr_add (g o n : Nat) : (⟨g, o, none⟩ : Addr).add n = ⟨g, o + n, none⟩ := by unfold Addr.add; split <;> simp_all
def BslAt (bm : Nat → Nat) (al : Nat → Bool) (b z lo n : Nat) (u : Value) : Prop := ((n = 0 ∧ ∃ A cap, u = .slice A 0 cap) ∨ ∃ cap, u = .slice (some ⟨bm b, lo * z, none⟩) n cap ∧ n ≤ cap) ∧ al b = true
theorem BslAt.len {bm : Nat → Nat} {al : Nat → Bool} {b z lo n : Nat} {u : Value} (h : BslAt bm al b z lo n u) : ∃ A cap, u = .slice A n cap ∧ n ≤ cap ∧ (0 < n → A = some ⟨bm b, lo * z, none⟩) := by
  rcases h with ⟨⟨rfl, A, cap, rfl⟩ | ⟨cap, rfl, hc⟩, _⟩
  · exact ⟨A, cap, rfl, Nat.zero_le _, fun h => by omega⟩
  · exact ⟨_, cap, rfl, hc, fun _ => rfl⟩
theorem bsl_part {bm : Nat → Nat} {al : Nat → Bool} {b z lo n l h m : Nat} {A : Option Addr} (ha : al b = true) (hA : 0 < n → A = some ⟨bm b, lo * z, none⟩) (h1 : l ≤ h) (h2 : h ≤ m) (h3 : h ≤ n) :
    BslAt bm al b z (lo + l) (h - l) (.slice (if m = l then A else A.map (·.add (l * z))) (h - l) (m - l)) := by
  refine ⟨?_, ha⟩
  by_cases h0 : h - l = 0
  · exact .inl ⟨h0, _, m - l, by rw [h0]⟩
  · refine .inr ⟨m - l, ?_, by omega⟩
    rw [if_neg (by omega), hA (by omega)]
    simp only [Option.map_some, addr_add]
    rw [Nat.add_mul]
theorem sliceV_run {t : TypeId} {x v : (SV m)} {l h : Option Nat} {u : Value} {lo hi : Option Value} (hv : sliceV P t x l h = some v) (hx : ∀ l, x.drop = .leaf l → RepL w F N l u) (hl : BoundV lo l) (hh : BoundV hi h)
    {bm : Nat → Nat} {al : Nat → Bool} (hbx : ∀ b z lo n, x.drop = .bsl b z lo n → BslAt bm al b z lo n u) :
    ∃ z, (Instr.sliceAt t u lo hi none).run P w = .ok z w ∧ ∀ Ow loc, RepS P w F N Ow bm al loc v z := by
  suffices hs : (∃ z, (Instr.sliceAt t u lo hi none).run P w = .ok z w ∧ ∃ l, v = .leaf l ∧ RepL w F N l z) ∨ (∃ z, (Instr.sliceAt t u lo hi none).run P w = .ok z w ∧ ∃ b z' k n, v = .bsl b z' k n ∧ BslAt bm al b z' k n z) by
    rcases hs with ⟨z, h1, l, rfl, h2⟩ | ⟨z, h1, b, z', k, n, rfl, h2⟩
    · exact ⟨z, h1, fun Ow loc => by simp only [RepS, RepF]; exact h2⟩
    · exact ⟨z, h1, fun Ow loc => by simp only [RepS, RepF]; exact h2⟩
  unfold sliceV at hv
  split at hv
  · right
    rename_i e b z k n hu ex
    obtain ⟨A, cap, rfl, hc, hA⟩ := (hbx _ _ _ _ ex).len
    rw [Option.bind_eq_some_iff] at hv
    obtain ⟨e', he', hv⟩ := hv
    rw [Option.bind_eq_some_iff] at hv
    obtain ⟨z', hz, hv⟩ := hv
    obtain ⟨d, i, hd, hi', rfl⟩ := sizeT_eq hz
    have := elemT_eq he'
    rw [hu] at this
    cases this
    split at hv
    · rename_i hbd
      obtain ⟨hbd, rfl⟩ := hbd
      simp only [Option.some.injEq] at hv; subst hv
      exact ⟨_, by simp [Instr.sliceAt, Instr.slice, run_underlying hu, sliceBounds_run hl hh hbd.1 (Nat.le_trans hbd.2 hc), sizeOf_run hi'], _, _, _, _, rfl, bsl_part (hbx _ _ _ _ ex).2 hA hbd.1 (Nat.le_trans hbd.2 hc) hbd.2⟩
    · simp at hv
  all_goals left
  · rename_i s hu ex
    cases repL_str (hx _ ex)
    split at hv
    · rename_i hb
      simp only [Option.some.injEq] at hv; subst hv
      refine ⟨.string (s.extract (l.getD 0) (h.getD s.size)), ?_, _, rfl, .str _⟩
      simp [Instr.sliceAt, Instr.slice, run_underlying hu, sliceBounds_run hl hh hb.1 hb.2]
    · simp at hv
  · rename_i e c es hu ex
    obtain ⟨A, cap, z, vals, rfl, hc, hz, hvl, hcell, hr⟩ := repL_sl (hx _ ex)
    rw [Option.bind_eq_some_iff] at hv
    obtain ⟨e', he', hv⟩ := hv
    rw [Option.bind_eq_some_iff] at hv
    obtain ⟨n, hn, hv⟩ := hv
    obtain ⟨d, i, hd, hi', rfl⟩ := sizeT_eq hn
    have := elemT_eq he'
    rw [hu] at this
    cases this
    split at hv
    · rename_i hb
      obtain ⟨hs, hv⟩ := guarded_eq hv
      simp only [Option.some.injEq] at hv; subst hv
      have hs' := sized_mem hs
      refine ⟨_, by simp [Instr.sliceAt, Instr.slice, run_underlying hu, sliceBounds_run hl hh hb.1 (Nat.le_trans hb.2 hc), sizeOf_run hi']; rfl, _, rfl, ?_⟩
      have hlen : ((es.take (h.getD es.length)).drop (l.getD 0)).length = h.getD es.length - l.getD 0 := by
        rw [List.length_drop, List.length_take]; omega
      rw [← hlen]
      have hflat : ((es.take (h.getD es.length)).drop (l.getD 0)).flatten = (es.flatten.take (h.getD es.length * i.size)).drop (l.getD 0 * i.size) := by
        rw [flatten_drop _ _ (fun x hx => hs' x (List.mem_of_mem_take hx)), flatten_take _ _ hs']
      refine repL_sl_mk (z := i.size) (vals := (vals.take (h.getD es.length * i.size)).drop (l.getD 0 * i.size)) (by rw [hlen]; omega) (fun x hx => hs' x (List.mem_of_mem_take (List.mem_of_mem_drop hx))) (fun hpos => ?_) ?_
      · rw [hlen] at hpos
        obtain ⟨g, o, rfl, hN, hle, hso, hcl⟩ := hcell (by omega)
        have hne : ¬ cap = l.getD 0 := by omega
        have hlv : vals.length = es.length * i.size := by rw [hr.1, flatten_length hs']
        have hmul : h.getD es.length * i.size ≤ es.length * i.size := Nat.mul_le_mul_right _ hb.2
        have hmul2 : l.getD 0 * i.size ≤ h.getD es.length * i.size := Nat.mul_le_mul_right _ hb.1
        have hz0 : 0 < i.size := by
          rcases Nat.eq_zero_or_pos i.size with h0 | h0
          · rw [h0] at hlv; have := hN.1; omega
          · exact h0
        have hmul3 : l.getD 0 * i.size < h.getD es.length * i.size := Nat.mul_lt_mul_of_pos_right (by omega) hz0
        refine ⟨g, o + l.getD 0 * i.size, by simp [hne, addr_add], ⟨by rw [List.length_drop, List.length_take]; omega, hN.2.later⟩, ?_, ⟨fun hs => hso.1 (by rwa [Fl.later_soft] at hs), fun hz' x hx' => hso.2 hz' x ?_⟩, fun j v hj => ?_⟩
        · rw [List.length_drop, List.length_take]; omega
        · rw [hflat] at hx'; exact List.mem_of_mem_take (List.mem_of_mem_drop hx')
        · rw [List.getElem?_drop, List.getElem?_take] at hj
          split at hj
          · have := hcl _ _ hj
            rw [← this, Nat.add_assoc]
          · simp at hj
      · rw [hflat]
        exact (hr.take _).drop _
    · simp at hv
  · simp at hv
theorem sliceBounds3_run {b : Bool} {len cap h c : Nat} {lo : Option Value} {l : Option Nat} {k k' : IntKind} (hl : BoundV lo l) (h1 : l.getD 0 ≤ h) (h2 : h ≤ c) (h3 : c ≤ cap) :
    (Instr.sliceBounds b len cap lo (some (.int k h)) (some (.int k' c))).run P w = .ok (l.getD 0, h, c) w := by
  rcases hl with ⟨rfl, rfl⟩ | ⟨k, m, rfl, rfl⟩ <;> simp only [Option.getD_none, Option.getD_some] at h1 ⊢
  · simp [Instr.sliceBounds, sliceBound_run _ h2, sliceBound_run _ h3]
  · simp [Instr.sliceBounds, sliceBound_run _ h1, sliceBound_run _ h2, sliceBound_run _ h3]
theorem slice3V_run {t : TypeId} {x v : (SV m)} {l h c : Option Nat} {u : Value} {lo hi mx : Option Value} (hv : slice3V P t x l h c = some v) (hl : BoundV lo l) (hh : BoundV hi h) (hc : BoundV mx c)
    {bm : Nat → Nat} {al : Nat → Bool} (hbx : ∀ b z lo n, x.drop = .bsl b z lo n → BslAt bm al b z lo n u) :
    ∃ z, (Instr.sliceAt t u lo hi mx).run P w = .ok z w ∧ ∀ Ow loc, RepS P w F N Ow bm al loc v z := by
  unfold slice3V at hv
  split at hv
  · rename_i e b z k n h' c' hu ex
    obtain ⟨A, cap, rfl, hcp, hA⟩ := (hbx _ _ _ _ ex).len
    rw [Option.bind_eq_some_iff] at hv
    obtain ⟨e', he', hv⟩ := hv
    rw [Option.bind_eq_some_iff] at hv
    obtain ⟨z', hz, hv⟩ := hv
    obtain ⟨d, i, hd, hi', rfl⟩ := sizeT_eq hz
    have := elemT_eq he'
    rw [hu] at this
    cases this
    split at hv
    · rename_i hbd
      obtain ⟨⟨⟨b1, b2⟩, b3⟩, rfl⟩ := hbd
      simp only [Option.some.injEq] at hv; subst hv
      rcases hh with ⟨_, hh⟩ | ⟨k1, m1, rfl, hh⟩
      · cases hh
      rcases hc with ⟨_, hc⟩ | ⟨k2, m2, rfl, hc⟩
      · cases hc
      obtain rfl := Option.some.inj hh
      obtain rfl := Option.some.inj hc
      refine ⟨_, by simp [Instr.sliceAt, Instr.slice, run_underlying hu, sliceBounds3_run hl b1 b2 (Nat.le_trans b3 hcp), sizeOf_run hi']; rfl, fun Ow loc => ?_⟩
      simp only [RepS, RepF]
      exact bsl_part (hbx _ _ _ _ ex).2 hA b1 b2 (Nat.le_trans b2 b3)
    · simp at hv
  · simp at hv
theorem indexAddrV_run {t : TypeId} {x i v : (SV m)} {u u' : Value} (hv : indexAddrV P t x i = some v) (hx : ∀ l, x.drop = .leaf l → RepL w F N l u) (hi : ∀ l, i = .leaf l → RepL w F N l u') {bm : Nat → Nat} {al : Nat → Bool}
    (hb : ∀ b z lo n, x.drop = .bsl b z lo n → BslAt bm al b z lo n u) :
    ∃ z, (Instr.indexAt t u u').run P w = .ok z w ∧ ∀ Ow loc, RepS P w F N Ow bm al loc v z := by
  unfold indexAddrV at hv
  split at hv
  · rename_i e b z lo k kk n he ex
    have hu := elemT_eq he
    rw [Option.bind_eq_some_iff] at hv
    obtain ⟨z', hz, hv⟩ := hv
    obtain ⟨d, inf, hd, hinf, rfl⟩ := sizeT_eq hz
    split at hv
    · rename_i h0
      split at hv
      · rename_i hn
        split at hv
        · rename_i hzz
          simp only [Option.some.injEq] at hv; subst hv
          have hal := (hb _ _ _ _ ex).2
          obtain ⟨A, cap, rfl, hc, hA⟩ := (hb _ _ _ _ ex).len
          obtain rfl := hA (by omega)
          cases repL_int (hi _ rfl)
          refine ⟨.pointer (some ⟨bm b, lo * z + n.toNat * inf.size, none⟩), ?_, fun Ow loc => ?_⟩
          · simp [Instr.indexAt, asIntOf, run_underlying hu, sizeOf_run hinf, h0, hn, addr_add]
          · simp only [RepS, RepF]
            exact ⟨by rw [hzz.1, Nat.add_mul], hal⟩
        · simp at hv
      · simp at hv
    · simp at hv
  · rename_i e c es k n he ex
    have hu := elemT_eq he
    rw [Option.bind_eq_some_iff] at hv
    obtain ⟨z, hz, hv⟩ := hv
    obtain ⟨d, inf, hd, hinf, rfl⟩ := sizeT_eq hz
    split at hv
    · rename_i h0
      split at hv
      · rename_i hn
        obtain ⟨hs, hv⟩ := guarded_eq hv
        simp only [Option.some.injEq] at hv; subst hv
        obtain ⟨A, cap, z, vals, rfl, hc, hz', hvl, hcell, hr⟩ := repL_sl (hx _ ex)
        cases repL_int (hi _ rfl)
        have hs' := sized_mem hs
        have hlt : n.toNat < es.length := by omega
        obtain ⟨g, o, rfl, hN, hle, hso, hcl⟩ := hcell (by omega)
        have hge : es[n.toNat]? = some es[n.toNat] := List.getElem?_eq_getElem hlt
        have hel : es[n.toNat].length = inf.size := hs' _ (List.getElem_mem hlt)
        have hlv : vals.length = es.length * inf.size := by rw [hr.1, flatten_length hs']
        have hmul : n.toNat * inf.size + inf.size ≤ es.length * inf.size := by
          rw [← Nat.succ_mul]; exact Nat.mul_le_mul_right _ hlt
        refine ⟨.pointer (some ⟨g, o + n.toNat * inf.size, none⟩), ?_, fun Ow loc => ?_⟩
        · have hn' : n < (es.length : Int) := hn
          simp [Instr.indexAt, asIntOf, run_underlying hu, sizeOf_run hinf, h0, hn', addr_add]
        · have hD : es.getD n.toNat [] = es[n.toNat] := by rw [List.getD_eq_getElem?_getD, hge]; rfl
          rw [hD]
          simp only [RepS, RepF]
          refine ⟨g, o + n.toNat * inf.size, (vals.drop (n.toNat * inf.size)).take inf.size, rfl, ?_, ⟨Fl.At.of hN.2 hso.1, fun hz x hx => hso.2 hz x (List.mem_flatten.2 ⟨_, List.getElem_mem hlt, hx⟩)⟩, ?_, fun j u hj => ?_⟩
          · rw [hel]; omega
          · have := (hr.drop (n.toNat * inf.size)).take inf.size
            rwa [flatten_at hs' hge] at this
          · rw [List.getElem?_take] at hj
            split at hj
            · rw [List.getElem?_drop] at hj
              rw [← hcl _ _ hj]
              congr 2
              omega
            · simp at hj
      · simp at hv
    · simp at hv
  · simp at hv
theorem loadL_run {t : TypeId} {cs : List (Leaf m)} {o g p : Nat} {v : (SV m)} {vals : List Value} (h : partL P t cs o = some v) (hr : RepR w F N cs vals) (hc : ∀ (j : Nat) (u : Value), vals[j]? = some u → w.cell? ⟨g, p + j, none⟩ = some u) :
    ∃ z, (Instr.loadAt t (.pointer (some ⟨g, p + o, none⟩))).run P w = .ok z w ∧ ((∃ l, v = .leaf l ∧ RepL w F N l z) ∨ ∃ ls us, v = .agg ls ∧ z = .agg us ∧ RepR w F N ls us.toList) := by
  unfold partL at h
  cases hd : P.underlying t with
  | none =>
    have : isAggT P t = true := by simp [isAggT, hd]
    simp [this, sizeT, hd] at h
  | some d =>
    rw [isAggT_eq hd] at h
    split at h
    · rename_i ha
      rw [Option.bind_eq_some_iff] at h
      obtain ⟨n, hn, h⟩ := h
      obtain ⟨d', i, hd', hi, rfl⟩ := sizeT_eq hn
      split at h
      · rename_i hle
        simp only [Option.some.injEq] at h
        subst h
        have hlen : ((vals.drop o).take i.size).length = i.size := by
          rw [List.length_take, List.length_drop, hr.1]; omega
        have hl := run_loadCells_list (P := P) w ⟨g, p + o, none⟩ ((vals.drop o).take i.size) (fun j v hj => by
          rw [List.getElem?_take] at hj
          split at hj
          · rw [List.getElem?_drop] at hj
            rw [addr_add, ← hc _ _ hj]
            congr 2
            omega
          · simp at hj)
        rw [hlen] at hl
        refine ⟨.agg ((vals.drop o).take i.size).toArray, by simp [Instr.loadAt, Instr.sureAddr, loadVar, isAgg_run hd, ha, sizeOf_run hi, hl], .inr ⟨_, _, rfl, rfl, ?_⟩⟩
        simpa using (hr.drop o).take i.size
      · simp at h
    · rename_i ha
      rw [Option.map_eq_some_iff] at h
      obtain ⟨l, hl, rfl⟩ := h
      obtain ⟨z, hz, hr'⟩ := hr.get hl
      have hcz := hc _ _ hz
      refine ⟨z, ?_, .inl ⟨l, rfl, hr'⟩⟩
      have ha' : aggD d = false := by simpa using ha
      simp [Instr.loadAt, Instr.sureAddr, loadVar, isAgg_run hd, ha', hcz]
end Go.Vs
end
section
set_option linter.unusedVariables false
set_option linter.unusedSimpArgs false
namespace Go.Vs
variable {m : Bool}
variable {P : Program} {N : Env}
def isOwn : (SV m) → Bool | .own _ _ => true | .raw _ _ => true | _ => false
def aliveB (bs : (Boxes m)) (b : Nat) : Bool := (boxAt bs b).isSome
abbrev St.al (s : (St m)) : Nat → Bool := fun b => (boxAt s.boxes b).isSome
def St.holds (s : (St m)) : Loc → Prop
  | .tmp t => isOwn (s.tmps.getD t .any) = true
  | .box b j => ∃ cs, boxAt s.boxes b = some cs ∧ isOwn (cs.getD j .any) = true
  | .blk b => (boxAt s.boxes b).isSome = true
theorem RepS.to {w w' : World} {F F' : Fr} {Ow Ow' : Own} {bm bm' : Nat → Nat} {al al' : Nat → Bool} {loc loc' : Loc} {x : (SV m)} {v : Value} (k : Keeps N w F w' F') (h : RepS P w F N Ow bm al loc x v)
    (hp : ∀ b, al b = true → bm' b = bm b ∧ al' b = true) (hb : isOwn x = true → ∀ g, Ow g = some loc → w'.heap[g]? = w.heap[g]? ∧ F' g = F g ∧ Ow' g = some loc') : RepS P w' F' N Ow' bm' al' loc' x v := by
  cases x
  case own eo es => exact RepO.keeps k h (hb rfl)
  case raw eo es => exact RepO.keeps k h (hb rfl)
  case fn f caps => obtain ⟨vs, e, hs, hc⟩ := h; exact ⟨vs, e, hs, fun j c u a b => ((hc j c u a b).keeps k).boxes hp⟩
  case tup cs => obtain ⟨vs, e, hs, hc⟩ := h; exact ⟨vs, e, hs, fun j c u a b => ((hc j c u a b).keeps k).boxes hp⟩
  all_goals (simp only [RepS] at h ⊢; exact (RepF.keeps k h).boxes hp)
theorem RepS.any {w : World} {F : Fr} {Ow : Own} {bm : Nat → Nat} {al : Nat → Bool} {loc : Loc} {v : Value} : RepS (m := m) P w F N Ow bm al loc .any v := by simp only [RepS, RepF]
theorem RepS.own_nil {w : World} {F : Fr} {Ow : Own} {bm : Nat → Nat} {al : Nat → Bool} {loc : Loc} {e : Option TypeId} : RepS (m := m) P w F N Ow bm al loc (.own e []) (.slice none 0 0) := by
  simp only [RepS]; exact .inl ⟨rfl, rfl⟩
theorem RepS.leaf {w : World} {F : Fr} {Ow : Own} {bm : Nat → Nat} {al : Nat → Bool} {loc : Loc} {l : (Leaf m)} {v : Value} (h : RepL w F N l v) : RepS P w F N Ow bm al loc (.leaf l) v := by
  simp only [RepS, RepF]; exact h
theorem RepS.cellOf {w : World} {F : Fr} {Ow : Own} {bm : Nat → Nat} {al : Nat → Bool} {loc : Loc} {l : (Leaf m)} {v : Value} (h : RepL w F N l v) : RepS P w F N Ow bm al loc (cellOf l) v := by
  cases h with
  | nl e => exact RepS.own_nil
  | bool b => exact RepS.leaf (.bool b)
  | int k n => exact RepS.leaf (.int k n)
  | str t => exact RepS.leaf (.str t)
  | unk v h => exact RepS.leaf (.unk v h)
  | sl c es A cap z vals h1 h2 h3 h4 h5 => exact RepS.leaf (.sl c es A cap z vals h1 h2 h3 h4 h5)
theorem RepS.agg {w : World} {F : Fr} {Ow : Own} {bm : Nat → Nat} {al : Nat → Bool} {loc : Loc} {cs : List (Leaf m)} {us : Array Value} (h : RepR w F N cs us.toList) : RepS P w F N Ow bm al loc (.agg cs) (.agg us) := by
  simp only [RepS, RepF]; exact ⟨us, rfl, h⟩
theorem RepS.leafOf {w : World} {F : Fr} {Ow : Own} {bm : Nat → Nat} {al : Nat → Bool} {loc : Loc} {x : (SV m)} {v : Value} (h : RepS P w F N Ow bm al loc x v) : ∀ l, x.drop = .leaf l → RepL w F N l v := by
  intro l hl
  have := RepS.drop (Ow' := Ow) (loc' := loc) h
  rw [hl] at this
  simpa only [RepS, RepF] using this
theorem RepS.aggOf {w : World} {F : Fr} {Ow : Own} {bm : Nat → Nat} {al : Nat → Bool} {loc : Loc} {x : (SV m)} {v : Value} (h : RepS P w F N Ow bm al loc x v) : ∀ cs, x.drop = .agg cs → ∃ vs, v = .agg vs ∧ RepR w F N cs vs.toList := by
  intro l hl
  have := RepS.drop (Ow' := Ow) (loc' := loc) h
  rw [hl] at this
  simpa only [RepS, RepF] using this
theorem RepS.bslOf {w : World} {F : Fr} {Ow : Own} {bm : Nat → Nat} {al : Nat → Bool} {loc : Loc} {x : (SV m)} {v : Value} (h : RepS P w F N Ow bm al loc x v) : ∀ b z lo n, x.drop = .bsl b z lo n → BslAt bm al b z lo n v := by
  intro b z lo n hl
  have := RepS.drop (Ow' := Ow) (loc' := loc) h
  rw [hl] at this
  simp only [RepS, RepF] at this
  exact this
theorem drop_leaf {x : (SV m)} {l : (Leaf m)} (h : x = .leaf l) : x.drop = .leaf l := by subst h; rfl
section
variable {s : (St m)} {tmps : Array Value} {w : World} {F : Fr} {Ow : Own} {bm : Nat → Nat}
def locOf : Operand → Loc | .tmp t => .tmp t | _ => .blk 0
theorem Inv.eval (h : Inv P s tmps w F N Ow bm) {a : Act} (ha : a.tmps = tmps) (x : Operand) : RepS P w F N Ow bm s.al (locOf x) (s.eval x) (a.eval x) := by
  cases x with
  | tmp t => simpa [St.eval, Act.eval, ha, locOf] using h.slot t
  | const v =>
    simp only [St.eval, Act.eval, locOf]
    unfold ofConst
    split <;> first | exact RepS.leaf (.bool _) | exact RepS.leaf (.int _ _) | exact RepS.leaf (.str _) | exact RepS.own_nil | (simp only [RepS, RepF]; done) | exact RepS.any
  | global g => exact RepS.any
  | func f => exact ⟨#[], rfl, rfl, fun j c u h => by simp at h⟩
theorem Inv.set (h : Inv P s tmps w F N Ow bm) {d : Nat} {v : (SV m)} {u : Value} (hv : RepS P w F N Ow bm s.al (.tmp d) v u) :
    Inv P { s with tmps := s.tmps.set d v } (tmps.setIfInBounds d u) w F N Ow bm := by
  refine ⟨by simp [h.len], fun t => ?_, h.box, h.low, h.new, h.bmn, h.zow⟩
  show RepS P w F N Ow bm s.al (.tmp t) ((s.tmps.set d v).getD t .any) ((tmps.setIfInBounds d u).getD t undef)
  by_cases ht : t = d
  · subst ht
    by_cases hl : t < s.tmps.length
    · have hl' : t < tmps.size := by rw [← h.len]; exact hl
      rw [List.getD_eq_getElem?_getD, List.getElem?_set_self hl]
      simpa [Array.getD, hl'] using hv
    · have hl' : ¬ t < tmps.size := by rw [← h.len]; exact hl
      rw [List.getD_eq_getElem?_getD, List.getElem?_eq_none (by simpa using hl)]
      exact RepS.any
  · rw [List.getD_eq_getElem?_getD, List.getElem?_set_ne (fun e => ht e.symm), ← List.getD_eq_getElem?_getD]
    have : (tmps.setIfInBounds d u).getD t undef = tmps.getD t undef := by
      simp only [Array.getD_eq_getD_getElem?]
      rw [Array.getElem?_setIfInBounds_ne (fun e => ht e.symm)]
    rw [this]
    exact h.slot t
theorem Inv.forget (h : Inv P s tmps w F N Ow bm) {d : Nat} {v : (SV m)} (hv : RepS P w F N Ow bm s.al (.tmp d) v (tmps.getD d undef)) :
    Inv P { s with tmps := s.tmps.set d v } tmps w F N Ow bm := by
  have := h.set (d := d) (v := v) (u := tmps.getD d undef) hv
  have e : tmps.setIfInBounds d (tmps.getD d undef) = tmps := by
    apply Array.ext_getElem?
    intro i
    by_cases hi : i = d
    · subst hi
      by_cases hl : i < tmps.size
      · simp [Array.getElem?_setIfInBounds, hl, Array.getD]
      · simp [Array.getElem?_setIfInBounds, hl]
    · rw [Array.getElem?_setIfInBounds_ne (fun e => hi e.symm)]
  rwa [e] at this
theorem Inv.to (h : Inv P s tmps w F N Ow bm) {w' : World} {F' : Fr} {Ow' : Own} {bm' : Nat → Nat} (k : Keeps N w F w' F') (hsz : w.heap.size ≤ w'.heap.size) (hb : ∀ b, (boxAt s.boxes b).isSome = true → bm' b = bm b)
    (ho : ∀ g loc, Ow g = some loc → s.holds loc → w'.heap[g]? = w.heap[g]? ∧ F' g = F g ∧ Ow' g = some loc) (hn : ∀ g, w'.heap.size ≤ g → F' g = 0 ∧ Ow' g = none) (hz : ∀ g, N.Z g = true → Ow' g = none ∧ ∃ cur e, w'.heap[g]? = some (.cells cur e (0, 0))) : Inv P s tmps w' F' N Ow' bm' := by
  have hp : ∀ b, s.al b = true → bm' b = bm b ∧ s.al b = true := fun b hb' => ⟨hb b hb', hb'⟩
  refine ⟨h.len, fun t => (h.slot t).to k hp fun hown g hg => ho g _ hg hown, fun b cs hbox => ?_, h.low.to k hsz, hn, fun b cs hb' => by rw [hb b (by rw [hb']; rfl)]; exact h.bmn b cs hb', hz⟩
  rcases h.box b cs hbox with h0 | ⟨cur, e, h1, h2, h3, h4, h5⟩
  · exact .inl h0
  have hs : (boxAt s.boxes b).isSome = true := by rw [hbox]; rfl
  obtain ⟨o1, o2, o3⟩ := ho (bm b) (.blk b) h4 hs
  refine .inr ⟨cur, e, by rw [hb b hs, o1]; exact h1, h2, by rw [hb b hs, o2]; exact h3, by rw [hb b hs]; exact o3, fun j c u hc hu => (h5 j c u hc hu).to k hp fun hown g hg => ho g _ hg ⟨cs, hbox, ?_⟩⟩
  rw [List.getD_eq_getElem?_getD, hc]
  exact hown
def moved (x : Operand) (to : Loc) (Ow : Own) : Own := match x with
  | .tmp t => fun g => if Ow g = some (.tmp t) then some to else Ow g
  | _ => Ow
theorem moved_none {x : Operand} {to : Loc} {Ow : Own} {g : Nat} (h : Ow g = none) : moved x to Ow g = none := by cases x <;> simp [moved, h]
theorem take_eq (s : (St m)) (x : Operand) : s.take x = match x with | .tmp t => { s with tmps := s.tmps.set t (s.tmps.getD t .any).drop } | _ => s := by
  cases x <;> simp [St.take, St.takes, takeE, setAll, St.eval]
theorem drop_not_own (v : (SV m)) : isOwn v.drop = false := by cases v <;> rfl
theorem Inv.take (h : Inv P s tmps w F N Ow bm) {a : Act} (ha : a.tmps = tmps) (x : Operand) (to : Loc) :
    Inv P (s.take x) tmps w F N (moved x to Ow) bm ∧ RepS P w F N (moved x to Ow) bm s.al to (s.eval x) (a.eval x) := by
  have hv := h.eval ha x
  cases x with
  | tmp t =>
    have h1 : Inv P (s.take (.tmp t)) tmps w F N Ow bm := by
      rw [take_eq]
      exact h.forget (RepS.drop (h.slot t))
    have hd : isOwn ((s.take (.tmp t)).tmps.getD t .any) = false := by
      rw [take_eq]
      show isOwn ((s.tmps.set t (s.tmps.getD t .any).drop).getD t .any) = false
      by_cases hl : t < s.tmps.length
      · rw [List.getD_eq_getElem?_getD, List.getElem?_set_self hl]; exact drop_not_own _
      · rw [List.getD_eq_getElem?_getD, List.getElem?_eq_none (by simpa using hl)]; rfl
    refine ⟨h1.to (Keeps.refl _ _) (Nat.le_refl _) (fun _ _ => rfl) (fun g loc hg hl => ⟨rfl, rfl, ?_⟩) (fun g hg => ⟨(h.new g hg).1, moved_none (h.new g hg).2⟩) (fun g hg => ⟨moved_none (h.zow g hg).1, (h.zow g hg).2⟩), ?_⟩
    · simp only [moved]
      rw [if_neg]
      · exact hg
      · rintro he
        rw [he] at hg
        cases hg
        rw [St.holds] at hl
        rw [hd] at hl
        exact Bool.false_ne_true hl
    · refine hv.to (Keeps.refl _ _) (fun b hb => ⟨rfl, hb⟩) fun _ g hg => ⟨rfl, rfl, ?_⟩
      simp only [locOf] at hg
      simp [moved, hg]
  | const c =>
    refine ⟨by rw [take_eq]; exact h, ?_⟩
    simp only [St.eval, Act.eval] at hv ⊢
    unfold ofConst at hv ⊢
    split <;> simp_all [RepS, RepO, moved]
  | global g => exact ⟨by rw [take_eq]; exact h, RepS.any⟩
  | func f => exact ⟨by rw [take_eq]; exact h, ⟨#[], rfl, rfl, fun j c u h => by simp at h⟩⟩
theorem Inv.addBox (h : Inv P s tmps w F N Ow bm) {d : Nat} {cs : List (SV m)} {cur : Array Value} {e : TypeId} (hd : boxAt s.boxes d = none) (h1 : w.heap[bm d]? = some (.cells cur e (0, 0))) (h2 : cs.length ≤ cur.size)
    (h3 : F (bm d) = 0) (h4 : Ow (bm d) = some (.blk d)) (h6 : N.n ≤ bm d) (h5 : ∀ (j : Nat) (c : (SV m)) (u : Value), cs[j]? = some c → cur[j]? = some u → RepS P w F N Ow bm s.al (.box d j) c u) :
    Inv P { s with boxes := s.boxes.set d (some cs) } tmps w F N Ow bm := by
  have hal : ∀ b, s.al b = true → boxAt (s.boxes.set d (some cs)) b = boxAt s.boxes b := by
    intro b hb
    have hne : b ≠ d := by rintro rfl; simp [St.al, hd] at hb
    unfold boxAt
    rw [List.getD_eq_getElem?_getD, List.getElem?_set_ne (fun e => hne e.symm), ← List.getD_eq_getElem?_getD]
  have hp : ∀ b, s.al b = true → bm b = bm b ∧ (boxAt (s.boxes.set d (some cs)) b).isSome = true := fun b hb => ⟨rfl, by rw [hal b hb]; exact hb⟩
  refine ⟨h.len, fun t => (h.slot t).to (Keeps.refl _ _) hp fun _ g hg => ⟨rfl, rfl, hg⟩, fun b cs' hb => ?_, h.low, h.new, fun b cs' hb => ?_, h.zow⟩
  rotate_left
  · by_cases hbd : b = d
    · subst hbd; exact h6
    · refine h.bmn b cs' ?_
      unfold boxAt at hb ⊢
      rw [List.getD_eq_getElem?_getD, List.getElem?_set_ne (fun e => hbd e.symm), ← List.getD_eq_getElem?_getD] at hb
      exact hb
  by_cases hbd : b = d
  · subst hbd
    have : cs' = cs := by
      unfold boxAt at hb
      by_cases hl : b < s.boxes.length
      · rw [List.getD_eq_getElem?_getD, List.getElem?_set_self hl] at hb
        simpa using hb.symm
      · rw [List.getD_eq_getElem?_getD, List.getElem?_eq_none (by simpa using hl)] at hb
        simp at hb
    subst this
    exact .inr ⟨cur, e, h1, h2, h3, h4, fun j c u hc hu => (h5 j c u hc hu).to (Keeps.refl _ _) hp fun _ g hg => ⟨rfl, rfl, hg⟩⟩
  · have hb' : boxAt s.boxes b = some cs' := by
      unfold boxAt at hb ⊢
      rw [List.getD_eq_getElem?_getD, List.getElem?_set_ne (fun e => hbd e.symm), ← List.getD_eq_getElem?_getD] at hb
      exact hb
    rcases h.box b cs' hb' with g0 | ⟨cur, e, g1, g2, g3, g4, g5⟩
    · exact .inl g0
    exact .inr ⟨cur, e, g1, g2, g3, g4, fun j c u hc hu => (g5 j c u hc hu).to (Keeps.refl _ _) hp fun _ g hg => ⟨rfl, rfl, hg⟩⟩
end
end Go.Vs
end
section
set_option linter.unusedVariables false
set_option linter.unusedSimpArgs false
namespace Go.Vs
variable {m : Bool}
variable {P : Program} {N : Env}
structure Wrote (w w' : World) (F : Fr) (g : Nat) : Prop where
  os : w'.os = w.os
  tape : w'.tape = w.tape
  output : w'.output = w.output
  size : w.heap.size ≤ w'.heap.size
  top : w'.heap.size ≤ max w.heap.size (g + 1)
  block : ∀ k, k < w.heap.size → k ≠ g → w'.heap[k]? = w.heap[k]?
  cell : ∀ j, j < F g → w'.cell? ⟨g, j, none⟩ = w.cell? ⟨g, j, none⟩
structure Grew (P : Program) (w w' : World) (F : Fr) (N : Env) (e : TypeId) (i : TypeInfo) (es : List (List (Leaf m))) (v : Value) (g : Nat) : Prop where
  row : ∃ cap cur vals, v = .slice (some ⟨g, 0, none⟩) es.length cap ∧ w'.heap[g]? = some (.cells cur e (0, 0)) ∧ es.length ≤ cap ∧ cap ≤ maxLen ∧ cur.size = cap * i.size ∧ cur.toList.take (es.length * i.size) = vals ∧ RepR w F N es.flatten vals
  sized : ∀ x ∈ es, x.length = i.size
  wrote : Wrote w w' F g
  le : F g ≤ es.length * i.size
theorem cell_in {w : World} {g : Nat} {cur : Array Value} {e : TypeId} {z : Nat × Nat} (h : w.heap[g]? = some (.cells cur e z)) (j : Nat) : w.cell? ⟨g, j, none⟩ = cur[j]? := by
  simp [World.cell?, h]
theorem Inv.grown {s : (St m)} {tmps : Array Value} {w w' : World} {F : Fr} {Ow : Own} {bm : Nat → Nat} {loc to : Loc} {e : TypeId} {i : TypeInfo} {es : List (List (Leaf m))} {v : Value} {g : Nat} (h : Inv P s tmps w F N Ow bm)
    (hi : P.info? e = some i) (h0 : 0 < i.size) (G : Grew P w w' F N e i es v g) (hg : (Ow g = some loc ∧ ¬ s.holds loc) ∨ g = w.heap.size) (hN : N.n ≤ g) (q : Bool) (hq : q = true → F g = 0) (hbs : ∀ n, BSz w g n → BSz w' g n) :
    ∃ F' Ow', Inv P s tmps w' F' N Ow' bm ∧ Far N w F Ow w' F' Ow' ∧ RepO P w' F' N Ow' to q (some e) es v := by
  let F' : Fr := fun k => if k = g then (if q = true then 0 else es.length * i.size) else F k
  let Ow' : Own := fun k => if k = g then some to else Ow k
  have W := G.wrote
  have hk : Keeps N w F w' F' := by
    refine .mk' (fun k j hj => ?_) (fun k => ?_) (Thawed.but g W.block fun _ => by obtain ⟨cap, cur, vals, _, hb, _⟩ := G.row; exact ⟨cur, e, hb⟩) (BSz.but g W.block hbs)
    · by_cases hkg : k = g
      · subst hkg; exact W.cell j hj
      · by_cases hks : k < w.heap.size
        · simp only [World.cell?, W.block k hks hkg]
        · rw [(h.new k (by omega)).1] at hj; omega
    · show F k ≤ if k = g then (if q = true then 0 else es.length * i.size) else F k
      split
      · rename_i hkg; subst hkg
        split
        · rename_i h1; rw [hq h1]; exact Nat.le_refl _
        · exact G.le
      · exact Nat.le_refl _
  obtain ⟨cap, cur, vals, hv, hb, hc, hm, hs, ht, hr⟩ := G.row
  have hlt : g < w'.heap.size := by
    rcases Nat.lt_or_ge g w'.heap.size with h | h
    · exact h
    · rw [Array.getElem?_eq_none h] at hb; simp at hb
  refine ⟨F', Ow', h.to hk W.size (fun _ _ => rfl) (fun k l hkl hl => ?_) (fun k hk' => ?_) (fun k hz => ?_), ⟨W.os, W.tape, W.output, W.size, hk, fun k hks hko => ?_⟩, ?_⟩
  · have hne : k ≠ g := by
      rintro rfl
      rcases hg with ⟨h1, h2⟩ | h1
      · rw [h1] at hkl; cases hkl; exact h2 hl
      · rw [(h.new k (by omega)).2] at hkl; simp at hkl
    have hks : k < w.heap.size := by
      rcases Nat.lt_or_ge k w.heap.size with h' | h'
      · exact h'
      · rw [(h.new k h').2] at hkl; simp at hkl
    exact ⟨W.block k hks hne, by simp [F', hne], by simp [Ow', hne, hkl]⟩
  · have hne : k ≠ g := by omega
    have := h.new k (Nat.le_trans W.size hk')
    exact ⟨by simp [F', hne, this.1], by simp [Ow', hne, this.2]⟩
  · have hne : k ≠ g := by have := N.lt k hz; omega
    obtain ⟨z1, z2⟩ := h.zow k hz
    have hks : k < w.heap.size := Nat.lt_of_lt_of_le (N.lt k hz) h.low.le
    exact ⟨by simp [Ow', hne, z1], by rw [W.block k hks hne]; exact z2⟩
  · have hne : k ≠ g := by
      rintro rfl
      rcases hg with ⟨h1, _⟩ | h1
      · rw [h1] at hko; simp at hko
      · omega
    exact ⟨fun _ => W.block k hks hne, by simp [F', hne], by simp [Ow', hne, hko]⟩
  · exact .inr ⟨g, cap, cur, e, i, vals, hN, rfl, hi, h0, hv, hb, hc, hm, hs, G.sized, by simp [Ow'], by simp [F'], ht, hr.keeps hk⟩
theorem addr_self (g j : Nat) : (⟨g, 0, none⟩ : Addr).add j = ⟨g, j, none⟩ := by rw [addr_add]; simp
theorem grew_of_room {w : World} {F : Fr} {e : TypeId} {i : TypeInfo} {es fs : List (List (Leaf m))} {vals news : List Value} {g cap : Nat} {cur : Array Value}
    (hb : w.heap[g]? = some (.cells cur e (0, 0))) (hm : cap ≤ maxLen) (hs : cur.size = cap * i.size) (hes : ∀ x ∈ es, x.length = i.size) (hfs : ∀ x ∈ fs, x.length = i.size)
    (hF : F g ≤ es.length * i.size) (ht : cur.toList.take (es.length * i.size) = vals) (hr : RepR w F N es.flatten vals) (hn : RepR w F N fs.flatten news) (hroom : es.length + fs.length ≤ cap) :
    Grew P w (w.setRow g (cur.toList.take (es.length * i.size) ++ news ++ cur.toList.drop (es.length * i.size + news.length)).toArray) F N e i (es ++ fs) (.slice (some ⟨g, 0, none⟩) (es.length + fs.length) cap) g := by
  have hnl : news.length = fs.length * i.size := by rw [hn.1, flatten_length hfs]
  have hvl : vals.length = es.length * i.size := by rw [hr.1, flatten_length hes]
  have hfit : es.length * i.size + news.length ≤ cur.size := by rw [hnl, hs, ← Nat.add_mul]; exact Nat.mul_le_mul_right _ hroom
  have hset := setRow_heap w g cur (cur.toList.take (es.length * i.size) ++ news ++ cur.toList.drop (es.length * i.size + news.length)).toArray e (0, 0) hb
  refine ⟨⟨cap, _, vals ++ news, by rw [List.length_append], hset, by rw [List.length_append]; exact hroom, hm, ?_, ?_, ?_⟩, ?_, ?_, ?_⟩
  · simp only [List.size_toArray, List.length_append, List.length_take, List.length_drop, Array.length_toList]
    omega
  · rw [ht, List.length_append, Nat.add_mul, ← hnl, ← hvl, ← List.length_append]
    exact List.take_left
  · rw [List.flatten_append]
    exact hr.append hn
  · intro x hx
    rcases List.mem_append.1 hx with h | h
    · exact hes x h
    · exact hfs x h
  · refine ⟨rfl, rfl, rfl, by simp, Nat.le_trans (Nat.le_of_eq (by simp)) (Nat.le_max_left _ _), fun k _ hk => setRow_other w g k _ hk, fun j hj => ?_⟩
    rw [cell_in hset, cell_in hb]
    have hj := Nat.lt_of_lt_of_le hj hF
    have : (cur.toList.take (es.length * i.size) ++ news ++ cur.toList.drop (es.length * i.size + news.length))[j]? = cur.toList[j]? := by
      have hlt : j < (cur.toList.take (es.length * i.size)).length := by
        have hsz' : es.length * i.size ≤ cur.toList.length := by
          have := Array.length_toList (xs := cur)
          omega
        rw [List.length_take]
        exact Nat.lt_min.2 ⟨hj, Nat.lt_of_lt_of_le hj hsz'⟩
      rw [List.append_assoc, List.getElem?_append_left hlt, List.getElem?_take, if_pos hj]
    simpa using this
  · rw [List.length_append, Nat.add_mul]; omega
theorem grew_of_new {w w' : World} {F : Fr} {e : TypeId} {i : TypeInfo} {es : List (List (Leaf m))} {vals rest : List Value} {cap : Nat} {cur : Array Value} (hw : w' = w.alloc (.cells cur e) ∨ w' = w.drew.alloc (.cells cur e)) (hcur : cur.toList = vals ++ rest)
    (hF : F w.heap.size = 0) (hm : cap ≤ maxLen) (hs : cur.size = cap * i.size) (hes : ∀ x ∈ es, x.length = i.size) (hr : RepR w F N es.flatten vals) (hc : es.length ≤ cap) :
    Grew P w w' F N e i es (.slice (some ⟨w.heap.size, 0, none⟩) es.length cap) w.heap.size := by
  have hvl : vals.length = es.length * i.size := by rw [hr.1, flatten_length hes]
  have hnew : w'.heap[w.heap.size]? = some (.cells cur e (0, 0)) := by
    rcases hw with rfl | rfl
    · exact heap_alloc_new w _
    · exact heap_alloc_new w.drew _
  have hsz : w'.heap.size = w.heap.size + 1 := by rcases hw with rfl | rfl <;> exact Array.size_push _
  refine ⟨⟨cap, cur, vals, rfl, hnew, hc, hm, hs, ?_, hr⟩, hes, ⟨?_, ?_, ?_, by omega, by omega, fun k hk _ => ?_, fun j hj => by omega⟩, by omega⟩
  · rw [hcur, ← hvl]; exact List.take_left
  · rcases hw with rfl | rfl <;> rfl
  · rcases hw with rfl | rfl <;> rfl
  · rcases hw with rfl | rfl <;> rfl
  · rcases hw with rfl | rfl
    · exact heap_alloc_old w _ k hk
    · exact heap_alloc_old w.drew _ k hk
theorem leaf_cells {w : World} {F : Fr} {l : (Leaf m)} {v : Value} (h : RepL w F N l v) : v.cells = #[v] := h.cells
theorem zeroSized_eq {e : TypeId} {i : TypeInfo} (hi : P.info? e = some i) (h : zeroSized P e = true) : ∃ z, i.zero = some z ∧ z.cells.size = i.size := by
  unfold zeroSized at h
  rw [hi] at h
  simp only at h
  split at h
  · rename_i z hz; exact ⟨z, hz, by simpa using h⟩
  · simp at h
theorem zeroByte_eq {e : TypeId} {i : TypeInfo} (hi : P.info? e = some i) (h : zeroByte P e = true) : i.zero = some (.int .u8 0) ∧ i.size = 1 ∧ i.bytes = 1 := by
  unfold zeroByte at h
  rw [hi] at h
  simp only at h
  split at h
  · rename_i n hz
    simp only [Bool.and_eq_true, beq_iff_eq] at h
    obtain ⟨⟨rfl, h2⟩, h3⟩ := h
    exact ⟨hz, h2, h3⟩
  · simp at h
theorem bsz_same {w w' : World} {g : Nat} {cur cur' : Array Value} {e e' : TypeId} {z z' : Nat × Nat} (h : w.heap[g]? = some (.cells cur e z)) (h' : w'.heap[g]? = some (.cells cur' e' z')) (hs : cur'.size = cur.size) : ∀ n, BSz w g n → BSz w' g n := by
  rintro n ⟨c, e0, z0, hc, rfl⟩
  rw [h] at hc
  cases hc
  exact ⟨_, _, _, h', hs⟩
theorem bsz_new {w w' : World} {g : Nat} (h : w.heap.size ≤ g) : ∀ n, BSz w g n → BSz w' g n := by
  rintro n ⟨c, e0, z0, hc, rfl⟩
  rw [Array.getElem?_eq_none h] at hc
  simp at hc
theorem grew_bsz {w w' : World} {F : Fr} {e e0 : TypeId} {z0 : Nat × Nat} {i : TypeInfo} {es : List (List (Leaf m))} {A : Option Addr} {g n cap : Nat} {cur : Array Value} (hg : w.heap[g]? = some (.cells cur e0 z0)) (hs : cur.size = cap * i.size) (G : Grew P w w' F N e i es (.slice A n cap) g) : ∀ n, BSz w g n → BSz w' g n := by
  obtain ⟨cap', cur', vals, hv, hb, _, _, hs', _⟩ := G.row
  obtain ⟨_, _, rfl⟩ := Value.slice.inj hv
  exact bsz_same hg hb (hs'.trans hs.symm)
theorem append_slice_run {w : World} {F : Fr} {Ow : Own} {loc : Loc} {t ty e : TypeId} {i : TypeInfo} {eo : Option TypeId} {es fs : List (List (Leaf m))} {q : Bool} {v u : Value} (hnew : ∀ g, w.heap.size ≤ g → F g = 0) (hlow : N.n ≤ w.heap.size)
    (hO : RepO P w F N Ow loc q eo es v) (heo : eo.getD e = e) (hy : RowAt w F N fs u) (ht : P.underlying t = some (.slice e)) (hi : P.info? e = some i) (hzs : zeroSized P e = true) (h0 : 0 < i.size) (hby : 0 < i.bytes) (hsz : ∀ x ∈ fs, x.length = i.size)
    (hb : (es.length + fs.length) * i.bytes ≤ maxBytes) :
    ∃ v' w', (Builtin.append_ #[t, t] ty #[v, u]).run P w = .ok v' w' ∧ ((v' = .slice none 0 0 ∧ es ++ fs = [] ∧ w' = w) ∨ ∃ g, Grew P w w' F N e i (es ++ fs) v' g ∧ N.n ≤ g ∧ ((Ow g = some loc ∧ v.ownBlock = some g) ∨ g = w.heap.size) ∧ (q = true → F g = 0) ∧ ∀ n, BSz w g n → BSz w' g n) := by
  obtain ⟨z, hz, hzl⟩ := zeroSized_eq hi hzs
  obtain ⟨A, m, z', news, rfl, hcm, _, _, hcell, hn⟩ := hy
  have hnl : news.length = fs.length * i.size := by rw [hn.1, flatten_length hsz]
  have hle : es.length + fs.length ≤ maxBytes := Nat.le_trans (Nat.le_mul_of_pos_right _ hby) hb
  have hmb : maxBytes = 140737488355328 := rfl
  have one : ∀ x ∈ news, x.oneCell' = true := hn.one
  have holdes : ∀ x ∈ es ++ fs, x.length = i.size → True := fun _ _ _ => trivial
  rcases hO with ⟨rfl, rfl⟩ | ⟨g, cap, cur, e', i', vals, hNg, he', hi', hz0, rfl, hg, hc, hm, hs, hx, ho, hf, htk, hr⟩
  · by_cases hfe : fs = []
    · subst hfe
      refine ⟨.slice none 0 0, w, ?_, .inl ⟨rfl, rfl, rfl⟩⟩
      cases A with
      | none => simp [Builtin.append_, run_underlying ht, sizeOf, typeInfo, hi, Builtin.lenOf, Builtin.firstCells]
      | some a => simp [Builtin.append_, run_underlying ht, sizeOf, typeInfo, hi, Builtin.lenOf, Builtin.firstCells, loadCells, loadCellsFrom]
    · have hpos : 0 < fs.length := List.length_pos_iff.2 hfe
      obtain ⟨ga, o, rfl, hcl⟩ := hcell hpos
      have hrun := run_append_nil (P := P) w t ty e i z ht hi hz ⟨ga, o, none⟩ fs.length m news hnl (fun j x hj => by rw [addr_add]; exact hcl j x hj) hpos (by simp at hle; omega) (by simp at hb; omega)
      refine ⟨_, _, hrun, .inr ⟨w.heap.size, ?_, hlow, .inr rfl, fun _ => hnew _ (Nat.le_refl _), fun n ⟨cur, e, z, hc, _⟩ => by rw [Array.getElem?_eq_none (Nat.le_refl _)] at hc; simp at hc⟩⟩
      have hge := grownCap_ge w fs.length 0 e
      exact grew_of_new (es := [] ++ fs) (vals := news) (rest := (Builtin.zeroCells z.cells (grownCap w fs.length 0 e - fs.length)).toList) (.inr rfl) (by simp) (hnew _ (Nat.le_refl _)) (grownCap_le_maxLen w fs.length 0 e (by unfold maxLen; simp at hle; omega))
        (by rw [Array.size_append, List.size_toArray, size_zeroCells, hzl, hnl, ← Nat.add_mul]; congr 1; omega) (by simpa using hsz) (by simpa using hn) (by simpa using hge)
  · subst he'
    simp only [Option.getD_some] at heo
    subst heo
    rw [hi] at hi'
    cases hi'
    have hf' : F g ≤ es.length * i.size := by rw [hf]; split <;> omega
    have hq : q = true → F g = 0 := fun h => by rw [hf, if_pos h]
    by_cases hroom : es.length + fs.length ≤ cap
    · have hgrew := grew_of_room (P := P) (N := N) (F := F) (es := es) (fs := fs) (vals := vals) (news := news) hg hm hs hx hsz hf' htk hr hn hroom
      have hfit : es.length * i.size + news.length ≤ cur.size := by rw [hnl, hs, ← Nat.add_mul]; exact Nat.mul_le_mul_right _ hroom
      cases A with
      | none =>
        have hfe : fs = [] := by
          rcases Nat.eq_zero_or_pos fs.length with h | h
          · exact List.eq_nil_of_length_eq_zero h
          · obtain ⟨_, _, h', _⟩ := hcell h; simp at h'
        subst hfe
        have hne : news = [] := List.eq_nil_of_length_eq_zero (by simpa using hnl)
        subst hne
        refine ⟨.slice (some ⟨g, 0, none⟩) es.length cap, w, ?_, .inr ⟨g, ?_, hNg, .inl ⟨ho, rfl⟩, hq, fun _ h => h⟩⟩
        · simp at hroom
          simp [Builtin.append_, run_underlying ht, sizeOf, typeInfo, hi, Builtin.lenOf, Builtin.firstCells, hroom, storeCells]
        · have hself : w.setRow g (cur.toList.take (es.length * i.size) ++ [] ++ cur.toList.drop (es.length * i.size + ([] : List Value).length)).toArray = w := by
            simp only [List.append_nil, List.length_nil, Nat.add_zero, List.take_append_drop]
            exact setRow_self w g cur _ (0, 0) hg
          rw [hself] at hgrew
          simpa using hgrew
      | some a =>
        by_cases hfe : fs = []
        · subst hfe
          have hne : news = [] := List.eq_nil_of_length_eq_zero (by simpa using hnl)
          subst hne
          have hrun := run_append_room (P := P) w t ty _ i ht hi g es.length cap cur hg a 0 m [] (by simp) (by simp) (by simp) (by simpa using hroom) (by simpa using hfit)
          exact ⟨_, _, hrun, .inr ⟨g, by simpa using hgrew, hNg, .inl ⟨ho, rfl⟩, hq, by simpa using grew_bsz hg hs hgrew⟩⟩
        · obtain ⟨ga, o, h', hcl⟩ := hcell (List.length_pos_iff.2 hfe)
          cases h'
          have hrun := run_append_room (P := P) w t ty _ i ht hi g es.length cap cur hg ⟨ga, o, none⟩ fs.length m news hnl (fun j x hj => by rw [addr_add]; exact hcl j x hj) one hroom hfit
          exact ⟨_, _, hrun, .inr ⟨g, hgrew, hNg, .inl ⟨ho, rfl⟩, hq, grew_bsz hg hs hgrew⟩⟩
    · have hpos : 0 < fs.length := by omega
      obtain ⟨ga, o, rfl, hcl⟩ := hcell hpos
      have hvl : vals.length = es.length * i.size := by rw [hr.1, flatten_length hx]
      have holds : ∀ j u, vals[j]? = some u → w.cell? ((⟨g, 0, none⟩ : Addr).add j) = some u := by
        intro j x hj
        rw [addr_self, cell_in hg]
        subst htk
        rw [List.getElem?_take] at hj
        split at hj
        · simpa using hj
        · simp at hj
      have hrun := run_append_grow (P := P) w t ty _ i z ht hi hz ⟨g, 0, none⟩ es.length cap vals hvl holds ⟨ga, o, none⟩ fs.length m news hnl (fun j x hj => by rw [addr_add]; exact hcl j x hj) (by omega) (by omega) (growslice_fits (by omega) (by omega))
      have hge := grownCap_ge w (es.length + fs.length) cap e'
      refine ⟨_, _, hrun, .inr ⟨w.heap.size, ?_, hlow, .inr rfl, fun _ => hnew _ (Nat.le_refl _), fun n ⟨cur, e, z, hc, _⟩ => by rw [Array.getElem?_eq_none (Nat.le_refl _)] at hc; simp at hc⟩⟩
      have := grew_of_new (P := P) (N := N) (F := F) (e := e') (i := i) (es := es ++ fs) (vals := vals ++ news) (rest := (Builtin.zeroCells z.cells (grownCap w (es.length + fs.length) cap e' - (es.length + fs.length))).toList)
        (cap := grownCap w (es.length + fs.length) cap e') (.inr rfl) (by simp) (hnew _ (Nat.le_refl _)) (grownCap_le_maxLen w (es.length + fs.length) cap e' (by unfold maxLen; omega))
        (cur := vals.toArray ++ news.toArray ++ Builtin.zeroCells z.cells (grownCap w (es.length + fs.length) cap e' - (es.length + fs.length)))
        (by rw [Array.size_append, Array.size_append, List.size_toArray, List.size_toArray, size_zeroCells, hzl, hnl, hvl, ← Nat.add_mul, ← Nat.add_mul]; congr 1; omega)
        (by intro x hx'; rcases List.mem_append.1 hx' with h | h; exact hx x h; exact hsz x h) (by rw [List.flatten_append]; exact hr.append hn) (by rw [List.length_append]; exact hge)
      rw [List.length_append] at this
      exact this
end Go.Vs
end
section
namespace Go.Vs
variable {m : Bool}
variable {P : Program} {N : Env}
theorem repR_bytes (w : World) (F : Fr) : ∀ (l : List UInt8), RepR w F N (l.map fun b => [(Leaf.int .u8 b.toNat : Leaf m)]).flatten (l.map fun b => Value.int .u8 b.toNat)
  | [] => RepR.nil _ _ _
  | b :: l => by simpa using RepR.cons (.int _ _) (repR_bytes w F l)
theorem append_string_run {w : World} {F : Fr} {Ow : Own} {loc : Loc} {q : Bool} {t u ty e : TypeId} {i : TypeInfo} {eo : Option TypeId} {es : List (List (Leaf m))} {v : Value} {s : ByteArray} (hnew : ∀ g, w.heap.size ≤ g → F g = 0) (hlow : N.n ≤ w.heap.size)
    (hO : RepO P w F N Ow loc q eo es v) (heo : eo.getD e = e) (ht : P.underlying t = some (.slice e)) (hu : P.underlying u = some .string) (hi : P.info? e = some i) (hzb : zeroByte P e = true) (hb : es.length + s.size ≤ maxBytes) :
    ∃ v' w', (Builtin.append_ #[t, u] ty #[v, .string s]).run P w = .ok v' w' ∧ ((v' = .slice none 0 0 ∧ es ++ (s.data.toList.map fun b => [(Leaf.int .u8 b.toNat : Leaf m)]) = [] ∧ w' = w) ∨
      ∃ g, Grew P w w' F N e i (es ++ s.data.toList.map fun b => [(Leaf.int .u8 b.toNat : Leaf m)]) v' g ∧ N.n ≤ g ∧ ((Ow g = some loc ∧ v.ownBlock = some g) ∨ g = w.heap.size) ∧ (q = true → F g = 0) ∧ ∀ n, BSz w g n → BSz w' g n) := by
  obtain ⟨hz, h1, hby⟩ := zeroByte_eq hi hzb
  have hmb : maxBytes = 140737488355328 := rfl
  have hn : RepR w F N (s.data.toList.map fun b => [(Leaf.int .u8 b.toNat : Leaf m)]).flatten (Lib.strCells s) := repR_bytes w F _
  have hfl : (s.data.toList.map fun b => [(Leaf.int .u8 b.toNat : Leaf m)]).length = s.size := by rw [List.length_map, Array.length_toList]; rfl
  have hsz : ∀ x ∈ (s.data.toList.map fun b => [(Leaf.int .u8 b.toNat : Leaf m)]), x.length = i.size := by
    intro x hx
    obtain ⟨b, _, rfl⟩ := List.mem_map.1 hx
    simp [h1]
  have hnl : (Lib.strCells s).length = s.size := Lib.strCells_length s
  have hzl : (Value.int .u8 0).cells.size = 1 := rfl
  generalize hfs : (s.data.toList.map fun b => [(Leaf.int .u8 b.toNat : Leaf m)]) = fs at *
  rcases hO with ⟨rfl, rfl⟩ | ⟨g, cap, cur, e', i', vals, hNg, he', hi', hz0, rfl, hg, hc, hm, hs, hx, ho, hf, htk, hr⟩
  · by_cases hfe : s.size = 0
    · have : fs = [] := List.eq_nil_of_length_eq_zero (by omega)
      subst this
      refine ⟨.slice none 0 0, w, ?_, .inl ⟨rfl, rfl, rfl⟩⟩
      have hrf := Lib.run_firstCells_string (P := P) w 1 s
      rw [hfe] at hrf
      simp [Builtin.append_, run_underlying ht, run_underlying hu, sizeOf, typeInfo, hi, h1, Builtin.lenOf, hfe, hrf]
    · have hrun := run_append_nil_string (P := P) w t u ty e i (.int .u8 0) ht hu hi hz s (by omega) (by simp at hb; omega) (by rw [hby]; simp at hb; omega)
      have e1 : (s.data.map fun b => Value.int .u8 b.toNat) = (Lib.strCells s).toArray := by
        apply Array.ext'
        simp [Lib.strCells]
      rw [e1] at hrun
      refine ⟨_, _, hrun, .inr ⟨w.heap.size, ?_, hlow, .inr rfl, fun _ => hnew _ (Nat.le_refl _), bsz_new (Nat.le_refl _)⟩⟩
      have hge := grownCap_ge w s.size 0 e
      have := grew_of_new (P := P) (N := N) (F := F) (e := e) (i := i) (es := [] ++ fs) (vals := Lib.strCells s) (rest := (Builtin.zeroCells (Value.int .u8 0).cells (grownCap w s.size 0 e - s.size)).toList) (cap := grownCap w s.size 0 e)
        (cur := (Lib.strCells s).toArray ++ Builtin.zeroCells (Value.int .u8 0).cells (grownCap w s.size 0 e - s.size)) (.inr rfl) (by simp) (hnew _ (Nat.le_refl _)) (grownCap_le_maxLen w s.size 0 e (by unfold maxLen; simp at hb; omega))
        (by rw [Array.size_append, List.size_toArray, size_zeroCells, hzl, hnl, h1]; omega) (by simpa using hsz) (by simpa using hn) (by simpa [hfl] using hge)
      simpa [hfl] using this
  · subst he'
    simp only [Option.getD_some] at heo
    subst heo
    rw [hi] at hi'
    cases hi'
    have hvl : vals.length = es.length * i.size := by rw [hr.1, flatten_length hx]
    have hf' : F g ≤ es.length * i.size := by rw [hf]; split <;> omega
    have hq : q = true → F g = 0 := fun h => by rw [hf, if_pos h]
    by_cases hroom : es.length + s.size ≤ cap
    · have hcs' : cur.size = cap := by rw [hs, h1, Nat.mul_one]
      have hrun := Lib.run_append_room_string (P := P) w t u ty e' i ht hu hi h1 g es.length cap cur hg s hroom (by omega)
      refine ⟨_, _, hrun, .inr ⟨g, ?_, hNg, .inl ⟨ho, rfl⟩, hq, ?_⟩⟩
      rotate_left
      · have := grew_of_room (P := P) (N := N) (F := F) (es := es) (fs := fs) (vals := vals) (news := Lib.strCells s) hg hm hs hx hsz hf' htk hr hn (by rw [hfl]; exact hroom)
        rw [hfl, h1, Nat.mul_one, hnl] at this
        exact grew_bsz hg hs this
      have := grew_of_room (P := P) (N := N) (F := F) (es := es) (fs := fs) (vals := vals) (news := Lib.strCells s) hg hm hs hx hsz hf' htk hr hn (by rw [hfl]; exact hroom)
      rw [hfl, h1, Nat.mul_one, hnl] at this
      exact this
    · have holds : ∀ j u, vals[j]? = some u → w.cell? ((⟨g, 0, none⟩ : Addr).add j) = some u := by
        intro j x hj
        rw [addr_self, cell_in hg]
        subst htk
        rw [List.getElem?_take] at hj
        split at hj
        · simpa using hj
        · simp at hj
      have hrun := Lib.run_append_grow_string (P := P) w t u ty e' i (.int .u8 0) ht hu hi hz ⟨g, 0, none⟩ es.length cap vals hvl holds s (by omega) (by omega) (by rw [hby]; exact growslice_fits (by omega) (by omega))
      have hge := grownCap_ge w (es.length + s.size) cap e'
      refine ⟨_, _, hrun, .inr ⟨w.heap.size, ?_, hlow, .inr rfl, fun _ => hnew _ (Nat.le_refl _), bsz_new (Nat.le_refl _)⟩⟩
      have := grew_of_new (P := P) (N := N) (F := F) (e := e') (i := i) (es := es ++ fs) (vals := vals ++ Lib.strCells s) (rest := (Builtin.zeroCells (Value.int .u8 0).cells (grownCap w (es.length + s.size) cap e' - (es.length + s.size))).toList)
        (cap := grownCap w (es.length + s.size) cap e') (cur := vals.toArray ++ (Lib.strCells s).toArray ++ Builtin.zeroCells (Value.int .u8 0).cells (grownCap w (es.length + s.size) cap e' - (es.length + s.size)))
        (.inr rfl) (by simp) (hnew _ (Nat.le_refl _)) (grownCap_le_maxLen w (es.length + s.size) cap e' (by unfold maxLen; omega))
        (by rw [Array.size_append, Array.size_append, List.size_toArray, List.size_toArray, size_zeroCells, hzl, hnl, hvl, h1]; omega)
        (by intro x hx'; rcases List.mem_append.1 hx' with h | h; exact hx x h; exact hsz x h) (by rw [List.flatten_append]; exact hr.append hn) (by rw [List.length_append, hfl]; exact hge)
      rw [List.length_append, hfl] at this
      exact this
theorem Inv.more {s : (St m)} {tmps : Array Value} {w w' : World} {F : Fr} {Ow : Own} {bm : Nat → Nat} (h : Inv P s tmps w F N Ow bm) (W : Wrote w w' F w.heap.size) (hs : w.heap.size < w'.heap.size) (n : Nat) :
    ∃ F', Inv P s tmps w' F' N Ow bm ∧ Far N w F Ow w' F' Ow ∧ F' w.heap.size = n ∧ Keeps N w F w' F' := by
  let F' : Fr := fun k => if k = w.heap.size then n else F k
  have hk : Keeps N w F w' F' := by
    refine .mk' (fun k j hj => ?_) (fun k => ?_) (Thawed.but w.heap.size W.block fun hh => absurd hh (Nat.lt_irrefl _)) (BSz.but w.heap.size W.block (bsz_new (Nat.le_refl _)))
    · by_cases hkg : k = w.heap.size
      · subst hkg; exact W.cell j hj
      · by_cases hks : k < w.heap.size
        · simp only [World.cell?, W.block k hks hkg]
        · rw [(h.new k (by omega)).1] at hj; omega
    · show F k ≤ if k = w.heap.size then n else F k
      split
      · rename_i hkg; rw [(h.new k (by omega)).1]; omega
      · exact Nat.le_refl _
  refine ⟨F', h.to hk W.size (fun _ _ => rfl) (fun k l hkl _ => ?_) (fun k hk' => ?_) (fun k hz => ⟨(h.zow k hz).1, by rw [W.block k (Nat.lt_of_lt_of_le (N.lt k hz) h.low.le) (Nat.ne_of_lt (Nat.lt_of_lt_of_le (N.lt k hz) h.low.le))]; exact (h.zow k hz).2⟩), ⟨W.os, W.tape, W.output, W.size, hk, fun k hks hko => ?_⟩, by simp [F'], hk⟩
  · have hks : k < w.heap.size := by
      rcases Nat.lt_or_ge k w.heap.size with h' | h'
      · exact h'
      · rw [(h.new k h').2] at hkl; simp at hkl
    exact ⟨W.block k hks (by omega), by simp [F', show k ≠ w.heap.size by omega], hkl⟩
  · have := h.new k (by omega)
    exact ⟨by simp [F', show k ≠ w.heap.size by omega, this.1], this.2⟩
  · exact ⟨fun _ => W.block k hks (by omega), by simp [F', show k ≠ w.heap.size by omega], hko⟩
theorem wrote_new {w w' : World} {F : Fr} {o : Obj} (hF : F w.heap.size = 0) (hw : w' = w.alloc o ∨ w' = w.drew.alloc o) : Wrote w w' F w.heap.size ∧ w'.heap.size = w.heap.size + 1 ∧ w'.heap[w.heap.size]? = some o := by
  have hsz : w'.heap.size = w.heap.size + 1 := by rcases hw with rfl | rfl <;> exact Array.size_push _
  refine ⟨⟨?_, ?_, ?_, by omega, by omega, fun k hk _ => ?_, fun j hj => by omega⟩, hsz, ?_⟩
  · rcases hw with rfl | rfl <;> rfl
  · rcases hw with rfl | rfl <;> rfl
  · rcases hw with rfl | rfl <;> rfl
  · rcases hw with rfl | rfl
    · exact heap_alloc_old w _ k hk
    · exact heap_alloc_old w.drew _ k hk
  · rcases hw with rfl | rfl
    · exact heap_alloc_new w _
    · exact heap_alloc_new w.drew _
theorem bytesOf_eq : ∀ (es : List (List (Leaf m))) (l : List UInt8), bytesOfLeaves es = some l → ∃ ns : List Int, es.flatten = ns.map (Leaf.int (m := m) .u8) ∧ es.length = ns.length ∧ l = ns.map (fun n => UInt8.ofNat n.toNat) ∧ ∀ e ∈ es, e.length = 1 := by
  intro es
  induction es with
  | nil => intro l h; simp [bytesOfLeaves] at h; subst h; exact ⟨[], rfl, rfl, rfl, by simp⟩
  | cons e r ih =>
    intro l h
    unfold bytesOfLeaves at h
    split at h
    · simp at *
    · rename_i n r' he
      cases he
      rw [Option.map_eq_some_iff] at h
      obtain ⟨l', hl', rfl⟩ := h
      obtain ⟨ns, h1, h2, h3, h4⟩ := ih l' hl'
      exact ⟨n :: ns, by simp [h1], by simp [h2], by simp [h3], by intro x hx; rcases List.mem_cons.1 hx with rfl | hx; rfl; exact h4 x hx⟩
    · simp at h
theorem convV_run {w : World} {F : Fr} {src dst : TypeId} {x v : (SV m)} {u : Value} (h : convV P src dst x = some v) (hx : ∀ l, x.drop = .leaf l → RepL w F N l u) :
    (∃ z l, (convert src dst u).run P w = .ok z w ∧ v = .leaf l ∧ RepL w F N l z) ∨
    ∃ (s : ByteArray) (cap : Nat) (o : Obj) (w' : World), (convert src dst u).run P w = .ok (.slice (some ⟨w.heap.size, 0, none⟩) s.size cap) w' ∧ s.size ≤ cap ∧ v = .leaf (.sl (Fl.kept m) (s.data.toList.map fun b => [.int .u8 b.toNat])) ∧
      w' = w.drew.alloc o ∧ ∀ j (b : UInt8), s.data.toList[j]? = some b → w'.cell? ⟨w.heap.size, j, none⟩ = some (.int .u8 b.toNat) := by
  unfold convV at h
  split at h
  · rename_i k k' q n hs hd ex
    simp only [Option.some.injEq] at h; subst h
    cases repL_int (hx _ ex)
    exact .inl ⟨.int k' (k'.wrap n), _, by simp [convert, run_underlying hs, run_underlying hd, Conv.intToInt], rfl, .int _ _⟩
  · rename_i s hs hd ex
    simp only [Option.some.injEq] at h; subst h
    cases repL_str (hx _ ex)
    exact .inl ⟨.string s, _, by simp [convert, run_underlying hs, run_underlying hd], rfl, .str _⟩
  · rename_i e c es hs hd ex
    split at h
    · rename_i he
      rw [Option.map_eq_some_iff] at h
      obtain ⟨l, hl, rfl⟩ := h
      obtain ⟨A, cap, z, vals, rfl, hc, hz, hvl, hcell, hr⟩ := repL_sl (hx _ ex)
      obtain ⟨ns, h1, h2, rfl, h4⟩ := bytesOf_eq es l hl
      rcases Nat.eq_zero_or_pos es.length with h0 | h0
      · have : ns = [] := List.eq_nil_of_length_eq_zero (by omega)
        subst this
        have hes : es = [] := List.eq_nil_of_length_eq_zero h0
        subst hes
        cases A with
        | none => exact .inl ⟨.string ByteArray.empty, _, run_convert_bytes_nil w src e hs he _ _ dst hd, rfl, .str _⟩
        | some a =>
          have := run_convert_bytes_back (P := P) w src dst e a cap [] hs he hd (by simp)
          exact .inl ⟨_, _, by simpa using this, rfl, .str _⟩
      · obtain ⟨g, o, rfl, _, _, _, hcl⟩ := hcell h0
        refine .inl ⟨.string (strOfNums ns), _, run_convert_bytes_arg w src e hs he g o es.length cap ns h2.symm (fun i hi => ?_) dst hd, rfl, .str _⟩
        have hi' : i < ns.length := by omega
        have hfl : es.flatten[i]? = some (.int .u8 ns[i]) := by rw [h1]; simp [hi']
        obtain ⟨z, hz1, hz2⟩ := hr.get hfl
        rw [hcl _ _ hz1, repL_int hz2]
        simp [List.getD, hi']
    · simp at h
  · rename_i e s hs hd ex
    split at h
    · rename_i he
      simp only [Option.some.injEq] at h; subst h
      cases repL_str (hx _ ex)
      refine .inr ⟨s, _, _, _, run_bytes_of_string w src dst e s hs hd he, grownCap_ge w s.size 0 e, rfl, rfl, fun j b hb => ?_⟩
      rw [cell_in (g := w.heap.size) (heap_alloc_new w.drew _)]
      have hj : j < s.data.size := by have := (List.getElem?_eq_some_iff.1 hb).1; simpa using this
      simp only [bytesRow]
      rw [Array.getElem?_append_left (by simpa using hj)]
      simp at hb
      simp [hb]
    · simp at h
  · simp at h
end Go.Vs
end
section
namespace Go.Vs
variable {m : Bool}
variable {P : Program} {N : Env}
theorem foldl_fill : ∀ (l : List Value) (k off : Nat) (cells : Array Value), off + k + l.length ≤ cells.size →
    ((l.zipIdx k).foldl (fun (cs : Array Value) (p : Value × Nat) => cs.setIfInBounds (off + p.2) p.1) cells).toList = cells.toList.take (off + k) ++ l ++ cells.toList.drop (off + k + l.length)
  | [], k, off, cells, _ => by simp
  | v :: l, k, off, cells, h => by
    simp only [List.length_cons] at h
    rw [List.zipIdx_cons, List.foldl_cons, foldl_fill l (k + 1) off _ (by simp; omega)]
    simp only [Array.toList_setIfInBounds]
    have hlen : off + k < cells.toList.length := by have := Array.length_toList (xs := cells); omega
    have e1 : (cells.toList.set (off + k) v).take (off + (k + 1)) = cells.toList.take (off + k) ++ [v] := by
      rw [show off + (k + 1) = (off + k) + 1 by omega, List.take_add_one, List.take_set_of_le (Nat.le_refl _)]
      have hlen' : off + k < cells.size := by omega
      simp [hlen']
    have e2 : (cells.toList.set (off + k) v).drop (off + (k + 1) + l.length) = cells.toList.drop (off + k + (l.length + 1)) := by
      rw [List.drop_set_of_lt (by omega)]
      congr 1
      omega
    rw [e1, e2]
    simp
theorem fill_one (off : Nat) (v : Array Value) (cells : Array Value) (h : off + v.size ≤ cells.size) :
    (v.zipIdx.foldl (fun cs (c, j) => cs.setIfInBounds (off + j) c) cells).toList = cells.toList.take off ++ v.toList ++ cells.toList.drop (off + v.size) := by
  rw [← Array.foldl_toList, Array.toList_zipIdx]
  have := foldl_fill v.toList 0 off cells (by simpa using h)
  simpa using this
inductive PartsR (w : World) (F : Fr) (N : Env) : List (Nat × (SV m)) → List (Nat × Value) → Prop
  | nil : PartsR w F N [] []
  | cons {i : Nat} {x : (SV m)} {v : Value} {ps : List (Nat × (SV m))} {qs : List (Nat × Value)} (h : ∀ l, x.leaves = some l → RepR w F N l v.cells.toList) (t : PartsR w F N ps qs) : PartsR w F N ((i, x) :: ps) ((i, v) :: qs)
theorem RepR.set {w : World} {F : Fr} {a l : List (Leaf m)} {x v : List Value} {o : Nat} (h : RepR w F N a x) (hl : RepR w F N l v) : RepR w F N (a.take o ++ l ++ a.drop (o + l.length)) (x.take o ++ v ++ x.drop (o + v.length)) := by
  rw [hl.1]
  exact ((h.take o).append hl).append (h.drop _)
theorem fillL_run {w : World} {F : Fr} {place : Nat → Option (Nat × TypeId)} {size : TypeId → Option Nat} {places : Nat → Option (Nat × Nat)} (hp : ∀ i p n, place i = some p → size p.2 = some n → places i = some (p.1, n)) :
    ∀ {ps : List (Nat × (SV m))} {qs : List (Nat × Value)}, PartsR w F N ps qs → ∀ {cs cs' : List (Leaf m)} {vals : Array Value}, fillL place size cs ps = some cs' → RepR w F N cs vals.toList →
      ∃ vals', Instr.fill places vals qs = some vals' ∧ RepR w F N cs' vals'.toList := by
  intro ps qs h
  induction h with
  | nil => intro cs cs' vals hf hr; simp [fillL] at hf; subst hf; exact ⟨vals, rfl, hr⟩
  | @cons i x v ps qs hx _ ih =>
    intro cs cs' vals hf hr
    simp only [fillL] at hf
    rw [Option.bind_eq_some_iff] at hf
    obtain ⟨p, hp1, hf⟩ := hf
    rw [Option.bind_eq_some_iff] at hf
    obtain ⟨n, hn, hf⟩ := hf
    rw [Option.bind_eq_some_iff] at hf
    obtain ⟨l, hl, hf⟩ := hf
    split at hf
    · rename_i hc
      obtain ⟨hc1, hc2⟩ := hc
      have hv := hx l hl
      have hvs : v.cells.size = n := by have := hv.1; simp at this; omega
      have hcs : p.1 + v.cells.size ≤ vals.size := by have := hr.1; simp at this; omega
      have hone := fill_one p.1 v.cells vals hcs
      have hset := RepR.set (o := p.1) hr hv
      obtain ⟨vals', hv1, hv2⟩ := ih (vals := v.cells.zipIdx.foldl (fun cs (c, j) => cs.setIfInBounds (p.1 + j) c) vals) hf (by
        rw [hone]
        rw [hc1] at hset
        simpa using hset)
      refine ⟨vals', ?_, hv2⟩
      simp only [Instr.fill, hp i p n hp1 hn]
      rw [if_neg (by simp; omega)]
      exact hv1
    · simp at hf
theorem leavesOf_rep (w : World) (F : Fr) : ∀ (vs : List Value) (ls : List (Leaf m)), leavesOfValues vs = some ls → RepR w F N ls vs
  | [], ls, h => by simp [leavesOfValues] at h; subst h; exact RepR.nil _ _ _
  | v :: vs, ls, h => by
    simp only [leavesOfValues] at h
    rw [Option.bind_eq_some_iff] at h
    obtain ⟨l, hl, h⟩ := h
    rw [Option.map_eq_some_iff] at h
    obtain ⟨ls', hls, rfl⟩ := h
    refine RepR.cons ?_ (leavesOf_rep w F vs ls' hls)
    unfold leafOfValue at hl
    split at hl <;> simp at hl <;> subst hl
    · exact .bool _
    · exact .int _ _
    · exact .str _
    · exact repL_sl_mk (es := []) (z := 0) (vals := []) (Nat.le_refl _) (by simp) (fun h => by simp at h) (RepR.nil _ _ _)
theorem zeroLeaves_eq {t : TypeId} {ls : List (Leaf m)} (h : zeroLeaves P t = some ls) : ∃ i z, P.info? t = some i ∧ i.zero = some z ∧ leavesOfValues z.cells.toList = some ls := by
  unfold zeroLeaves at h
  rw [Option.bind_eq_some_iff] at h
  obtain ⟨i, hi, h⟩ := h
  rw [Option.bind_eq_some_iff] at h
  obtain ⟨z, hz, h⟩ := h
  exact ⟨i, z, hi, hz, h⟩
theorem fieldsInfo_eq {t : TypeId} (h : fieldsInfo P t = true) : ∃ fs places, P.underlying t = some (.struct fs) ∧ fs.toList.mapM (fun f => (P.info? f.type).map fun i => (f.offset, i.size)) = some places ∧
    ∀ (i : Nat) (p : Nat × TypeId) (n : Nat), fieldT P t i = some p → sizeT P p.2 = some n → places[i]? = some (p.1, n) := by
  unfold fieldsInfo at h
  split at h
  · rename_i fs hu
    have key : ∀ (l : List Field), (l.all fun f => (P.info? f.type).isSome) = true → ∃ places, l.mapM (fun f => (P.info? f.type).map fun i => (f.offset, i.size)) = some places ∧
        ∀ (i : Nat) (f : Field) (inf : TypeInfo), l[i]? = some f → P.info? f.type = some inf → places[i]? = some (f.offset, inf.size) := by
      intro l
      induction l with
      | nil => intro _; exact ⟨[], rfl, by simp⟩
      | cons f l ih =>
        intro hl
        simp only [List.all_cons, Bool.and_eq_true] at hl
        obtain ⟨inf, hinf⟩ := Option.isSome_iff_exists.1 hl.1
        obtain ⟨ps, h1, h2⟩ := ih hl.2
        refine ⟨(f.offset, inf.size) :: ps, by simp [List.mapM_cons, hinf, h1], fun i g q hg hq => ?_⟩
        cases i with
        | zero => simp at hg; subst hg; rw [hinf] at hq; cases hq; rfl
        | succ i => simpa using h2 i g q (by simpa using hg) hq
    obtain ⟨places, h1, h2⟩ := key fs.toList h
    refine ⟨fs, places, hu, h1, fun i p n hp hn => ?_⟩
    unfold fieldT at hp
    rw [hu] at hp
    simp only [Option.map_eq_some_iff] at hp
    obtain ⟨f, hf, rfl⟩ := hp
    obtain ⟨d, inf, hd, hinf, rfl⟩ := sizeT_eq hn
    exact h2 i f inf (by simpa using hf) hinf
  · simp at h
theorem nlCells_rep {w : World} {F : Fr} {t : TypeId} : ∀ (vs : List Value) (i : Nat) (ls : List (Leaf m)), leavesOfValues vs = some ls → RepR w F N (nlCells P t i ls) vs := by
  intro vs
  induction vs with
  | nil => intro i ls h; simp [leavesOfValues] at h; subst h; exact RepR.nil _ _ _
  | cons v vs ih =>
    intro i ls h
    simp only [leavesOfValues] at h
    rw [Option.bind_eq_some_iff] at h
    obtain ⟨l, hl, h⟩ := h
    rw [Option.map_eq_some_iff] at h
    obtain ⟨ls', hls, rfl⟩ := h
    refine RepR.cons ?_ (ih (i + 1) ls' hls)
    unfold leafOfValue at hl
    split at hl <;> simp at hl <;> subst hl
    · exact .bool _
    · exact .int _ _
    · exact .str _
    · exact .nl _
theorem buildV_run {w : World} {F : Fr} {t : TypeId} {ow : Bool} {ps : List (Nat × (SV m))} {qs : Array (Nat × Value)} {v : (SV m)} (h : buildV P t ow ps = some v) (hr : PartsR w F N ps qs.toList) :
    ∃ us, (Instr.build t qs).run P w = .ok (.agg us) w ∧ ∃ ls, v = .agg ls ∧ RepR w F N ls us.toList := by
  unfold buildV at h
  obtain ⟨hi, h⟩ := guarded_eq h
  rw [Option.bind_eq_some_iff] at h
  obtain ⟨z, hz, h⟩ := h
  rw [Option.map_eq_some_iff] at h
  obtain ⟨ls, hl, rfl⟩ := h
  obtain ⟨inf, zv, hinf, hzv, hzl⟩ := zeroLeaves_eq hz
  obtain ⟨fs, places, hu, hpl, hp⟩ := fieldsInfo_eq hi
  obtain ⟨us, hf, hrr⟩ := fillL_run (places := fun i => places.toArray[i]?) (fun i p n a b => by simpa using hp i p n a b) hr hl (by cases ow with | true => exact nlCells_rep _ _ _ hzl | false => exact leavesOf_rep w F _ _ hzl)
  exact ⟨us, run_build w t qs us (by simp only [Program.built, hinf, hu, hzv, hpl]; exact hf), ls, rfl, hrr⟩
theorem elemsV_fill {w : World} {F : Fr} {z : Nat} : ∀ {ps : List (Nat × (SV m))} {qs : List (Nat × Value)}, PartsR w F N ps qs → ∀ (k : Nat) (es : List (List (Leaf m))) (vals : Array Value), elemsV z k ps = some es → (k + ps.length) * z ≤ vals.size →
    ∃ vals', Instr.fill (fun i => some (i * z, z)) vals qs = some vals' ∧ vals'.size = vals.size ∧ vals'.toList.take (k * z) = vals.toList.take (k * z) ∧ RepR w F N es.flatten ((vals'.toList.drop (k * z)).take (ps.length * z)) ∧ es.length = ps.length ∧ ∀ e ∈ es, e.length = z := by
  intro ps qs h
  induction h with
  | nil => intro k es vals he _; simp [elemsV] at he; subst he; exact ⟨vals, rfl, rfl, rfl, by simpa using RepR.nil _ _ _, rfl, by simp⟩
  | @cons i x v ps qs hx _ ih =>
    intro k es vals he hle
    simp only [elemsV] at he
    split at he
    · rename_i hik; subst hik
      rw [Option.bind_eq_some_iff] at he
      obtain ⟨l, hl, he⟩ := he
      split at he
      · rename_i hlz
        rw [Option.map_eq_some_iff] at he
        obtain ⟨es', hes, rfl⟩ := he
        have hv := hx l hl
        have hvs : v.cells.size = z := by have := hv.1; simp at this; omega
        simp only [List.length_cons] at hle
        have hmul : (i + (ps.length + 1)) * z = i * z + z + ps.length * z := by rw [Nat.add_mul, Nat.add_mul]; omega
        have hcs : i * z + v.cells.size ≤ vals.size := by omega
        have hone := fill_one (i * z) v.cells vals hcs
        have hsz1 : (v.cells.zipIdx.foldl (fun cs (c, j) => cs.setIfInBounds (i * z + j) c) vals).size = vals.size := by
          rw [← Array.length_toList, hone]
          simp only [Array.length_toList, List.length_append, List.length_take, List.length_drop]
          omega
        obtain ⟨vals', h1, h2, h3, h4, h5, h6⟩ := ih (i + 1) es' (v.cells.zipIdx.foldl (fun cs (c, j) => cs.setIfInBounds (i * z + j) c) vals) hes (by
          rw [hsz1, show i + 1 + ps.length = i + (ps.length + 1) by omega]; exact hle)
        have hsucc : (i + 1) * z = i * z + z := Nat.succ_mul i z
        have hk : vals'.toList.take (i * z + z) = vals.toList.take (i * z) ++ v.cells.toList := by
          rw [← hsucc, h3, hone, hsucc, List.take_append_of_le_length (by simp; omega)]
          rw [List.take_of_length_le (by simp; omega)]
        refine ⟨vals', ?_, by rw [h2, hsz1], ?_, ?_, by simp [h5], by intro e he; rcases List.mem_cons.1 he with rfl | he; exact hlz; exact h6 e he⟩
        · simp only [Instr.fill]
          rw [if_neg (by simp; omega)]
          exact h1
        · have := congrArg (List.take (i * z)) hk
          rw [List.take_take, Nat.min_eq_left (by omega)] at this
          rw [this, List.take_append_of_le_length (by simp; omega), List.take_take, Nat.min_self]
        · have e1 : (vals'.toList.drop (i * z)).take ((ps.length + 1) * z) = v.cells.toList ++ (vals'.toList.drop ((i + 1) * z)).take (ps.length * z) := by
            have d1 : (vals'.toList.drop (i * z)).take z = v.cells.toList := by
              have := congrArg (List.drop (i * z)) hk
              rw [List.drop_take, Nat.add_sub_cancel_left] at this
              rw [this, List.drop_left' (by simp; omega)]
            rw [show (ps.length + 1) * z = z + ps.length * z by rw [Nat.add_mul]; omega, List.take_add, d1, List.drop_drop, hsucc]
          rw [List.flatten_cons]
          show RepR w F N _ ((vals'.toList.drop (i * z)).take ((ps.length + 1) * z))
          rw [e1]
          exact hv.append h4
      · simp at he
    · simp at he
end Go.Vs
end
section
set_option linter.unusedVariables false
set_option linter.unusedSimpArgs false
namespace Go.Vs
variable {m : Bool}
variable {P : Program} {N : Env}
theorem buildSliceV_run {w : World} {F : Fr} {t : TypeId} {n : Nat} {ps : List (Nat × (SV m))} {qs : Array (Nat × Value)} {v : (SV m)} (hF : F w.heap.size = 0) (h : buildSliceV P t n ps = some v) (hr : PartsR w F N ps qs.toList) :
    ∃ z w' e i es, (Instr.buildSlice t n qs).run P w = .ok z w' ∧ v = .own (some e) es ∧ P.info? e = some i ∧ 0 < i.size ∧ Grew P w w' F N e i es z w.heap.size := by
  unfold buildSliceV at h
  rw [Option.bind_eq_some_iff] at h
  obtain ⟨e, he, h⟩ := h
  rw [Option.bind_eq_some_iff] at h
  obtain ⟨z, hz, h⟩ := h
  obtain ⟨hzs, h'⟩ := guarded_eq h
  clear h
  split at h'
  · rename_i hc
    obtain ⟨rfl, hc2, hc3⟩ := hc
    rw [Option.map_eq_some_iff] at h'
    obtain ⟨es, hes, rfl⟩ := h'
    have hu := elemT_eq he
    obtain ⟨d, i, hd, hi, rfl⟩ := sizeT_eq hz
    obtain ⟨zv, hzv, hzl⟩ := zeroSized_eq hi hzs
    have run : ∀ (zc : Array Value), ((ps.length * i.size = 0 ∧ zc = #[]) ∨ (ps.length * i.size ≠ 0 ∧ zc = zv.cells)) → ∀ cells, Instr.fill (fun k => some (k * i.size, i.size)) ((Array.range (ps.length * i.size)).map (fun x => zc[x % zc.size]!)) qs.toList = some cells →
        (Instr.buildSlice t ps.length qs).run P w = .ok (.slice (some ⟨w.heap.size, 0, none⟩) ps.length ps.length) (w.alloc (.cells cells e)) := by
      intro zc hzc cells hf
      have hns : ¬ (2 ^ 24 < ps.length * i.size) := by omega
      rcases hzc with ⟨h0, rfl⟩ | ⟨h0, rfl⟩
      · simp [Instr.buildSlice, run_underlying hu, sizeOf_run hi, hns, h0] at hf ⊢
        simp [hf, newRow]
      · simp [Instr.buildSlice, run_underlying hu, sizeOf_run hi, hns, h0, zeroValue, typeInfo, hi, hzv] at hf ⊢
        simp [hf, newRow]
    obtain ⟨zc, hzc⟩ : ∃ zc : Array Value, (ps.length * i.size = 0 ∧ zc = #[]) ∨ (ps.length * i.size ≠ 0 ∧ zc = zv.cells) := by
      by_cases h0 : ps.length * i.size = 0
      · exact ⟨#[], .inl ⟨h0, rfl⟩⟩
      · exact ⟨zv.cells, .inr ⟨h0, rfl⟩⟩
    obtain ⟨cells, h1, h2, _, h4, h5, h6⟩ := elemsV_fill hr 0 es ((Array.range (ps.length * i.size)).map (fun x => zc[x % zc.size]!)) hes (by simp)
    have hcs : cells.size = ps.length * i.size := by rw [h2]; simp
    refine ⟨_, _, e, i, es, run zc hzc cells h1, rfl, hi, hc3, ?_⟩
    have hcl : cells.toList = (cells.toList.drop (0 * i.size)).take (ps.length * i.size) ++ [] := by
      have := Array.length_toList (xs := cells)
      rw [Nat.zero_mul, List.drop_zero, List.append_nil, List.take_of_length_le (by omega)]
    have hmm : maxLen = 9223372036854775807 := rfl
    have hle : ps.length ≤ ps.length * i.size := Nat.le_mul_of_pos_right _ hc3
    have := grew_of_new (P := P) (N := N) (F := F) (e := e) (i := i) (es := es) (cap := ps.length) (.inl rfl) hcl hF (by omega) hcs h6 h4 (by omega)
    rw [h5] at this
    exact this
  · simp at h'
theorem cells_rep {w : World} {F : Fr} {Ow : Own} {bm : Nat → Nat} {al : Nat → Bool} {loc : Loc} {locf : Nat → Loc} (hloc : locf 0 = loc) {x : (SV m)} {v : Value} (h : RepS P w F N Ow bm al loc x v) (hx : (x.data || isFn x) = true) :
    v.cells.size = x.cells.length ∧ (∀ u ∈ v.cells.toList, u.oneCell' = true) ∧ ∀ (j : Nat) (c : (SV m)) (u : Value), x.cells[j]? = some c → v.cells[j]? = some u → RepS P w F N Ow bm al (locf j) c u := by
  have single : ∀ (x : (SV m)) (v : Value), v.cells = #[v] → x.cells = [x] → v.oneCell' = true → RepS P w F N Ow bm al loc x v →
      v.cells.size = x.cells.length ∧ (∀ u ∈ v.cells.toList, u.oneCell' = true) ∧ ∀ (j : Nat) (c : (SV m)) (u : Value), x.cells[j]? = some c → v.cells[j]? = some u → RepS P w F N Ow bm al (locf j) c u := by
    intro x v hv hx h1 hr
    rw [hv, hx]
    refine ⟨rfl, by simpa using h1, fun j c u hc hu => ?_⟩
    cases j with
    | zero => simp at hc hu; subst hc hu; rw [hloc]; exact hr
    | succ j => simp at hc
  cases x with
  | any => simp [SV.data, isFn] at hx
  | skip => simp [SV.data, isFn] at hx
  | ptr b o => simp [SV.data, isFn] at hx
  | eptr e o => simp [SV.data, isFn] at hx
  | kfn f cs => simp [SV.data, isFn] at hx
  | bsl b z lo n => simp [SV.data, isFn] at hx
  | tup vs => simp [SV.data, isFn] at hx
  | leaf l =>
    have hl : RepL w F N l v := by simpa only [RepS, RepF] using h
    exact single _ _ hl.cells rfl hl.one h
  | own eo es =>
    refine single _ _ ?_ rfl ?_ h
    · rcases (show RepO P w F N Ow loc _ eo es v from h) with ⟨rfl, _⟩ | ⟨g, cap, cur, e, i, vals, _, _, _, _, rfl, _⟩ <;> rfl
    · rcases (show RepO P w F N Ow loc _ eo es v from h) with ⟨rfl, _⟩ | ⟨g, cap, cur, e, i, vals, _, _, _, _, rfl, _⟩ <;> rfl
  | raw eo es =>
    refine single _ _ ?_ rfl ?_ h
    · rcases (show RepO P w F N Ow loc _ eo es v from h) with ⟨rfl, _⟩ | ⟨g, cap, cur, e, i, vals, _, _, _, _, rfl, _⟩ <;> rfl
    · rcases (show RepO P w F N Ow loc _ eo es v from h) with ⟨rfl, _⟩ | ⟨g, cap, cur, e, i, vals, _, _, _, _, rfl, _⟩ <;> rfl
  | agg cs =>
    obtain ⟨vs, rfl, hr⟩ : ∃ vs, v = .agg vs ∧ RepR w F N cs vs.toList := by simpa only [RepS, RepF] using h
    refine ⟨by have := hr.1; simp at this; simp [SV.cells, Value.cells, this], fun u hu => hr.one u (by simpa [Value.cells] using hu), fun j c u hc hu => ?_⟩
    simp only [SV.cells, List.getElem?_map, Option.map_eq_some_iff] at hc
    obtain ⟨l, hl, rfl⟩ := hc
    exact RepS.cellOf (hr.2 j l u hl (by simpa [Value.cells] using hu))
  | nilptr =>
    have : v = .pointer none := by simpa only [RepS, RepF] using h
    subst this
    exact single _ _ rfl rfl rfl h
  | nilface =>
    have : v = .nilIface := by simpa only [RepS, RepF] using h
    subst this
    exact single _ _ rfl rfl rfl h
  | fn f caps =>
    obtain ⟨vs, rfl, hr⟩ := (show ∃ vs, v = .func (.func f) #[] vs ∧ _ from h)
    exact single _ _ rfl rfl rfl h
theorem leaves_rep {w : World} {F : Fr} {Ow : Own} {bm : Nat → Nat} {al : Nat → Bool} {loc : Loc} {x : (SV m)} {v : Value} (h : RepS P w F N Ow bm al loc x v) : ∀ l, x.leaves = some l → RepR w F N l v.cells.toList := by
  intro l hl
  cases x <;> simp only [SV.leaves] at hl <;> try (simp at hl; done)
  · simp at hl; subst hl
    rename_i l0
    have h' : RepL w F N l0 v := by simpa only [RepS, RepF] using h
    rw [h'.cells]
    exact RepR.cons h' (RepR.nil _ _ _)
  · simp at hl; subst hl
    have h' := RepO.leaf (show RepO P w F N Ow loc _ _ _ v from h)
    rw [h'.cells]
    exact RepR.cons h' (RepR.nil _ _ _)
  · simp at hl; subst hl
    rename_i l0
    obtain ⟨vs, rfl, hr⟩ : ∃ vs, v = .agg vs ∧ RepR w F N l0 vs.toList := by simpa only [RepS, RepF] using h
    exact hr
theorem asLeaf_rep {w : World} {F : Fr} {Ow : Own} {bm : Nat → Nat} {al : Nat → Bool} {loc : Loc} {x : (SV m)} {v : Value} (h : RepS P w F N Ow bm al loc x v) {l : (Leaf m)} (hl : asLeaf x = some l) : RepL w F N l v := by
  cases x <;> simp only [asLeaf] at hl <;> try (simp at hl; done)
  · simp at hl; subst hl; simpa only [RepS, RepF] using h
  · simp at hl; subst hl; exact RepO.leaf (show RepO P w F N Ow loc _ _ _ v from h)
theorem asLeaves_rep {w : World} {F : Fr} {Ow : Own} {bm : Nat → Nat} {al : Nat → Bool} : ∀ (cs : List (SV m)) (us : List Value) (ls : List (Leaf m)) (locf : Nat → Loc), asLeaves cs = some ls → us.length = cs.length →
    (∀ (j : Nat) (c : (SV m)) (u : Value), cs[j]? = some c → us[j]? = some u → RepS P w F N Ow bm al (locf j) c u) → RepR w F N ls us
  | [], us, ls, _, h, hl, _ => by simp [asLeaves] at h; subst h; obtain rfl : us = [] := List.eq_nil_of_length_eq_zero (by simpa using hl); exact RepR.nil _ _ _
  | c :: cs, us, ls, locf, h, hl, hr => by
    simp only [asLeaves] at h
    rw [Option.bind_eq_some_iff] at h
    obtain ⟨l, h1, h⟩ := h
    rw [Option.map_eq_some_iff] at h
    obtain ⟨ls', h2, rfl⟩ := h
    cases us with
    | nil => simp at hl
    | cons u us =>
      exact RepR.cons (asLeaf_rep (hr 0 c u rfl rfl) h1) (asLeaves_rep cs us ls' (fun j => locf (j + 1)) h2 (by simpa using hl) fun j c' u' a b => hr (j + 1) c' u' (by simpa using a) (by simpa using b))
theorem boxAt_set_self {bs : (Boxes m)} {b : Nat} {v : Option (List (SV m))} (h : b < bs.length) : boxAt (bs.set b v) b = v := by
  unfold boxAt; rw [List.getD_eq_getElem?_getD, List.getElem?_set_self h]; rfl
theorem boxAt_set_ne {bs : (Boxes m)} {b c : Nat} {v : Option (List (SV m))} (h : c ≠ b) : boxAt (bs.set b v) c = boxAt bs c := by
  unfold boxAt; rw [List.getD_eq_getElem?_getD, List.getElem?_set_ne (fun e => h e.symm), ← List.getD_eq_getElem?_getD]
theorem boxAt_lt {bs : (Boxes m)} {b : Nat} {cs : List (SV m)} (h : boxAt bs b = some cs) : b < bs.length := by
  unfold boxAt at h
  rcases Nat.lt_or_ge b bs.length with h' | h'
  · exact h'
  · rw [List.getD_eq_getElem?_getD, List.getElem?_eq_none h'] at h; simp at h
section
variable {s : (St m)} {tmps : Array Value} {w : World} {F : Fr} {Ow : Own} {bm : Nat → Nat}
theorem Inv.setBox (h : Inv P s tmps w F N Ow bm) {b : Nat} {cs cs' : List (SV m)} {cur cur' : Array Value} {e : TypeId} {w' : World} (hb : boxAt s.boxes b = some cs) (hne : cs ≠ []) (hg : w.heap[bm b]? = some (.cells cur e (0, 0))) (hs : cs'.length ≤ cur'.size) (hcs : cur'.size = cur.size)
    (hw1 : ∀ k, k ≠ bm b → w'.heap[k]? = w.heap[k]?) (hw2 : w'.heap[bm b]? = some (.cells cur' e (0, 0))) (hw3 : w'.heap.size = w.heap.size) (hos : w'.os = w.os) (htp : w'.tape = w.tape) (hou : w'.output = w.output)
    (hr : ∀ (j : Nat) (c : (SV m)) (u : Value), cs'[j]? = some c → cur'[j]? = some u → RepS P w F N Ow bm s.al (.box b j) c u) :
    Inv P { s with boxes := s.boxes.set b (some cs') } tmps w' F N Ow bm ∧ Far N w F Ow w' F Ow := by
  obtain ⟨_, _, _, _, hF, hO, _⟩ := (h.box b cs hb).resolve_left hne
  have hlt := boxAt_lt hb
  have hk : Keeps N w F w' F := by
    refine .mk' (fun k j hj => ?_) (fun _ => Nat.le_refl _) (Thawed.but (bm b) (fun k _ hk => hw1 k hk) fun _ => ⟨_, _, hw2⟩) (BSz.but (bm b) (fun k _ hk => hw1 k hk) (bsz_same hg hw2 hcs))
    have : k ≠ bm b := by rintro rfl; omega
    simp only [World.cell?, hw1 k this]
  have hp : ∀ c, s.al c = true → bm c = bm c ∧ (boxAt (s.boxes.set b (some cs')) c).isSome = true := by
    intro c hc
    refine ⟨rfl, ?_⟩
    by_cases hcb : c = b
    · subst hcb; rw [boxAt_set_self hlt]; rfl
    · rw [boxAt_set_ne hcb]; exact hc
  have ho : ∀ loc g, loc ≠ .blk b → Ow g = some loc → w'.heap[g]? = w.heap[g]? ∧ F g = F g ∧ Ow g = some loc := by
    intro loc g hl hg'
    refine ⟨hw1 g ?_, rfl, hg'⟩
    rintro rfl
    rw [hO] at hg'
    cases hg'
    exact hl rfl
  refine ⟨⟨h.len, fun t => (h.slot t).to hk hp fun _ g hg' => ho _ g (by simp) hg', fun c ds hc => ?_, h.low.to hk (by rw [hw3]; exact Nat.le_refl _), fun g hg' => h.new g (by omega), fun c ds hc => ?_, fun g hz => ⟨(h.zow g hz).1, by rw [hw1 g (fun e => by rw [e] at hz; have := (h.zow _ hz).1; rw [hO] at this; simp at this)]; exact (h.zow g hz).2⟩⟩, ⟨hos, htp, hou, by omega, hk, fun g _ hg' => ?_⟩⟩
  · by_cases hcb : c = b
    · subst hcb
      have hc' : boxAt (s.boxes.set c (some cs')) c = some ds := hc
      rw [boxAt_set_self hlt] at hc'
      cases hc'
      exact .inr ⟨cur', e, hw2, hs, hF, hO, fun j x u hx hu => (hr j x u hx hu).to hk hp fun _ g hg' => ho _ g (by simp) hg'⟩
    · have hc' : boxAt (s.boxes.set b (some cs')) c = some ds := hc
      rw [boxAt_set_ne hcb] at hc'
      rcases h.box c ds hc' with g0 | ⟨cur2, e2, g1, g2, g3, g4, g5⟩
      · exact .inl g0
      have hne : bm c ≠ bm b := by
        intro he
        rw [he, hO] at g4
        cases g4
        exact hcb rfl
      exact .inr ⟨cur2, e2, (hw1 _ hne).trans g1, g2, g3, g4, fun j x u hx hu => (g5 j x u hx hu).to hk hp fun _ g hg' => ho _ g (by simp) hg'⟩
  · by_cases hcb : c = b
    · subst hcb; exact h.bmn c cs hb
    · have hc' : boxAt (s.boxes.set b (some cs')) c = some ds := hc
      rw [boxAt_set_ne hcb] at hc'
      exact h.bmn c ds hc'
  · refine ⟨fun _ => hw1 g ?_, rfl, hg'⟩
    rintro rfl
    rw [hO] at hg'
    simp at hg'
theorem Inv.takeBox (h : Inv P s tmps w F N Ow bm) {b p : Nat} {cs : List (SV m)} {c : (SV m)} (hb : boxAt s.boxes b = some cs) (hc : cs[p]? = some c) (to : Loc) :
    ∃ Ow', Inv P { s with boxes := s.boxes.set b (some (cs.set p c.drop)) } tmps w F N Ow' bm ∧ Far N w F Ow w F Ow' ∧ ∃ cur e u, w.heap[bm b]? = some (.cells cur e (0, 0)) ∧ cur[p]? = some u ∧ cs.length ≤ cur.size ∧
      RepS P w F N Ow' bm s.al to c u := by
  have hp : p < cs.length := (List.getElem?_eq_some_iff.1 hc).1
  have hne : cs ≠ [] := by rintro rfl; simp at hp
  obtain ⟨cur, e, h1, h2, h3, h4, h5⟩ := (h.box b cs hb).resolve_left hne
  have hpc : p < cur.size := Nat.lt_of_lt_of_le hp h2
  have hu : cur[p]? = some cur[p] := by simp [hpc]
  obtain ⟨h6, h7⟩ := h.setBox (cs' := cs.set p c.drop) (cur' := cur) hb hne h1 (by simpa using h2) rfl (fun _ _ => rfl) h1 rfl rfl rfl rfl (fun j x u hx hu' => by
    by_cases hj : j = p
    · subst hj
      rw [List.getElem?_set_self hp] at hx
      cases hx
      exact RepS.drop (h5 j c u hc hu')
    · rw [List.getElem?_set_ne (fun e => hj e.symm)] at hx
      exact h5 j x u hx hu')
  have hlt := boxAt_lt hb
  refine ⟨fun g => if Ow g = some (.box b p) then some to else Ow g, h6.to (Keeps.refl _ _) (Nat.le_refl _) (fun _ _ => rfl) (fun g loc hg hl => ⟨rfl, rfl, ?_⟩) (fun g hg => ⟨(h.new g hg).1, by simp [(h.new g hg).2]⟩) (fun g hg => ⟨by simp [(h.zow g hg).1], (h.zow g hg).2⟩), ⟨rfl, rfl, rfl, Nat.le_refl _, Keeps.refl _ _, fun g _ hg => ⟨fun _ => rfl, rfl, by simp [hg]⟩⟩, cur, e, cur[p], h1, hu, h2, ?_⟩
  · rw [if_neg]
    · exact hg
    · intro he
      rw [he] at hg
      cases hg
      obtain ⟨ds, hd1, hd2⟩ := hl
      have hd1' : boxAt (s.boxes.set b (some (cs.set p c.drop))) b = some ds := hd1
      rw [boxAt_set_self hlt] at hd1'
      cases hd1'
      rw [List.getD_eq_getElem?_getD, List.getElem?_set_self hp] at hd2
      simp [drop_not_own] at hd2
  · exact (h5 p c _ hc hu).to (Keeps.refl _ _) (fun b hb => ⟨rfl, hb⟩) fun _ g hg => ⟨rfl, rfl, by simp [hg]⟩
end
end Go.Vs
end
section
namespace Go.Vs
variable {m : Bool}
variable {P : Program} {N : Env}
def Step (P : Program) (N : Env) (nt : Nat) (s' : (St m)) (a : Act) (w : World) (F : Fr) (Ow : Own) (bm : Nat → Nat) (a' : Act) (w' : World) : Prop :=
  ∃ F' Ow' bm', Inv P s' a'.tmps w' F' N Ow' bm' ∧ Far N w F Ow w' F' Ow' ∧ (∀ b, nt ≤ b → bm' b = bm b) ∧ a'.defers = a.defers
def DSound (P : Program) (N : Env) (D : (Oracle m)) : Prop := ∀ (f : FuncId) (args : List (SV m)) (boxes : List (List (SV m))) (r : (SV m) × List (List (SV m))), D f args boxes = some r → args.all SV.handed = true → (∀ c ∈ boxes, ∀ x ∈ c, x.flat = true) →
  r.2.length = boxes.length ∧ r.1.backOk boxes.length = true ∧ (∀ cs ∈ r.2, ∀ c ∈ cs, c.flat = true) ∧ (∃ fn, P.funcs[f]? = some fn ∧ (fn.name == "runtime.NumGoroutine") = false ∧ fn.body.isNone = false) ∧
  ∀ (w : World) (F : Fr) (Ow : Own) (bm : Nat → Nat) (vals : Array Value), Inv P { tmps := args, boxes := boxes.map some } vals w F N Ow bm →
    Calls P f vals w fun e w' => ∃ v F' Ow', e = .returned v ∧ Inv P { tmps := [r.1], boxes := r.2.map some } #[v] w' F' N Ow' bm ∧ Far N w F Ow w' F' Ow'
section
variable {s : (St m)} {a : Act} {w : World} {F : Fr} {Ow : Own} {bm : Nat → Nat} {nt : Nat}
theorem Inv.put (h : Inv P s a.tmps w F N Ow bm) {dst : Option Tmp} {v : (SV m)} {u : Value} (hv : ∀ d, dst = some d → RepS P w F N Ow bm s.al (.tmp d) v u) :
    Inv P (s.put dst v) (a.put dst u).tmps w F N Ow bm := by
  cases dst with
  | none => exact h
  | some d => exact h.set (hv d rfl)
theorem put_defers (dst : Option Tmp) (u : Value) : (a.put dst u).defers = a.defers := by cases dst <;> rfl
theorem app_put (dst : Option Tmp) (v : (SV m)) : (⟨dstE dst v, none⟩ : (Eff m)).app s = s.put dst v := by rw [put_eq]; rfl
theorem app_take (x : Operand) (dst : Option Tmp) (v : (SV m)) : (⟨takeE s.eval x ++ dstE dst v, none⟩ : (Eff m)).app s = (s.take x).put dst v := by
  rw [put_eq]; simp [St.take, St.takes, Eff.app, setAll_append]
theorem step_val (h : Inv P s a.tmps w F N Ow bm) {o : Oper} {next : Act → World → Prop} {Q : Exit → Act → World → Prop} {v : (SV m)} {z : Value} (hrun : (execOp a.eval o).run P w = .ok (.value z) w)
    (hv : ∀ loc, RepS P w F N Ow bm s.al loc v z) (hk : ∀ a' w', Step P N nt ((⟨dstE o.dst v, none⟩ : (Eff m)).app s) a w F Ow bm a' w' → next a' w') : o.wp P a w next Q := by
  unfold Oper.wp
  rw [hrun]
  exact hk _ _ ⟨F, Ow, bm, by rw [app_put]; exact h.put fun d _ => hv _, Far.refl _ _ _, fun _ _ => rfl, put_defers _ _⟩
theorem rep_of_leaf {loc : Loc} {v : (SV m)} {z : Value} (h : ∃ l, v = .leaf l ∧ RepL w F N l z) : RepS P w F N Ow bm s.al loc v z := by
  obtain ⟨l, rfl, hl⟩ := h; exact RepS.leaf hl
theorem rep_of_part {loc : Loc} {v : (SV m)} {z : Value} (h : (∃ l, v = .leaf l ∧ RepL w F N l z) ∨ ∃ ls us, v = .agg ls ∧ z = .agg us ∧ RepR w F N ls us.toList) : RepS P w F N Ow bm s.al loc v z := by
  rcases h with h | ⟨ls, us, rfl, rfl, hr⟩
  · exact rep_of_leaf h
  · exact RepS.agg hr
theorem far_moved (x : Operand) (to : Loc) : Far N w F Ow w F (moved x to Ow) := ⟨rfl, rfl, rfl, Nat.le_refl _, Keeps.refl _ _, fun _ _ hg => ⟨fun _ => rfl, rfl, moved_none hg⟩⟩
theorem retype_rep {Ow : Own} {al : Nat → Bool} {loc : Loc} {x : (SV m)} {v : Value} {t : TypeId} (h : RepS P w F N Ow bm al loc x v) : RepS P w F N Ow bm al loc (retype P t x) v := by
  unfold retype
  split
  · rcases (show RepO P w F N Ow loc false none [] v from h) with ⟨rfl, _⟩ | ⟨g, cap, cur, e, i, vals, _, he, _⟩
    · exact RepS.own_nil
    · simp at he
  · exact h
theorem step_take (h : Inv P s a.tmps w F N Ow bm) (x : Operand) (dst : Option Tmp) (t : TypeId) : Step P N nt ((⟨takeE s.eval x ++ dstE dst (retype P t (s.eval x)), none⟩ : (Eff m)).app s) a w F Ow bm (a.put dst (a.eval x)) w := by
  rw [app_take]
  cases dst with
  | none => exact ⟨F, moved x (.blk 0) Ow, bm, (h.take rfl x (.blk 0)).1, far_moved _ _, fun _ _ => rfl, rfl⟩
  | some d =>
    obtain ⟨h1, h2⟩ := h.take (a := a) rfl x (.tmp d)
    have hal : (s.take x).al = s.al := by cases x <;> rfl
    exact ⟨F, moved x (.tmp d) Ow, bm, h1.set (by rw [hal]; exact retype_rep h2), far_moved _ _, fun _ _ => rfl, rfl⟩
theorem plain_rep {loc : Loc} {x : (SV m)} {v : Value} (h : RepS P w F N Ow bm s.al loc x v) (hx : x.plain = true) : plainV v = true ∧ v.cells = #[v] ∧ v.oneCell' = true := by
  unfold SV.plain at hx
  split at hx <;> try (simp at hx; done)
  all_goals
    simp only [RepS, RepF] at h
    cases h
    exact ⟨rfl, rfl, rfl⟩
theorem Inv.softStore {tmps : Array Value} (h : Inv P s tmps w F N Ow bm) {g j : Nat} {v u : Value} {w' : World} {cur : Array Value} {e : TypeId} (hZ : N.Z g = true) (hg : w.heap[g]? = some (.cells cur e (0, 0))) (hu : cur[j]? = some u) (pu : plainV u = true) (pv : plainV v = true)
    (hw : w' = w.setRow g (cur.toList.take j ++ [v] ++ cur.toList.drop (j + 1)).toArray) : Inv P s tmps w' F N Ow bm ∧ Far N w F Ow w' F Ow := by
  subst hw
  have hj : j < cur.size := (Array.getElem?_eq_some_iff.1 hu).1
  have hcl := Array.length_toList (xs := cur)
  have hset := setRow_heap w g cur (cur.toList.take j ++ [v] ++ cur.toList.drop (j + 1)).toArray e (0, 0) hg
  have hoth : ∀ k, k ≠ g → (w.setRow g (cur.toList.take j ++ [v] ++ cur.toList.drop (j + 1)).toArray).heap[k]? = w.heap[k]? := fun k hk => setRow_other w g k _ hk
  have hat : ∀ i, (cur.toList.take j ++ [v] ++ cur.toList.drop (j + 1))[i]? = if i = j then some v else cur[i]? := by
    intro i
    rw [List.append_assoc]
    by_cases hij : i < j
    · rw [List.getElem?_append_left (by rw [List.length_take]; omega), List.getElem?_take, if_pos hij, if_neg (by omega)]; simp
    · rw [List.getElem?_append_right (by rw [List.length_take]; omega), List.length_take, Nat.min_eq_left (by omega)]
      by_cases hi : i = j
      · subst hi; simp
      · rw [if_neg hi, List.getElem?_append_right (by simp; omega), List.getElem?_drop]
        simp only [List.length_singleton]
        rw [show j + 1 + (i - j - 1) = i by omega]; simp
  have hk : Keeps N w F (w.setRow g (cur.toList.take j ++ [v] ++ cur.toList.drop (j + 1)).toArray) F := by
    refine ⟨fun k i _ hz => ?_, fun k i x hi hx => ?_, fun _ => Nat.le_refl _, Thawed.but g (fun k _ hk => hoth k hk) fun _ => ⟨_, _, hset⟩, BSz.but g (fun k _ hk => hoth k hk) (bsz_same hg hset (by simp only [List.size_toArray, List.length_append, List.length_take, List.length_drop, List.length_singleton, hcl]; omega))⟩
    · have : k ≠ g := by rintro rfl; rw [hZ] at hz; simp at hz
      simp only [World.cell?, hoth k this]
    · by_cases hkg : k = g
      · subst hkg
        rw [cell_in hg] at hx
        rw [cell_in hset]
        by_cases hij : i = j
        · subst hij
          rw [hu] at hx; cases hx
          exact ⟨v, by simpa using (hat i).trans (if_pos rfl), .inr ⟨pu, pv⟩⟩
        · exact ⟨x, by have := (hat i).trans (if_neg hij); simpa using this.trans hx, .inl rfl⟩
      · exact ⟨x, by simpa only [World.cell?, hoth k hkg] using hx, .inl rfl⟩
  refine ⟨h.to hk (Nat.le_of_eq (by simp)) (fun _ _ => rfl) (fun k loc hk' _ => ?_) (fun k hk' => h.new k (by simpa using hk')) (fun k hz => ⟨(h.zow k hz).1, ?_⟩), ⟨rfl, rfl, rfl, Nat.le_of_eq (by simp), hk, fun k _ ho => ⟨fun hz => ?_, rfl, ho⟩⟩⟩
  · have : k ≠ g := by rintro rfl; rw [(h.zow k hZ).1] at hk'; simp at hk'
    exact ⟨hoth k this, rfl, hk'⟩
  · by_cases hkg : k = g
    · subst hkg; exact ⟨_, _, hset⟩
    · rw [hoth k hkg]; exact (h.zow k hz).2
  · have : k ≠ g := by rintro rfl; rw [hZ] at hz; simp at hz
    exact hoth k this
theorem box_cells {b : Nat} {cs : List (SV m)} (h : Inv P s a.tmps w F N Ow bm) (hb : boxAt s.boxes b = some cs) {p n : Nat} {l : List (Leaf m)} (hle : p + n ≤ cs.length) (hl : asLeaves ((cs.drop p).take n) = some l) :
    ∃ vals : List Value, vals.length = n ∧ (∀ (j : Nat) (v : Value), vals[j]? = some v → w.cell? ⟨bm b, p + j, none⟩ = some v) ∧ RepR w F N l vals := by
  rcases h.box b cs hb with rfl | ⟨cur, e, h1, h2, h3, h4, h5⟩
  · simp only [List.length_nil] at hle
    obtain rfl : n = 0 := by omega
    simp [asLeaves] at hl
    subst hl
    exact ⟨[], rfl, by simp, RepR.nil _ _ _⟩
  have hlen := Array.length_toList (xs := cur)
  refine ⟨(cur.toList.drop p).take n, by simp; omega, fun j v hj => ?_, ?_⟩
  · rw [cell_in h1]
    rw [List.getElem?_take] at hj
    split at hj
    · rw [List.getElem?_drop] at hj; simpa using hj
    · simp at hj
  refine asLeaves_rep (P := P) (Ow := Ow) (bm := bm) (al := s.al) ((cs.drop p).take n) _ l (fun j => .box b (p + j)) hl (by simp; omega) fun j c u hc hu => ?_
  rw [List.getElem?_take] at hc hu
  split at hc
  · rename_i hj
    simp only [hj, if_true] at hu
    rw [List.getElem?_drop] at hc hu
    exact h5 (p + j) c u hc (by simpa using hu)
  · simp at hc
theorem load_cells_run {t : TypeId} {g p n : Nat} {vals : List Value} (hv : vals.length = n) (hc : ∀ (j : Nat) (v : Value), vals[j]? = some v → w.cell? ⟨g, p + j, none⟩ = some v) (ha : isAggT P t = true) (hn : sizeT P t = some n) :
    (Instr.loadAt t (.pointer (some ⟨g, p, none⟩))).run P w = .ok (.agg vals.toArray) w := by
  obtain ⟨d, i, hd, hi, rfl⟩ := sizeT_eq hn
  rw [isAggT_eq hd] at ha
  have hl := run_loadCells_list (P := P) w ⟨g, p, none⟩ vals (fun j v hj => by rw [addr_add]; exact hc j v hj)
  rw [hv] at hl
  simp [Instr.loadAt, Instr.sureAddr, loadVar, isAgg_run hd, ha, sizeOf_run hi, hl]
theorem load_cell_run {t : TypeId} {g p : Nat} {cur : Array Value} {e : TypeId} {z : Nat × Nat} {u : Value} {d : TypeDesc} (hg : w.heap[g]? = some (.cells cur e z)) (hd : P.underlying t = some d) (ha : isAggT P t = false) (hu : cur[p]? = some u) :
    (Instr.loadAt t (.pointer (some ⟨g, p, none⟩))).run P w = .ok u w := by
  rw [isAggT_eq hd] at ha
  have hc : w.cell? ⟨g, p, none⟩ = some u := by rw [cell_in hg]; exact hu
  simp [Instr.loadAt, Instr.sureAddr, loadVar, isAgg_run hd, ha, hc]
theorem ptr_eq {loc : Loc} {b p : Nat} {z : Value} (h : RepS (m := m) P w F N Ow bm s.al loc (.ptr b p) z) : z = .pointer (some ⟨bm b, p, none⟩) ∧ s.al b = true := by simpa only [RepS, RepF] using h
theorem isAgg_desc {t : TypeId} (h : isAggT P t = false) : ∃ d, P.underlying t = some d := by
  cases hd : P.underlying t with
  | none => simp [isAggT, hd] at h
  | some d => exact ⟨d, rfl⟩
theorem sound_load (h : Inv P s a.tmps w F N Ow bm) {o : Oper} {mv : Bool} {t : TypeId} {x : Operand} {e : (Eff m)} {D : (Oracle m)} {pu ta : Bool} (ho : o.op = .load t x) (he : effO P D nt mv pu ta o s.eval s.boxes = some e)
    {next : Act → World → Prop} {Q : Exit → Act → World → Prop} (hk : ∀ a' w', Step P N nt (e.app s) a w F Ow bm a' w' → next a' w') : o.wp P a w next Q := by
  simp only [effO, ho] at he
  have hx := h.eval (a := a) rfl x
  split at he
  · rename_i fc el p hxe
    rw [Option.map_eq_some_iff] at he
    obtain ⟨v, hv, rfl⟩ := he
    rw [hxe] at hx
    obtain ⟨g, q, vals, hz, hle, hso, hr, hc⟩ : ∃ g q vals, a.eval x = .pointer (some ⟨g, q + p, none⟩) ∧ q + el.length ≤ F g ∧ (fc.At N g ∧ (N.Z g = true → ∀ l ∈ el, l.soft = true)) ∧ RepR w F N el vals ∧ ∀ (j : Nat) (u : Value), vals[j]? = some u → w.cell? ⟨g, q + j, none⟩ = some u := by simpa only [RepS, RepF] using hx
    obtain ⟨z, hrun, hrep⟩ := loadL_run (P := P) hv hr hc
    exact step_val h (z := z) (v := v) (by simp [execOp, ho, hz, hrun]) (fun _ => rep_of_part hrep) hk
  · rename_i f cs hxe
    obtain ⟨ha, he⟩ := guarded_eq he
    simp only [Option.map_some, Option.some.injEq] at he
    subst he
    rw [hxe] at hx
    have hF : RepF (m := m) w F N bm s.al (.kfn f cs) (a.eval x) := by simpa only [RepS] using hx
    have hF' := hF
    obtain ⟨g, q, vs, hz, _, hc, hs, hr⟩ := hF'
    have ha' : isAggT P t = false := by simpa using ha
    obtain ⟨d, hd⟩ := isAgg_desc ha'
    have hrun : (Instr.loadAt t (.pointer (some ⟨g, q, none⟩))).run P w = .ok (.func (.func f) #[] vs) w := by
      rw [isAggT_eq hd] at ha'
      simp [Instr.loadAt, Instr.sureAddr, loadVar, isAgg_run hd, ha', hc]
    refine step_val h (z := .func (.func f) #[] vs) (v := unK f cs) (by simp [execOp, ho, hz, hrun]) (fun loc => ?_) hk
    unfold unK
    refine ⟨vs, rfl, by simp [hs], fun j c u hj hu => ?_⟩
    simp only [List.getElem?_map, Option.map_eq_some_iff] at hj
    obtain ⟨c0, hc0, rfl⟩ := hj
    have := hr j c0 u hc0 hu
    cases c0 with
    | none =>
      have hu' : u = a.eval x := this
      rw [hu']; exact hF
    | some p => exact this
  · rename_i b p hxe
    rw [hxe] at hx
    obtain ⟨hz, hal⟩ := ptr_eq hx
    rw [Option.bind_eq_some_iff] at he
    obtain ⟨cs, hb, he⟩ := he
    split at he
    · rename_i ha
      rw [Option.bind_eq_some_iff] at he
      obtain ⟨n, hn, he⟩ := he
      split at he
      · rename_i hle
        rw [Option.map_eq_some_iff] at he
        obtain ⟨l, hl, rfl⟩ := he
        obtain ⟨vals, hvl, hcl, hr⟩ := box_cells h hb hle hl
        have hrun := load_cells_run (n := n) (p := p) hvl hcl ha hn
        exact step_val h (z := .agg vals.toArray) (v := .agg l) (by simp [execOp, ho, hz, hrun]) (fun _ => RepS.agg (by simpa using hr)) hk
      · simp at he
    · rename_i ha
      have ha' : isAggT P t = false := by simpa using ha
      obtain ⟨d, hd⟩ := isAgg_desc ha'
      rw [Option.map_eq_some_iff] at he
      obtain ⟨c, hc, he⟩ := he
      split at he
      · subst he
        cases hdst : o.dst with
        | none =>
          obtain ⟨Ow', h1, h2, cur, et, u, hg, hu, hs, hr⟩ := h.takeBox hb hc (.blk 0)
          have hrun : (execOp a.eval o).run P w = .ok (.value u) w := by simp [execOp, ho, hz, load_cell_run hg hd ha' hu]
          unfold Oper.wp
          rw [hrun]
          refine hk _ _ ⟨F, Ow', bm, ?_, h2, fun _ _ => rfl, put_defers _ _⟩
          rw [hdst]
          exact h1
        | some dd =>
          obtain ⟨Ow', h1, h2, cur, et, u, hg, hu, hs, hr⟩ := h.takeBox hb hc (.tmp dd)
          have hrun : (execOp a.eval o).run P w = .ok (.value u) w := by simp [execOp, ho, hz, load_cell_run hg hd ha' hu]
          unfold Oper.wp
          rw [hrun]
          refine hk _ _ ⟨F, Ow', bm, ?_, h2, fun _ _ => rfl, put_defers _ _⟩
          rw [hdst]
          refine h1.set (d := dd) (v := c) (u := u) (hr.to (Keeps.refl _ _) (fun b' hb' => ⟨rfl, ?_⟩) fun _ g hg => ⟨rfl, rfl, hg⟩)
          show (boxAt (s.boxes.set b (some (cs.set p c.drop))) b').isSome = true
          by_cases hbb : b' = b
          · subst hbb; rw [boxAt_set_self (boxAt_lt hb)]; rfl
          · rw [boxAt_set_ne hbb]; exact hb'
      · subst he
        have hp : p < cs.length := (List.getElem?_eq_some_iff.1 hc).1
        obtain ⟨cur, et, h1, h2, h3, h4, h5⟩ := (h.box b cs hb).resolve_left (by rintro rfl; simp at hp)
        have hpc : p < cur.size := Nat.lt_of_lt_of_le hp h2
        have hu : cur[p]? = some cur[p] := by simp [hpc]
        exact step_val h (z := cur[p]) (v := c.drop) (by simp [execOp, ho, hz, load_cell_run h1 hd ha' hu]) (fun _ => RepS.drop (h5 p c _ hc hu)) hk
  · simp at he
theorem mem_takes (x : Operand) : (s.take x).boxes = s.boxes := by cases x <;> rfl
theorem sound_store (h : Inv P s a.tmps w F N Ow bm) {o : Oper} {mv : Bool} {t : TypeId} {x y : Operand} {e : (Eff m)} {D : (Oracle m)} {pu ta : Bool} (ho : o.op = .store t x y) (he : effO P D nt mv pu ta o s.eval s.boxes = some e)
    {next : Act → World → Prop} {Q : Exit → Act → World → Prop} (hk : ∀ a' w', Step P N nt (e.app s) a w F Ow bm a' w' → next a' w') : o.wp P a w next Q := by
  simp only [effO, ho] at he
  have hx := h.eval (a := a) rfl x
  split at he
  · rename_i fc el p hxe
    rw [hxe] at hx
    split at he
    · rename_i hcnd
      obtain ⟨⟨hsf, hsa⟩, hpl, hst⟩ := hcnd
      simp only [Option.map_some, Option.some.injEq] at he
      subst he
      obtain ⟨g, q, vals, hz, hle, hso, hr, hc⟩ : ∃ g q vals, a.eval x = .pointer (some ⟨g, q + p, none⟩) ∧ q + el.length ≤ F g ∧ (fc.At N g ∧ (N.Z g = true → ∀ l ∈ el, l.soft = true)) ∧ RepR w F N el vals ∧ ∀ (j : Nat) (u : Value), vals[j]? = some u → w.cell? ⟨g, q + j, none⟩ = some u := by simpa only [RepS, RepF] using hx
      have hZ := hso.1.z hsf
      obtain ⟨pv, hvc, hone⟩ := plain_rep (h.eval (a := a) rfl y) hpl
      obtain ⟨_, cur, et, hg⟩ := h.zow g hZ
      have hep : el[p]? = some .unk := by
        unfold softAt at hsa
        split at hsa
        · assumption
        · simp at hsa
      obtain ⟨u, hu, hru⟩ := hr.get hep
      have hcu := hc _ _ hu
      rw [cell_in hg] at hcu
      have pu : plainV u = true := by cases hru; assumption
      have hlt : q + p < cur.size := (Array.getElem?_eq_some_iff.1 hcu).1
      obtain ⟨d, i, hd, hi, hi1⟩ := sizeT_eq hst
      have hst := run_storeCells_at P g (q + p) et [a.eval y] 0 cur w hg (by simp; omega) (by simpa using hone)
      obtain ⟨k1, k2⟩ := h.softStore hZ hg hcu pu pv rfl
      have hrun : (execOp a.eval o).run P w = .ok .skip (w.setRow g (cur.toList.take (q + p) ++ [a.eval y] ++ cur.toList.drop (q + p + 1)).toArray) := by
        simp only [Nat.add_zero, List.length_singleton] at hst
        simp [execOp, ho, hz, Instr.storeAt, Instr.sureAddr, storeVar, sizeOf_run hi, hvc, hi1, hst]
      unfold Oper.wp
      rw [hrun]
      refine hk _ _ ⟨F, Ow, bm, ?_, k2, fun _ _ => rfl, put_defers _ _⟩
      rw [app_put]
      exact Inv.put (a := a) k1 fun d _ => by simp only [RepS, RepF]
    · simp at he
  · rename_i b p hxe
    rw [hxe] at hx
    obtain ⟨hz, hal⟩ := ptr_eq hx
    rw [Option.bind_eq_some_iff] at he
    obtain ⟨cs, hb, he⟩ := he
    rw [Option.bind_eq_some_iff] at he
    obtain ⟨n, hn, he⟩ := he
    obtain ⟨hfl, he'⟩ := guarded_eq he
    clear he
    split at he'
    · rename_i hc
      obtain ⟨hc1, hc2⟩ := hc
      simp only [Option.some.injEq] at he'
      subst he'
      obtain ⟨h1, h2⟩ := h.take (a := a) rfl y (.box b p)
      have hal' : (s.take y).al = s.al := by cases y <;> rfl
      have hbx : (s.take y).boxes = s.boxes := mem_takes y
      obtain ⟨hsz, hone, hcl⟩ := cells_rep (locf := fun j => .box b (p + j)) (by simp) h2 (by simp [hfl])
      obtain ⟨d, i, hd, hi, rfl⟩ := sizeT_eq hn
      have heq : ((⟨takeE s.eval y ++ dstE o.dst .skip, some (s.boxes.set b (some (cs.take p ++ (s.eval y).cells ++ cs.drop (p + i.size))))⟩ : (Eff m)).app s) =
          ({ (s.take y) with boxes := (s.take y).boxes.set b (some (cs.take p ++ (s.eval y).cells ++ cs.drop (p + i.size))) } : (St m)).put o.dst .skip := by
        rw [put_eq]
        cases y <;> simp [St.take, St.takes, Eff.app, setAll_append]
      by_cases hne : cs = []
      · subst hne
        simp only [List.length_nil] at hc2
        have h0 : i.size = 0 := by omega
        have hv0 : (a.eval y).cells = #[] := Array.eq_empty_of_size_eq_zero (by rw [hsz, ← hc1]; exact h0)
        have hs0 : (s.eval y).cells = [] := List.eq_nil_of_length_eq_zero (by omega)
        have hrun : (execOp a.eval o).run P w = .ok .skip w := by
          simp [execOp, ho, hz, Instr.storeAt, Instr.sureAddr, storeVar, sizeOf_run hi, hv0, h0, storeCells]
        unfold Oper.wp
        rw [hrun]
        refine hk _ _ ⟨F, _, bm, ?_, far_moved y (.box b p), fun _ _ => rfl, put_defers _ _⟩
        rw [heq, hs0]
        have hsame : (s.take y).boxes.set b (some ([].take p ++ [] ++ [].drop (p + i.size))) = (s.take y).boxes := by
          rw [hbx]
          apply List.ext_getElem?
          intro k
          by_cases hk : k = b
          · subst hk
            have hlt := boxAt_lt hb
            rw [List.getElem?_set_self hlt]
            unfold boxAt at hb
            rw [List.getD_eq_getElem?_getD, List.getElem?_eq_getElem hlt] at hb
            rw [List.getElem?_eq_getElem hlt]
            simp at hb
            simp [hb]
          · rw [List.getElem?_set_ne (fun e => hk e.symm)]
        rw [hsame]
        exact Inv.put (a := a) h1 fun d _ => by simp only [RepS, RepF]
      obtain ⟨cur, et, g1, g2, g3, g4, g5⟩ := (h1.box b cs (by rw [hbx]; exact hb)).resolve_left hne
      have hvl : (a.eval y).cells.toList.length = i.size := by rw [Array.length_toList]; omega
      have hst := run_storeCells_at P (bm b) p et (a.eval y).cells.toList 0 cur w g1 (by rw [hvl]; omega) hone
      have hrun : (execOp a.eval o).run P w = .ok .skip (w.setRow (bm b) (cur.toList.take p ++ (a.eval y).cells.toList ++ cur.toList.drop (p + i.size)).toArray) := by
        rw [Nat.add_zero, hvl] at hst
        simp [execOp, ho, hz, Instr.storeAt, Instr.sureAddr, storeVar, sizeOf_run hi, hsz, ← hc1, hst]
      have hcl2 := Array.length_toList (xs := cur)
      obtain ⟨k1, k2⟩ := h1.setBox (b := b) (cs := cs) (cs' := cs.take p ++ (s.eval y).cells ++ cs.drop (p + i.size)) (cur' := (cur.toList.take p ++ (a.eval y).cells.toList ++ cur.toList.drop (p + i.size)).toArray)
        (w' := w.setRow (bm b) (cur.toList.take p ++ (a.eval y).cells.toList ++ cur.toList.drop (p + i.size)).toArray) (by rw [hbx]; exact hb) hne g1
        (by simp only [List.size_toArray, List.length_append, List.length_take, List.length_drop, hvl, hcl2]; omega) (by simp only [List.size_toArray, List.length_append, List.length_take, List.length_drop, hvl, hcl2]; omega) (fun k hk => setRow_other w _ k _ hk) (setRow_heap w _ cur _ et _ g1) (by simp) rfl rfl rfl
        (fun j c u hj hu => by
          rw [hal']
          have hj0 : j < cs.length := by
            have := (List.getElem?_eq_some_iff.1 hj).1
            simp only [List.length_append, List.length_take, List.length_drop] at this
            omega
          rw [List.append_assoc] at hj
          have hu' : (cur.toList.take p ++ ((a.eval y).cells.toList ++ cur.toList.drop (p + i.size)))[j]? = some u := by simpa using hu
          by_cases hjp : j < p
          · rw [List.getElem?_append_left (by rw [List.length_take]; omega), List.getElem?_take, if_pos hjp] at hj
            rw [List.getElem?_append_left (by rw [List.length_take]; omega), List.getElem?_take, if_pos hjp] at hu'
            have := g5 j c u hj (by simpa using hu')
            simp only [hbx] at this
            exact this
          · rw [List.getElem?_append_right (by rw [List.length_take]; omega), List.length_take, Nat.min_eq_left (by omega)] at hj
            rw [List.getElem?_append_right (by rw [List.length_take]; omega), List.length_take, Nat.min_eq_left (by omega)] at hu'
            by_cases hjn : j - p < i.size
            · rw [List.getElem?_append_left (by omega)] at hj
              rw [List.getElem?_append_left (by omega)] at hu'
              have := hcl (j - p) c u hj (by simpa using hu')
              rwa [show p + (j - p) = j by omega] at this
            · rw [List.getElem?_append_right (by omega), List.getElem?_drop] at hj
              rw [List.getElem?_append_right (by omega), List.getElem?_drop, hvl] at hu'
              rw [show p + i.size + (j - p - (s.eval y).cells.length) = j by omega] at hj
              rw [show p + i.size + (j - p - i.size) = j by omega] at hu'
              have := g5 j c u hj (by simpa using hu')
              simp only [hbx] at this
              exact this)
      unfold Oper.wp
      rw [hrun]
      refine hk _ _ ⟨F, _, bm, ?_, (far_moved y (.box b p)).trans k2, fun _ _ => rfl, put_defers _ _⟩
      rw [heq]
      exact Inv.put (a := a) k1 fun d _ => by simp only [RepS, RepF]
    · simp at he'
  · simp at he
end
end Go.Vs
end
section
set_option linter.unusedVariables false
set_option linter.unusedSimpArgs false
namespace Go.Vs
variable {m : Bool}
variable {P : Program} {N : Env}
section
variable {s : (St m)} {a : Act} {w : World} {F : Fr} {Ow : Own} {bm : Nat → Nat} {nt : Nat}
theorem Inv.newBox {tmps : Array Value} (h : Inv P s tmps w F N Ow bm) {d : Nat} (hd : boxAt s.boxes d = none) {cells : Array Value} (t : TypeId) {cs : List (SV m)} (hs : cells.size = cs.length)
    (hr : ∀ (j : Nat) (c : (SV m)) (u : Value), cs[j]? = some c → cells[j]? = some u → RepS P w F N Ow bm s.al (.box d j) c u) :
    ∃ Ow', Inv P { s with boxes := s.boxes.set d (some cs) } tmps (w.alloc (.cells cells t)) F N Ow' (fun b => if b = d then w.heap.size else bm b) ∧ Far N w F Ow (w.alloc (.cells cells t)) F Ow' := by
  obtain ⟨W, hsz, hnew⟩ := wrote_new (F := F) (w := w) (o := .cells cells t) (h.new _ (Nat.le_refl _)).1 (.inl rfl)
  have hk : Keeps N w F (w.alloc (.cells cells t)) F := by
    refine .mk' (fun k j hj => ?_) (fun _ => Nat.le_refl _) (Thawed.but w.heap.size W.block fun hh => absurd hh (Nat.lt_irrefl _)) (BSz.but w.heap.size W.block (bsz_new (Nat.le_refl _)))
    by_cases hks : k < w.heap.size
    · simp only [World.cell?, W.block k hks (by omega)]
    · rw [(h.new k (by omega)).1] at hj; omega
  have hlt : ∀ k loc, Ow k = some loc → k < w.heap.size := by
    intro k loc hk'
    rcases Nat.lt_or_ge k w.heap.size with h' | h'
    · exact h'
    · rw [(h.new k h').2] at hk'; simp at hk'
  have hbm : ∀ b, s.al b = true → (if b = d then w.heap.size else bm b) = bm b := by
    intro b hb
    rw [if_neg]
    rintro rfl
    simp [St.al, hd] at hb
  let Ow' : Own := fun k => if k = w.heap.size then some (.blk d) else Ow k
  have ho : ∀ k loc, Ow k = some loc → (w.alloc (.cells cells t)).heap[k]? = w.heap[k]? ∧ F k = F k ∧ Ow' k = some loc := by
    intro k loc hk'
    have := hlt k loc hk'
    exact ⟨W.block k this (by omega), rfl, by simp [Ow', show k ≠ w.heap.size by omega, hk']⟩
  have h1 := h.to (w' := w.alloc (.cells cells t)) (F' := F) (Ow' := Ow') (bm' := fun b => if b = d then w.heap.size else bm b) hk W.size hbm (fun k loc hk' _ => ho k loc hk') (fun k hk' => by
    have := h.new k (by omega)
    exact ⟨this.1, by simp [Ow', show k ≠ w.heap.size by omega, this.2]⟩) (fun k hz => by
    have hks := Nat.lt_of_lt_of_le (N.lt k hz) h.low.le
    exact ⟨by simp [Ow', show k ≠ w.heap.size by omega, (h.zow k hz).1], by rw [W.block k hks (by omega)]; exact (h.zow k hz).2⟩)
  have h2 := h1.addBox (d := d) (cs := cs) (cur := cells) (e := t) hd (by simpa using hnew) (by omega) (by simpa using (h.new _ (Nat.le_refl _)).1) (by simp [Ow']) (by simpa using h.low.le) (fun j c u hc hu => by
    exact (hr j c u hc hu).to hk (fun b hb => ⟨hbm b hb, hb⟩) fun _ k hk' => ho k _ hk')
  exact ⟨Ow', h2, ⟨W.os, W.tape, W.output, W.size, hk, fun k hks hko => ⟨fun _ => W.block k hks (by omega), rfl, by simp [Ow', show k ≠ w.heap.size by omega, hko]⟩⟩⟩
theorem sound_box (h : Inv P s a.tmps w F N Ow bm) (hnt : nt ≤ s.boxes.length) {o : Oper} {mv : Bool} {t : TypeId} {x : Operand} {e : (Eff m)} {D : (Oracle m)} {pu ta : Bool} (ho : o.op = .box t x) (he : effO P D nt mv pu ta o s.eval s.boxes = some e)
    {next : Act → World → Prop} {Q : Exit → Act → World → Prop} (hk : ∀ a' w', Step P N nt (e.app s) a w F Ow bm a' w' → next a' w') : o.wp P a w next Q := by
  simp only [effO, ho] at he
  split at he
  · rename_i d hdst
    split at he
    · rename_i hb
      obtain ⟨hg, he'⟩ := guarded_eq he
      clear he
      simp only [Option.some.injEq] at he'
      subst he'
      simp only [Bool.and_eq_true, decide_eq_true_eq] at hg
      have hd : (d : Nat) < nt := hg.1
      obtain ⟨h1, h2⟩ := h.take (a := a) rfl x (.box d 0)
      have hbx : (s.take x).boxes = s.boxes := mem_takes x
      obtain ⟨hsz, hone, hcl⟩ := cells_rep (locf := fun j => .box d j) rfl h2 hg.2
      obtain ⟨Ow', k1, k2⟩ := h1.newBox (d := d) (by rw [hbx]; exact hb) t hsz (fun j c u hc hu => by
        have hal : (s.take x).al = s.al := by cases x <;> rfl
        rw [hal]; exact hcl j c u hc hu)
      have hrun : (execOp a.eval o).run P w = .ok (.value (.pointer (some ⟨w.heap.size, 0, none⟩))) (w.alloc (.cells (a.eval x).cells t)) := by
        simp [execOp, ho, Instr.box, newVar, newRow]
      unfold Oper.wp
      rw [hrun]
      refine hk _ _ ⟨F, Ow', fun b => if b = d then w.heap.size else bm b, ?_, (far_moved x _).trans k2, fun b hb' => if_neg (fun hbd : b = d => absurd hd (Nat.not_lt.2 (hbd ▸ hb'))), put_defers _ _⟩
      have : ((⟨takeE s.eval x ++ [(d, .ptr d 0)], some (s.boxes.set d (some (s.eval x).cells))⟩ : (Eff m)).app s) = ({ (s.take x) with boxes := (s.take x).boxes.set d (some (s.eval x).cells) } : (St m)).put (some d) (.ptr d 0) := by
        rw [put_eq]
        cases x <;> simp [St.take, St.takes, Eff.app, setAll_append, dstE]
      rw [this, hdst]
      refine Inv.put (a := a) k1 fun dd hdd => ?_
      simp only [RepS, RepF]
      refine ⟨by simp, ?_⟩
      show (boxAt ((s.take x).boxes.set d (some (s.eval x).cells)) d).isSome = true
      rw [boxAt_set_self (by rw [hbx]; exact Nat.lt_of_lt_of_le hd hnt)]; rfl
    · simp at he
  · simp at he
theorem newCells_length {t : TypeId} : ∀ (j : Nat) (ls : List (Leaf m)), (newCells P t j ls).length = ls.length
  | _, [] => rfl
  | j, l :: ls => by simp [newCells, newCells_length (j + 1) ls]
theorem zeros_rep {t : TypeId} : ∀ (vs : List Value) (i : Nat) (loc : Nat → Loc) (ls : List (Leaf m)), leavesOfValues vs = some ls → ∀ (j : Nat) (c : (SV m)) (u : Value), (newCells P t i ls)[j]? = some c → vs[j]? = some u → RepS P w F N Ow bm s.al (loc j) c u := by
  intro vs
  induction vs with
  | nil => intro i loc ls h j c u hc hu; simp at hu
  | cons v vs ih =>
    intro i loc ls h j c u hc hu
    simp only [leavesOfValues] at h
    rw [Option.bind_eq_some_iff] at h
    obtain ⟨l, hl, h⟩ := h
    rw [Option.map_eq_some_iff] at h
    obtain ⟨ls', hls, rfl⟩ := h
    cases j with
    | succ j => exact ih (i + 1) (fun j => loc (j + 1)) ls' hls j c u (by simpa [newCells] using hc) (by simpa using hu)
    | zero =>
      simp [newCells] at hc hu
      subst hc hu
      unfold leafOfValue at hl
      split at hl <;> simp at hl <;> subst hl
      · exact RepS.leaf (.bool _)
      · exact RepS.leaf (.int _ _)
      · exact RepS.leaf (.str _)
      · exact RepS.own_nil
theorem allocC_rep {t : TypeId} {cs : List (SV m)} (h : allocC P t = some cs) : ∃ inf zv, P.info? t = some inf ∧ inf.zero = some zv ∧ zv.cells.size = cs.length ∧ ∀ (loc : Nat → Loc) (j : Nat) (c : (SV m)) (u : Value), cs[j]? = some c → zv.cells[j]? = some u → RepS P w F N Ow bm s.al (loc j) c u := by
  unfold allocC at h
  split at h
  · rename_i z hz
    obtain rfl := Option.some.inj h
    obtain ⟨inf, zv, hinf, hzv, hzl⟩ := zeroLeaves_eq hz
    have hlen := (leavesOf_rep w F (N := N) _ _ hzl).1
    exact ⟨inf, zv, hinf, hzv, by rw [newCells_length]; simpa using hlen, fun loc j c u hc hu => zeros_rep _ 0 loc _ hzl j c u hc (by simpa using hu)⟩
  · rw [Option.map_eq_some_iff] at h
    obtain ⟨zv, hz, rfl⟩ := h
    rw [Option.bind_eq_some_iff] at hz
    obtain ⟨inf, hinf, hzv⟩ := hz
    refine ⟨inf, zv, hinf, hzv, by simp, fun loc j c u hc hu => ?_⟩
    rw [List.getElem?_replicate] at hc
    split at hc
    · obtain rfl := Option.some.inj hc
      simp only [RepS, RepF]
    · simp at hc
theorem sound_alloc (h : Inv P s a.tmps w F N Ow bm) (hnt : nt ≤ s.boxes.length) {o : Oper} {mv : Bool} {t : TypeId} {e : (Eff m)} {D : (Oracle m)} {pu ta : Bool} (ho : o.op = .alloc t) (he : effO P D nt mv pu ta o s.eval s.boxes = some e)
    {next : Act → World → Prop} {Q : Exit → Act → World → Prop} (hk : ∀ a' w', Step P N nt (e.app s) a w F Ow bm a' w' → next a' w') : o.wp P a w next Q := by
  simp only [effO, ho] at he
  split at he
  · rename_i d hdst
    split at he
    · rename_i hb
      obtain ⟨hg, he'⟩ := guarded_eq he
      clear he
      rw [Option.map_eq_some_iff] at he'
      obtain ⟨z, hz, rfl⟩ := he'
      have hd : (d : Nat) < nt := of_decide_eq_true hg
      obtain ⟨inf, zv, hinf, hzv, hlen, hcl⟩ := allocC_rep (w := w) (F := F) (N := N) (Ow := Ow) (bm := bm) (s := s) hz
      obtain ⟨Ow', k1, k2⟩ := h.newBox (d := d) (cells := zv.cells) (cs := z) hb t hlen (fun j c u hc hu => hcl (fun j => .box d j) j c u hc (by simpa using hu))
      have hrun : (execOp a.eval o).run P w = .ok (.value (.pointer (some ⟨w.heap.size, 0, none⟩))) (w.alloc (.cells zv.cells t)) := by
        simp [execOp, ho, Instr.alloc, zeroValue, typeInfo, hinf, hzv, newVar, newRow]
      unfold Oper.wp
      rw [hrun]
      refine hk _ _ ⟨F, Ow', fun b => if b = d then w.heap.size else bm b, ?_, k2, fun b hb' => if_neg (fun hbd : b = d => absurd hd (Nat.not_lt.2 (hbd ▸ hb'))), put_defers _ _⟩
      have : ((⟨[(d, .ptr d 0)], some (s.boxes.set d (some (z)))⟩ : (Eff m)).app s) = ({ s with boxes := s.boxes.set d (some (z)) } : (St m)).put (some d) (.ptr d 0) := by
        rw [put_eq]; rfl
      rw [this, hdst]
      refine Inv.put (a := a) k1 fun dd hdd => ?_
      simp only [RepS, RepF]
      refine ⟨by simp, ?_⟩
      show (boxAt (s.boxes.set d (some (z))) d).isSome = true
      rw [boxAt_set_self (Nat.lt_of_lt_of_le hd hnt)]; rfl
    · simp at he
  · simp at he
theorem flat_rep_get {α : Type} {ze : List α} : ∀ (n j : Nat), j < n * ze.length → (List.replicate n ze).flatten[j]? = ze[j % ze.length]?
  | 0, j, h => by omega
  | n + 1, j, h => by
    rw [List.replicate_succ, List.flatten_cons]
    by_cases hj : j < ze.length
    · rw [List.getElem?_append_left hj, Nat.mod_eq_of_lt hj]
    · have hmul : (n + 1) * ze.length = n * ze.length + ze.length := Nat.succ_mul _ _
      rw [List.getElem?_append_right (by omega), flat_rep_get n (j - ze.length) (by omega), ← Nat.mod_eq_sub_mod (by omega)]
theorem sound_make (h : Inv P s a.tmps w F N Ow bm) (hnt : nt ≤ s.boxes.length) {o : Oper} {mv : Bool} {t : TypeId} {x y : Operand} {e : (Eff m)} {D : (Oracle m)} {pu ta : Bool} (ho : o.op = .makeSlice t x y) (he : effO P D nt mv pu ta o s.eval s.boxes = some e)
    {next : Act → World → Prop} {Q : Exit → Act → World → Prop} (hk : ∀ a' w', Step P N nt (e.app s) a w F Ow bm a' w' → next a' w') : o.wp P a w next Q := by
  simp only [effO, ho] at he
  split at he
  · rename_i d hdst
    split at he
    · rename_i hb
      obtain ⟨hg, he'⟩ := guarded_eq he
      clear he
      rw [Option.map_eq_some_iff] at he'
      obtain ⟨⟨⟨z, n⟩, cs⟩, hp, rfl⟩ := he'
      have hd : (d : Nat) < nt := of_decide_eq_true hg
      unfold makeV at hp
      split at hp
      · rename_i k1 n1 k2 n2 ex ey
        rw [Option.bind_eq_some_iff] at hp
        obtain ⟨et, het, hp⟩ := hp
        rw [Option.bind_eq_some_iff] at hp
        obtain ⟨i, hi, hp⟩ := hp
        rw [Option.bind_eq_some_iff] at hp
        obtain ⟨ze, hze, hp⟩ := hp
        split at hp
        · rename_i hc
          obtain ⟨⟨h0, hab⟩, ⟨hi0, hby, hle⟩, hzl⟩ := hc
          subst hab
          simp only [Option.some.injEq, Prod.mk.injEq] at hp
          obtain ⟨⟨rfl, rfl⟩, rfl⟩ := hp
          obtain ⟨inf, zv, hinf, hzv, hlv⟩ := zeroLeaves_eq hze
          rw [hi] at hinf
          cases hinf
          have hrz := leavesOf_rep w F (N := N) _ _ hlv
          have hzs : zv.cells.size = i.size := by have := hrz.1; simp at this; omega
          have vx := repL_int ((h.eval (a := a) rfl x).leafOf _ (drop_leaf ex))
          have vy := repL_int ((h.eval (a := a) rfl y).leafOf _ (drop_leaf ey))
          have hmb : maxBytes = 140737488355328 := rfl
          have hrun0 := run_make (P := P) w t et i zv (elemT_eq het) hi hzv k1 k2 n1 n1 h0 (Int.le_refl _) (by
            have h1 : ((n1.toNat * i.bytes : Nat) : Int) ≤ 140737488355328 := by omega
            rw [Int.natCast_mul, Int.toNat_of_nonneg h0] at h1
            rw [Int.mul_comm]; omega) (by omega)
          have hlen : (List.replicate n1.toNat ze).flatten.length = n1.toNat * i.size := by
            simp [hzl]
          obtain ⟨Ow', q1, q2⟩ := h.newBox (d := d) (cells := madeCells zv.cells (n1.toNat * i.size)) (cs := (List.replicate n1.toNat ze).flatten.map .leaf) hb et
            (by rw [size_madeCells, List.length_map, hlen]) (fun j c u hc hu => by
              rw [List.getElem?_map, Option.map_eq_some_iff] at hc
              obtain ⟨l, hl, rfl⟩ := hc
              have hj : j < n1.toNat * i.size := by have := (List.getElem?_eq_some_iff.1 hl).1; omega
              rw [flat_rep_get _ _ (by rw [hzl]; exact hj), hzl] at hl
              have hjm : j % i.size < zv.cells.size := by rw [hzs]; exact Nat.mod_lt _ hi0
              have hu' : u = zv.cells[j % zv.cells.size]! := by simpa [madeCells, hj] using hu.symm
              rw [hzs] at hu'
              subst hu'
              refine RepS.leaf (hrz.2 (j % i.size) l _ hl ?_)
              simp [hjm])
          have hrun : (execOp a.eval o).run P w = .ok (.value (.slice (some ⟨w.heap.size, 0, none⟩) n1.toNat n1.toNat)) (w.alloc (.cells (madeCells zv.cells (n1.toNat * i.size)) et)) := by
            simp [execOp, ho, vx, vy, hrun0]
          unfold Oper.wp
          rw [hrun]
          refine hk _ _ ⟨F, Ow', fun b => if b = d then w.heap.size else bm b, ?_, q2, fun b hb' => if_neg (fun hbd : b = d => absurd hd (Nat.not_lt.2 (hbd ▸ hb'))), put_defers _ _⟩
          have : ((⟨[(d, .bsl d i.size 0 n1.toNat)], some (s.boxes.set d (some ((List.replicate n1.toNat ze).flatten.map .leaf)))⟩ : (Eff m)).app s) = ({ s with boxes := s.boxes.set d (some ((List.replicate n1.toNat ze).flatten.map .leaf)) } : (St m)).put (some d) (.bsl d i.size 0 n1.toNat) := by
            rw [put_eq]; rfl
          rw [this, hdst]
          refine Inv.put (a := a) q1 fun dd hdd => ?_
          simp only [RepS, RepF]
          refine ⟨.inr ⟨n1.toNat, by simp, Nat.le_refl _⟩, ?_⟩
          show (boxAt (s.boxes.set d (some ((List.replicate n1.toNat ze).flatten.map .leaf))) d).isSome = true
          rw [boxAt_set_self (Nat.lt_of_lt_of_le hd hnt)]; rfl
        · simp at hp
      · simp at hp
    · simp at he
  · simp at he
theorem parts_rep (h : Inv P s a.tmps w F N Ow bm) : ∀ (ps : List (Nat × Operand)), PartsR w F N (ps.map fun p => (p.1, s.eval p.2)) (ps.map fun p => (p.1, a.eval p.2))
  | [] => .nil
  | p :: ps => .cons (fun l hl => leaves_rep (h.eval rfl p.2) l hl) (parts_rep h ps)
def SV.mkO (q : Bool) (e : Option TypeId) (es : List (List (Leaf m))) : SV m := match q with | true => .raw e es | false => .own e es
theorem step_grown (h : Inv P s a.tmps w F N Ow bm) {s' : (St m)} {F0 : Fr} {Ow0 : Own} (h' : Inv P s' a.tmps w F N Ow0 bm) (hal : s'.al = s.al) (hf : Far N w F0 Ow w F Ow0) {dst : Option Tmp} {e : TypeId} {i : TypeInfo} {es : List (List (Leaf m))} {z : Value} {w' : World} {g : Nat} {loc : Loc}
    (hi : P.info? e = some i) (h0 : 0 < i.size) (G : Grew P w w' F N e i es z g) (hg : (Ow0 g = some loc ∧ ¬ s'.holds loc) ∨ g = w.heap.size) (hN : N.n ≤ g) (q : Bool) (hq : q = true → F g = 0) (hbs : ∀ n, BSz w g n → BSz w' g n) :
    Step P N nt (s'.put dst (SV.mkO q (some e) es)) a w F0 Ow bm (a.put dst z) w' := by
  obtain ⟨F', Ow', k1, k2, k3⟩ := h'.grown (to := .tmp (dst.getD 0)) hi h0 G hg hN q hq hbs
  refine ⟨F', Ow', bm, Inv.put (a := a) k1 fun d hd => ?_, hf.trans k2, fun _ _ => rfl, put_defers _ _⟩
  subst hd
  cases q <;> exact k3
theorem sound_buildSlice (h : Inv P s a.tmps w F N Ow bm) {o : Oper} {mv : Bool} {t : TypeId} {n : Nat} {parts : Array (Nat × Operand)} {e : (Eff m)} {D : (Oracle m)} {pu ta : Bool} (ho : o.op = .buildSlice t n parts) (he : effO P D nt mv pu ta o s.eval s.boxes = some e)
    {next : Act → World → Prop} {Q : Exit → Act → World → Prop} (hk : ∀ a' w', Step P N nt (e.app s) a w F Ow bm a' w' → next a' w') : o.wp P a w next Q := by
  simp only [effO, ho, Option.map_eq_some_iff] at he
  obtain ⟨v, hv, rfl⟩ := he
  obtain ⟨z, w', et, i, es, hrun, rfl, hi, h0, G⟩ := buildSliceV_run (N := N) (F := F) (w := w) (qs := parts.map fun p => (p.1, a.eval p.2)) (h.new _ (Nat.le_refl _)).1 hv (by simpa using parts_rep h parts.toList)
  have hr : (execOp a.eval o).run P w = .ok (.value z) w' := by
    simp only [execOp, ho]
    simp [hrun]
  unfold Oper.wp
  rw [hr]
  refine hk _ _ ?_
  rw [app_put]
  exact step_grown h h rfl (Far.refl _ _ _) (loc := .blk 0) hi h0 G (.inr rfl) h.low.le false (fun h => by simp at h) (bsz_new (Nat.le_refl _))
theorem repS_of_F {loc : Loc} {x : (SV m)} {v : Value} (h : RepF w F N bm s.al x v) : RepS P w F N Ow bm s.al loc x.drop v := by
  cases x <;> first | exact h.elim | (simp only [SV.drop, RepS]; exact h)
theorem bound_rep (h : Inv P s a.tmps w F N Ow bm) {x : Option Operand} {l : Option Nat} (hl : optNat s.eval x = some l) : BoundV (x.map a.eval) l := by
  cases x with
  | none => simp [optNat] at hl; subst hl; exact .inl ⟨rfl, rfl⟩
  | some x =>
    simp only [optNat, Option.map_eq_some_iff] at hl
    obtain ⟨n, hn, rfl⟩ := hl
    obtain ⟨k, hk⟩ := natOf_int hn (fun l hl => (h.eval (a := a) rfl x).leafOf l (drop_leaf hl))
    exact .inr ⟨k, n, by simp [hk], rfl⟩
theorem not_holds_take {t : Tmp} : ¬ (s.take (.tmp t)).holds (.tmp t) := by
  rw [take_eq]
  show ¬ isOwn ((s.tmps.set t (s.tmps.getD t .any).drop).getD t .any) = true
  by_cases hl : t < s.tmps.length
  · rw [List.getD_eq_getElem?_getD, List.getElem?_set_self hl]; simp [drop_not_own]
  · rw [List.getD_eq_getElem?_getD, List.getElem?_eq_none (by simpa using hl)]; simp [isOwn]
theorem append_core (h : Inv P s a.tmps w F N Ow bm) {o : Oper} {c : Call} {x y : Operand} (ho : o.op = .call c) (hc : c.callee = .builtin .append) (hargs : c.args.toList = [x, y]) (q : Bool)
    {next : Act → World → Prop} {Q : Exit → Act → World → Prop} {v : SV m} (hk : ∀ a' w', Step P N nt ((⟨takeE s.eval x ++ dstE o.dst v, none⟩ : (Eff m)).app s) a w F Ow bm a' w' → next a' w') {t u : TypeId} {eo : Option TypeId} {es : List (List (Leaf m))} (hat0 : c.argTypes.toList = [t, u]) (hxe : s.eval x = SV.mkO q eo es)
    (hv : ((elemT P t).bind fun e => (P.info? e).bind fun i => guarded (eo.getD e == e && decide (0 < i.size) && decide (0 < i.bytes) && zeroSized P e) <|
      match P.underlying u, (s.eval y).see with
      | some (.slice _), .leaf (.sl _ fs) => if t = u ∧ (es.length + fs.length) * i.bytes ≤ maxBytes then guarded (sized i.size fs) (some (SV.mkO q (some e) (es ++ fs))) else none
      | some .string, .leaf (.str s) => if es.length + s.size ≤ maxBytes then guarded (zeroByte P e) (some (SV.mkO q (some e) (es ++ s.data.toList.map fun b => [.int .u8 b.toNat]))) else none
      | _, _ => none) = some v) : o.wp P a w next Q := by
  have hargs' : c.args = #[x, y] := by rw [← hargs]
  have hat : c.argTypes = #[t, u] := by rw [← hat0]
  rw [Option.bind_eq_some_iff] at hv
  obtain ⟨et, het, hv⟩ := hv
  rw [Option.bind_eq_some_iff] at hv
  obtain ⟨i, hi, hv⟩ := hv
  obtain ⟨hgd, hv'⟩ := guarded_eq hv
  clear hv
  simp only [Bool.and_eq_true, beq_iff_eq, decide_eq_true_eq] at hgd
  obtain ⟨⟨⟨heo, h0⟩, hby⟩, hzs⟩ := hgd
  have htu := elemT_eq het
  have hx := h.eval (a := a) rfl x
  rw [hxe] at hx
  have hO : RepO P w F N Ow (locOf x) q eo es (a.eval x) := by cases q <;> exact hx
  have hy := h.eval (a := a) rfl y
  obtain ⟨h1, _⟩ := h.take (a := a) rfl x (locOf x)
  have hmv : moved x (locOf x) Ow = Ow := by
    cases x with
    | tmp t => funext g; simp only [moved, locOf]; split <;> simp_all
    | _ => rfl
  rw [hmv] at h1
  have hal : (s.take x).al = s.al := by cases x <;> rfl
  have fin : ∀ (fs' : List (List (Leaf m))) (z : Value) (w' : World), (execOp a.eval o).run P w = .ok (.value z) w' → ((z = .slice none 0 0 ∧ fs' = [] ∧ w' = w) ∨ ∃ g, Grew P w w' F N et i fs' z g ∧ N.n ≤ g ∧ ((Ow g = some (locOf x) ∧ (a.eval x).ownBlock = some g) ∨ g = w.heap.size) ∧ (q = true → F g = 0) ∧ ∀ n, BSz w g n → BSz w' g n) →
      v = SV.mkO q (some et) fs' → o.wp P a w next Q := by
    intro fs' z w' hrun hcase hve
    unfold Oper.wp
    rw [hrun]
    refine hk _ _ ?_
    rw [app_take, hve]
    rcases hcase with ⟨rfl, rfl, rfl⟩ | ⟨g, G, hN, hg, hqF, hbs⟩
    · exact ⟨F, Ow, bm, Inv.put (a := a) h1 fun d _ => by cases q <;> (simp only [SV.mkO, RepS]; exact .inl ⟨rfl, rfl⟩), Far.refl _ _ _, fun _ _ => rfl, put_defers _ _⟩
    · cases x with
      | tmp t =>
        refine step_grown (s' := s.take (.tmp t)) (loc := .tmp t) h h1 hal (Far.refl _ _ _) hi h0 G ?_ hN q hqF hbs
        rcases hg with ⟨hg, _⟩ | hg
        · exact .inl ⟨hg, not_holds_take⟩
        · exact .inr hg
      | const cv =>
        have hnil : a.eval (.const cv) = .slice none 0 0 ∧ es = [] := by
          simp only [St.eval] at hxe
          unfold ofConst at hxe
          split at hxe <;> cases q <;> simp [SV.mkO] at hxe
          obtain ⟨_, rfl⟩ := hxe
          exact ⟨rfl, rfl⟩
        rcases hg with ⟨_, hg⟩ | hg
        · rw [hnil.1] at hg
          simp [Value.ownBlock] at hg
        · exact step_grown (s' := s.take (.const cv)) (loc := .blk 0) h h1 hal (Far.refl _ _ _) hi h0 G (.inr hg) hN q hqF hbs
      | global g' => cases q <;> simp [St.eval, SV.mkO] at hxe
      | func f => cases q <;> simp [St.eval, SV.mkO] at hxe
  split at hv'
  · rename_i e2 c2 fs hu hye
    split at hv'
    · rename_i hcond
      obtain ⟨htu2, hb⟩ := hcond
      subst htu2
      obtain ⟨hsz, hv2⟩ := guarded_eq hv'
      simp only [Option.some.injEq] at hv2
      obtain ⟨z, w', hrun, hcase⟩ := append_slice_run (ty := o.type) (fun g hg => (h.new g hg).1) h.low.le hO heo (hy.seeOf _ hye) htu hi hzs h0 hby (sized_mem hsz) hb
      exact fin (es ++ fs) z w' (by simp [execOp, ho, resolve, hc, invoke, builtin, hargs', hat, hrun]) hcase hv2.symm
    · simp at hv'
  · rename_i st hu hye
    split at hv'
    · rename_i hb
      obtain ⟨hzb, hv2⟩ := guarded_eq hv'
      simp only [Option.some.injEq] at hv2
      have hys := repL_str (show RepL w F N (.str st) (a.eval y) from hy.seeOf _ hye)
      obtain ⟨z, w', hrun, hcase⟩ := append_string_run (ty := o.type) (fun g hg => (h.new g hg).1) h.low.le hO heo htu hu hi hzb hb
      exact fin _ z w' (by simp [execOp, ho, resolve, hc, invoke, builtin, hargs', hat, hys, hrun]) hcase hv2.symm
    · simp at hv'
  · simp at hv'
theorem sound_append (h : Inv P s a.tmps w F N Ow bm) {o : Oper} {mv : Bool} {c : Call} {x y : Operand} {e : (Eff m)} {D : (Oracle m)} {pu ta : Bool} (ho : o.op = .call c) (hc : c.callee = .builtin .append) (hargs : c.args.toList = [x, y])
    (he : effO P D nt mv pu ta o s.eval s.boxes = some e) {next : Act → World → Prop} {Q : Exit → Act → World → Prop} (hk : ∀ a' w', Step P N nt (e.app s) a w F Ow bm a' w' → next a' w') : o.wp P a w next Q := by
  simp only [effO, ho, hc, hargs, Option.map_eq_some_iff] at he
  obtain ⟨v, hv, rfl⟩ := he
  unfold appendV at hv
  split at hv
  · rename_i t u eo es hat0 hxe
    exact append_core h ho hc hargs false hk hat0 hxe hv
  · rename_i t u eo es hat0 hxe
    exact append_core h ho hc hargs true hk hat0 hxe hv
  · simp at hv
end
end Go.Vs
end
