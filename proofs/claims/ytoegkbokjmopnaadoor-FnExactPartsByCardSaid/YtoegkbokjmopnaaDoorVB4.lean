/- What the program's functions compute, read off their text by the shadow runner (VsTy, VsRow, VsRe, VsLift, VsPhase, VsTurn, VsLaw, VsCmb, VsStruct, VsDat, RSt, RL, RD, VsTold, RP); no condition. -/
import Derived.ChangeArms
import Derived.DataReads
import Derived.Below
import Derived.Test.YtoegkbokjmopnaaDoorRows
import Derived.Test.YtoegkbokjmopnaaDoorVB3
section
namespace Go.Vs
variable {m : Bool} {β : Type}
@[simp] theorem guarded_true (x : Option β) : guarded true x = x := rfl
@[simp] theorem guarded_false (x : Option β) : guarded false x = none := rfl
@[simp] theorem branch_true (x y : Option β) : branch true x y = x := rfl
@[simp] theorem branch_false (x y : Option β) : branch false x y = y := rfl
theorem branch_ite (b : Bool) (x y : Option β) : branch b x y = if b = true then x else y := by cases b <;> rfl
@[simp] theorem onBool_bool (b : Bool) (k : Bool → Option β) : onBool (.leaf (.bool b) : SV m) k = k b := rfl
@[simp] theorem svLeafK_leaf (l : Leaf m) (k : Leaf m → Option β) : svLeafK (.leaf l) k = k l := rfl
@[simp] theorem svSlK_leaf (c : Fl m) (es : List (List (Leaf m))) (k : Fl m → List (List (Leaf m)) → Option β) : svSlK (.leaf (.sl c es)) k = k c es := rfl
@[simp] theorem svOwnK_own (e : TypeId) (es : List (List (Leaf m))) (k : List (List (Leaf m)) → Option β) : svOwnK e (.own (some e) es) k = k es := by simp [svOwnK]
@[simp] theorem svAggK_agg (cs : List (Leaf m)) (k : List (Leaf m) → Option β) : svAggK (.agg cs) k = k cs := rfl
@[simp] theorem svTupK_tup (vs : List (SV m)) (k : List (SV m) → Option β) : svTupK (.tup vs) k = k vs := rfl
@[simp] theorem svNilK_nil (k : Option β) : svNilK (.nilface : SV m) k = k := rfl
@[simp] theorem intK_int (k0 : IntKind) (n : Int) (k : Int → Option β) : intK k0 (.int k0 n : Leaf m) k = k n := by simp [intK]
@[simp] theorem boolK_bool (b : Bool) (k : Bool → Option β) : boolK (.bool b : Leaf m) k = k b := rfl
@[simp] theorem strK_str (s : ByteArray) (k : ByteArray → Option β) : strK (.str s : Leaf m) k = k s := rfl
@[simp] theorem slK_sl (c : Fl m) (es : List (List (Leaf m))) (k : Fl m → List (List (Leaf m)) → Option β) : slK (.sl c es) k = k c es := rfl
@[simp] theorem atK_zero (l : Leaf m) (e : List (Leaf m)) (k : Leaf m → Option β) : atK (l :: e) 0 k = k l := rfl
@[simp] theorem atK_succ (l : Leaf m) (e : List (Leaf m)) (n : Nat) (k : Leaf m → Option β) : atK (l :: e) (n + 1) k = atK e n k := rfl
@[simp] theorem bindE_eq (e : List (Leaf m)) (k : List (Leaf m) → Option β) : bindE e k = k e := rfl
@[simp] theorem headK_cons (v : SV m) (r : List (SV m)) (k : SV m → List (SV m) → Option β) : headK (v :: r) k = k v r := rfl
@[simp] theorem lastK_nil (k : Option β) : lastK ([] : List (SV m)) k = k := rfl
@[simp] theorem headB_cons (v : List (SV m)) (r : List (List (SV m))) (k : List (SV m) → List (List (SV m)) → Option β) : headB (v :: r) k = k v r := rfl
@[simp] theorem lastB_nil (k : Option β) : lastB ([] : List (List (SV m))) k = k := rfl
@[simp] theorem atSV_zero (l : SV m) (e : List (SV m)) (k : SV m → Option β) : atSV (l :: e) 0 k = k l := rfl
@[simp] theorem atSV_succ (l : SV m) (e : List (SV m)) (n : Nat) (k : SV m → Option β) : atSV (l :: e) (n + 1) k = atSV e n k := rfl
theorem sized_map {α : Type} {n : Nat} {f : α → List (Leaf m)} (h : ∀ a, (f a).length = n) (l : List α) : sized n (l.map f) = true := by simp [sized, h]
theorem getD_map {α : Type} {f : α → List (Leaf m)} {l : List α} {i : Nat} (h : i < l.length) : (l.map f).getD i [] = f l[i] := by simp [List.getD, h]
@[simp] theorem fl_false (a b : Fl false) : (a = b) = True := eq_true (by cases a; cases b; rfl)
theorem wrap64 {z : Int} (h1 : -9223372036854775808 ≤ z) (h2 : z ≤ 9223372036854775807) : IntKind.i64.wrap z = z := by
  have e : IntKind.i64.wrap z = if z % 18446744073709551616 ≥ 9223372036854775808 then z % 18446744073709551616 - 18446744073709551616 else z % 18446744073709551616 := by
    simp [IntKind.wrap, IntKind.signed, IntKind.bits]
  rw [e]
  split <;> omega
theorem wrap_up {i : Nat} (h : i < 4611686018427387904) : IntKind.i64.wrap ((i : Int) + 1) = ((i + 1 : Nat) : Int) := by
  rw [wrap64 (by omega) (by omega)]; rfl
theorem upto_ind {n : Nat} {Q : Nat → Prop} (hn : Q n) (hs : ∀ i, i < n → Q (i + 1) → Q i) : ∀ i, i ≤ n → Q i := by
  intro i hi
  obtain ⟨k, rfl⟩ : ∃ k, n = i + k := ⟨n - i, by omega⟩
  induction k generalizing i with
  | zero => exact hn
  | succ k ih => exact hs i (by omega) (ih (i + 1) (by rw [show i + 1 + k = i + (k + 1) by omega]; exact hn) (by intro j hj; exact hs j (by omega)) (by omega))
def rowAt (l : List (List (Leaf m))) (i : Nat) (z : List (SV m)) : List (SV m) := (l.take i).flatten.map SV.leaf ++ z
theorem flatten_len {α : Type} {z : Nat} : ∀ {l : List (List α)}, (∀ e ∈ l, e.length = z) → l.flatten.length = l.length * z
  | [], _ => by simp
  | e :: l, h => by
    have h1 := h e (by simp)
    have h2 := flatten_len (l := l) (fun e he => h e (by simp [he]))
    rw [List.flatten_cons, List.length_append, h1, h2, List.length_cons, Nat.add_mul]; omega
theorem rowAt_len {l : List (List (Leaf m))} {k i : Nat} {z : List (SV m)} (h : ∀ e ∈ l, e.length = k) (hi : i ≤ l.length) : (rowAt l i z).length = i * k + z.length := by
  unfold rowAt
  rw [List.length_append, List.length_map, flatten_len (z := k) (fun e he => h e (List.mem_of_mem_take he)), List.length_take, Nat.min_eq_left hi]
theorem putAt_row {l : List (List (Leaf m))} {k i : Nat} {z : List (SV m)} (h : ∀ e ∈ l, e.length = k) (hi : i < l.length) :
    putAt (rowAt l i z) (i * k) (l[i].map SV.leaf) = rowAt l (i + 1) (z.drop k) := by
  have hl : ((l.take i).flatten.map (SV.leaf (m := m))).length = i * k := by
    rw [List.length_map, flatten_len (z := k) (fun e he => h e (List.mem_of_mem_take he)), List.length_take, Nat.min_eq_left (Nat.le_of_lt hi)]
  have hk : (l[i].map (SV.leaf (m := m))).length = k := by rw [List.length_map]; exact h _ (List.getElem_mem hi)
  unfold putAt rowAt
  rw [hk, List.take_append_of_le_length (by omega), List.take_of_length_le (by omega), ← hl, List.drop_append, List.drop_of_length_le (by omega)]
  rw [List.take_succ_eq_append_getElem hi]
  simp only [List.flatten_append, List.map_append, List.flatten_cons, List.flatten_nil, List.append_nil, List.append_assoc, List.nil_append, Nat.add_sub_cancel_left]
theorem asLeaves_map : ∀ l : List (Leaf m), asLeaves (l.map SV.leaf) = some l
  | [] => rfl
  | a :: l => by simp [asLeaves, asLeaf, asLeaves_map l]
theorem chunks_flatten {α : Type} {z : Nat} : ∀ {l : List (List α)}, (∀ e ∈ l, e.length = z) → chunks z l.length l.flatten = l
  | [], _ => rfl
  | e :: l, h => by
    have h1 := h e (by simp)
    have h2 := chunks_flatten (l := l) (fun e he => h e (by simp [he]))
    simp only [List.length_cons, chunks, List.flatten_cons, ← h1, List.take_left', List.drop_left']
    rw [h1, h2]
theorem row_full {l : List (List (Leaf m))} {k : Nat} {z : List (SV m)} (h : ∀ e ∈ l, e.length = k) : asLeaves ((rowAt l l.length z).take (l.length * k)) = some l.flatten := by
  unfold rowAt
  have hl : (l.flatten.map (SV.leaf (m := m))).length = l.length * k := by rw [List.length_map, flatten_len h]
  rw [List.take_length, List.take_append_of_le_length (by omega), List.take_of_length_le (by omega)]
  exact asLeaves_map _
end Go.Vs
end
section
namespace Go.Vs
variable {m : Bool} {P : Program} {N : Env} {H : Type} {enc : TypeId × Value → H}
def Parts (p : TypeId → List (Leaf m) → Prop) : List TypeId → List (Leaf m) → Prop
  | [], ls => ls = []
  | t :: ts, ls => ∃ a b, ls = a ++ b ∧ p t a ∧ Parts p ts b
def Shaped (P : Program) (c : Fl m) : Nat → TypeId → List (Leaf m) → Prop
  | 0, _, _ => False
  | n + 1, t, ls => match P.underlying t with
    | some .bool => ∃ b, ls = [.bool b]
    | some (.int k) => ∃ z, ls = [.int k z] ∧ (Lit.int k z).wf = true
    | some .string => ∃ s : ByteArray, ls = [.str s] ∧ s.size ≤ maxLen
    | some (.slice e) => ∃ es, ls = [.sl c es] ∧ es.length ≤ maxLen ∧ ∀ x ∈ es, Shaped P c n e x
    | some (.struct fs) => Parts (Shaped P c n) (fs.toList.map Field.type) ls
    | _ => False
def fsOk (P : Program) (S : List TypeId) : Nat → List Field → Nat → Bool
  | o, [], z => o == z
  | o, f :: fs, z => f.offset == o && S.contains f.type && fsOk P S (o + P.cellsOf f.type) fs z
def tyOk (P : Program) (S : List TypeId) (t : TypeId) : Bool := match P.underlying t with
  | some .bool | some (.int _) | some .string => true
  | some (.slice e) => S.contains e && decide (0 < P.cellsOf e)
  | some (.struct fs) => fsOk P S 0 fs.toList (P.cellsOf t)
  | _ => false
theorem parts_mono {p q : TypeId → List (Leaf m) → Prop} : ∀ {ts : List TypeId} {ls : List (Leaf m)}, (∀ t ls, p t ls → q t ls) → Parts p ts ls → Parts q ts ls
  | [], _, _, h => h
  | _ :: _, _, hpq, ⟨a, b, e, h1, h2⟩ => ⟨a, b, e, hpq _ _ h1, parts_mono hpq h2⟩
def sealW (w : World) : Fr := fun g => match w.heap[g]? with | some (.cells c _ _) => c.size | _ => 0
theorem sealW_lt {w : World} {g j : Nat} {v : Value} (h : w.cell? ⟨g, j, none⟩ = some v) : j < sealW w g := by
  unfold World.cell? at h
  unfold sealW
  simp only at h
  split at h
  · rename_i c e fr hc
    simp only [hc]
    exact (List.getElem?_eq_some_iff.1 (by simpa using h)).1
  · simp at h
theorem cells_row {w : World} {base : Nat} {a : Addr} {n : Nat} {cs : List Value} (h : w.cells? base a n = some cs) : cs.length = n ∧ ∀ j v, cs[j]? = some v → w.cell? (a.add j) = some v := by
  unfold World.cells? at h
  split at h
  · refine ⟨by simpa using mapM_some_length h, fun j v hj => ?_⟩
    have hlen : cs.length = n := by simpa using mapM_some_length h
    have hj' : j < n := by rw [← hlen]; exact (List.getElem?_eq_some_iff.1 hj).1
    have := mapM_some_get h j j (by simp [hj'])
    rw [this, hj]
  · simp at h
theorem partsW {w : World} {F : Fr} {base : Nat} {sp : Nat → Bool} {held : Bool} {c : Fl m} {S : List TypeId} {n : Nat}
    (ih : ∀ t cs x, t ∈ S → DataW.trod enc P w base sp held n t cs = some x → ∃ ls : List (Leaf m), RepR w F N ls cs ∧ Shaped P c n t ls) (cs : List Value) :
    ∀ (fs : List Field) (o : Nat), fsOk P S o fs cs.length = true → (∀ f ∈ fs, ∃ x, DataW.trod enc P w base sp held n f.type ((cs.drop f.offset).take (P.cellsOf f.type)) = some x) →
      ∃ ls : List (Leaf m), RepR w F N ls (cs.drop o) ∧ Parts (Shaped P c n) (fs.map Field.type) ls
  | [], o, h, _ => by
    simp only [fsOk, beq_iff_eq] at h
    refine ⟨[], ?_, rfl⟩
    rw [List.drop_of_length_le (by omega)]
    exact RepR.nil _ _ _
  | f :: fs, o, h, hx => by
    simp only [fsOk, Bool.and_eq_true, beq_iff_eq, List.contains_iff_mem] at h
    obtain ⟨⟨ho, hS⟩, h⟩ := h
    obtain ⟨x, hx0⟩ := hx f (by simp)
    obtain ⟨a, ha, sa⟩ := ih _ _ _ hS hx0
    obtain ⟨b, hb, sb⟩ := partsW ih cs fs _ h fun g hg => hx g (by simp [hg])
    refine ⟨a ++ b, ?_, a, b, rfl, sa, sb⟩
    have := ha.append hb
    rw [ho] at this
    rwa [← List.drop_drop, List.take_append_drop] at this
theorem trod_rep {w : World} {F : Fr} {base : Nat} {sp : Nat → Bool} {held : Bool} {c : Fl m} (hc1 : ∀ g o, c.Holds N w g o) (hc2 : c.isSoft = false) (hF : ∀ g j v, w.cell? ⟨g, j, none⟩ = some v → j < F g) (hZ : ∀ g, N.Z g = false)
    {S : List TypeId} (hS : S.all (tyOk P S) = true) : ∀ (fuel : Nat) (t : TypeId) (cs : List Value) (x : DataW H × List MemPlace), t ∈ S → DataW.trod enc P w base sp held fuel t cs = some x → ∃ ls : List (Leaf m), RepR w F N ls cs ∧ Shaped P c fuel t ls
  | 0, t, cs, x, _, h => by simp [DataW.trod] at h
  | n + 1, t, cs, x, ht, h => by
    have ih := trod_rep (c := c) hc1 hc2 hF hZ hS n (w := w) (base := base) (sp := sp) (held := held)
    have hok := List.all_eq_true.1 hS t ht
    unfold tyOk at hok
    split at hok
    · rename_i hu
      obtain ⟨b, rfl, _⟩ := DataW.trod_bool hu h
      exact ⟨[.bool b], RepR.cons (.bool b) (RepR.nil _ _ _), by unfold Shaped; simp only [hu]; exact ⟨b, rfl⟩⟩
    · rename_i k hu
      obtain ⟨z, rfl, _, hw⟩ := DataW.trod_int hu h
      exact ⟨[.int k z], RepR.cons (.int k z) (RepR.nil _ _ _), by unfold Shaped; simp only [hu]; exact ⟨z, rfl, hw⟩⟩
    · rename_i hu
      obtain ⟨s, rfl, _, hs⟩ := DataW.trod_string hu h
      exact ⟨[.str s], RepR.cons (.str s) (RepR.nil _ _ _), by unfold Shaped; simp only [hu]; exact ⟨s, rfl, hs⟩⟩
    · rename_i e hu
      have hs : ∀ ls : List (Leaf m), Shaped P c (n + 1) t ls ↔ ∃ es, ls = [.sl c es] ∧ es.length ≤ maxLen ∧ ∀ x ∈ es, Shaped P c n e x := fun ls => by
        conv => lhs; unfold Shaped
        simp only [hu]
      simp only [hs]
      simp only [Bool.and_eq_true, List.contains_iff_mem, decide_eq_true_eq] at hok
      obtain ⟨heS, hz⟩ := hok
      rcases DataW.trod_slice hu h with ⟨rfl, _⟩ | ⟨a, len, cap, elems, rest, n', hn, rfl, _, _, hlc, hcm, hel, hget, _, _⟩
      · exact ⟨[.sl c []], RepR.cons (repL_sl_mk (es := []) (z := 0) (vals := []) (Nat.le_refl _) (by simp) (fun h => by simp at h) (RepR.nil _ _ _)) (RepR.nil _ _ _), [], rfl, by simp, by simp⟩
      · obtain rfl : n' = n := by omega
        have rows : ∀ k, k ≤ len → ∃ (es : List (List (Leaf m))) (vals : List Value), es.length = k ∧ (∀ x ∈ es, x.length = P.cellsOf e) ∧ (∀ j v, vals[j]? = some v → w.cell? (a.add j) = some v) ∧ RepR w F N es.flatten vals ∧ vals.length = k * P.cellsOf e ∧ ∀ x ∈ es, Shaped P c n' e x := by
          intro k
          induction k with
          | zero => intro _; exact ⟨[], [], rfl, by simp, by simp, RepR.nil _ _ _, by simp, by simp⟩
          | succ k ihk =>
            intro hk
            obtain ⟨es, vals, h1, h2, h3, h4, h5, h6⟩ := ihk (by omega)
            have hg := hget k (by omega)
            have : k < elems.length := by omega
            rw [List.getElem?_eq_getElem this, Option.bind_eq_some_iff] at hg
            obtain ⟨ck, hck, htk⟩ := hg
            obtain ⟨ls, hls, hsh⟩ := ih _ _ _ heS htk
            obtain ⟨hcl, hcc⟩ := cells_row hck
            refine ⟨es ++ [ls], vals ++ ck, by simp [h1], ?_, ?_, by simpa using h4.append hls, by rw [List.length_append, h5, hcl, Nat.add_mul]; omega, ?_⟩
            · intro x hx
              rcases List.mem_append.1 hx with hx | hx
              · exact h2 x hx
              · obtain rfl : x = ls := by simpa using hx
                rw [← hls.1, hcl]
            · intro j v hj
              rw [List.getElem?_append] at hj
              split at hj
              · exact h3 j v hj
              · rename_i hge
                have := hcc _ _ hj
                rw [← this]
                congr 1
                have e1 : k * P.cellsOf e + (j - vals.length) = j := by omega
                unfold Addr.add
                by_cases hk0 : k * P.cellsOf e = 0
                · simp only [hk0, if_true]
                  rw [show j - vals.length = j by omega]
                · by_cases hj0 : j - vals.length = 0
                  · simp only [hk0, if_false, hj0, if_true]
                    rw [if_neg (by omega)]
                    congr 1; omega
                  · simp only [hk0, if_false, hj0]
                    rw [if_neg (by omega)]
                    simp only [Addr.mk.injEq, and_true, true_and]; omega
            · intro x hx
              rcases List.mem_append.1 hx with hx | hx
              · exact h6 x hx
              · obtain rfl : x = ls := by simpa using hx
                exact hsh
        obtain ⟨es, vals, h1, h2, h3, h4, h5, h6⟩ := rows len (Nat.le_refl _)
        refine ⟨[.sl c es], RepR.cons ?_ (RepR.nil _ _ _), es, rfl, by omega, h6⟩
        subst h1
        refine repL_sl_mk hlc h2 (fun hpos => ?_) h4
        have hv0 : 0 < vals.length := by rw [h5]; exact Nat.mul_pos hpos hz
        obtain ⟨g, o, spot⟩ := a
        have hc0 := h3 0 _ (List.getElem?_eq_getElem hv0)
        have hsp : spot = none := by
          cases spot with
          | none => rfl
          | some s =>
            exfalso
            simp only [Addr.add, if_true, World.cell?] at hc0
            split at hc0 <;> simp at hc0
        subst hsp
        have hcell : ∀ j v, vals[j]? = some v → w.cell? ⟨g, o + j, none⟩ = some v := fun j v hj => by
          have := h3 j v hj
          unfold Addr.add at this
          split at this
          · rename_i hj0; rw [hj0]; exact this
          · exact this
        have hlast := hF _ _ _ (hcell (vals.length - 1) _ (List.getElem?_eq_getElem (by omega)))
        exact ⟨g, o, rfl, ⟨hv0, hc1 _ _⟩, by omega, ⟨fun h => by rw [hc2] at h; simp at h, fun h => by rw [hZ] at h; simp at h⟩, hcell⟩
    · rename_i fs hu
      have hs : ∀ ls : List (Leaf m), Shaped P c (n + 1) t ls ↔ Parts (Shaped P c n) (fs.toList.map Field.type) ls := fun ls => by
        conv => lhs; unfold Shaped
        simp only [hu]
      simp only [hs]
      obtain ⟨xs, n', hn, _, hl, hlen, hf⟩ := DataW.trod_struct hu h
      obtain rfl : n' = n := by omega
      rw [← hl] at hok
      have := partsW (c := c) ih cs fs.toList 0 hok fun f hfm => by
        obtain ⟨i, hi, rfl⟩ := List.getElem_of_mem hfm
        have hi' : i < fs.size := by simpa using hi
        have := hf i fs[i] (Array.getElem?_eq_getElem hi')
        rw [List.getElem?_eq_getElem (by omega)] at this
        exact ⟨_, by simpa using this⟩
      simpa using this
    · simp at hok
end Go.Vs
namespace Go.Vs
variable {m : Bool} {P : Program}
abbrev Known := List ((Nat × Nat) × Value)
def KOk (W : World) (K : Known) : Prop := ∀ k ∈ K, k.1.2 < sealW W k.1.1 ∧ W.cell? ⟨k.1.1, k.1.2, none⟩ = some k.2
theorem KOk.nil {W : World} : KOk W [] := fun _ h => by cases h
theorem KOk.lt {W : World} {K : Known} (h : KOk W K) : ∀ k ∈ K, k.1.1 < W.heap.size := fun k hk => Nat.lt_of_not_le fun hn => by
  have := (h k hk).1
  unfold sealW at this
  rw [Array.getElem?_eq_none hn] at this
  simp at this
def N0 (W : World) (K : Known := []) (B : List (Nat × Nat) := []) : Env := { n := W.heap.size, Z := fun _ => false, lt := fun g h => by simp at h, K := K, B := B }
theorem KOk.lowB {W : World} {K : Known} {B : List (Nat × Nat)} (h : KOk W K) (hB : ∀ p ∈ B, BSz W p.1 p.2) : Low (N0 W K B) W (sealW W) := ⟨Nat.le_refl _, fun k hk => ⟨(h k hk).1, rfl, (h k hk).2⟩, hB⟩
theorem KOk.low {W : World} {K : Known} (h : KOk W K) : Low (N0 W K) W (sealW W) := h.lowB (fun _ h => by cases h)
theorem law_calls {K : Known} {B : List (Nat × Nat)} {W : World} {D : Oracle m} (hD : DSound P (N0 W K B) D) {f : FuncId} {args : List (SV m)} {r : SV m} (h : D f args [] = some (r, [])) (hh : args.all SV.handed = true) {vals : Array Value} (hl : args.length = vals.size)
    (hr : ∀ j a v, args[j]? = some a → vals[j]? = some v → RepS P W (sealW W) (N0 W K B) (fun _ => none) (fun _ => W.heap.size) (fun _ => false) (.tmp j) a v) (hK : KOk W K := by exact KOk.nil) (hB : ∀ p ∈ B, BSz W p.1 p.2 := by exact fun _ h => by cases h) :
    Calls P f vals W fun e w' => ∃ v F' Ow' bm al, e = .returned v ∧ RepS P w' F' (N0 W K B) Ow' bm al (.tmp 0) r v ∧ Go.RowKit.Below W.heap.size W w' := by
  obtain ⟨_, _, _, _, hc⟩ := hD f args [] (r, []) h hh (by simp)
  refine (hc W (sealW W) (fun _ => none) (fun _ => W.heap.size) vals ⟨hl, fun t => ?_, fun b cs hb => ?_, hK.lowB hB, fun g hg => ⟨?_, rfl⟩, fun b cs hb => ?_, fun g hg => ?_⟩).mono fun e w' ⟨v, F', Ow', he, hi, hf⟩ => ?_
  · by_cases ht : t < args.length
    · have := hr t _ _ (List.getElem?_eq_getElem ht) (Array.getElem?_eq_getElem (by omega))
      simp only [List.getD, List.getElem?_eq_getElem ht, Option.getD_some, Array.getD, show t < vals.size by omega, dif_pos]
      exact this.keeps (Keeps.refl _ _) (fun b hb => by simp at hb) (fun g hg => by simp at hg)
    · simp only [List.getD, List.getElem?_eq_none (Nat.not_lt.1 ht), Option.getD_none]
      exact trivial
  · simp [boxAt] at hb
  · unfold sealW
    rw [Array.getElem?_eq_none hg]
  · simp [boxAt] at hb
  · simp [N0] at hg
  · refine ⟨v, F', Ow', _, _, he, hi.slot 0, hf.os, hf.tape, hf.output, hf.size, fun k hk => (hf.old k hk rfl).1 rfl⟩
end Go.Vs
end
section
namespace Go.Vs
variable {m m' : Bool} {P : Program}
mutual
def reF (φ : Fl m → Fl m') : Leaf m → Leaf m'
  | .bool b => .bool b
  | .int k n => .int k n
  | .str s => .str s
  | .unk => .unk
  | .nl e => .nl e
  | .sl c es => .sl (φ c) (reE φ es)
def reL (φ : Fl m → Fl m') : List (Leaf m) → List (Leaf m')
  | [] => []
  | l :: r => reF φ l :: reL φ r
def reE (φ : Fl m → Fl m') : List (List (Leaf m)) → List (List (Leaf m'))
  | [] => []
  | e :: r => reL φ e :: reE φ r
end
variable {φ : Fl m → Fl m'}
theorem reL_map : ∀ l : List (Leaf m), reL φ l = l.map (reF φ)
  | [] => rfl
  | l :: r => by rw [reL, List.map_cons, reL_map r]
theorem reE_map : ∀ l : List (List (Leaf m)), reE φ l = l.map (reL φ)
  | [] => rfl
  | l :: r => by rw [reE, List.map_cons, reE_map r]
theorem reL_length (l : List (Leaf m)) : (reL φ l).length = l.length := by rw [reL_map, List.length_map]
theorem reE_length (l : List (List (Leaf m))) : (reE φ l).length = l.length := by rw [reE_map, List.length_map]
theorem reE_flatten : ∀ l : List (List (Leaf m)), (reE φ l).flatten = reL φ l.flatten
  | [] => rfl
  | e :: r => by rw [reE, List.flatten_cons, List.flatten_cons, reE_flatten r, reL_map, reL_map, reL_map, List.map_append]
theorem reF_soft (l : Leaf m) : (reF φ l).soft = l.soft := by cases l <;> rfl
def ReOk (φ : Fl m → Fl m') (w : World) (F : Fr) (N : Env) (F' : Fr) (N' : Env) : Prop :=
  ∀ (c : Fl m) (g o : Nat), g < w.heap.size → c.Holds N w g o → (φ c).Holds N' w g o ∧ F g ≤ F' g ∧ ((c.isSoft = true → N.Z g = true) → (φ c).isSoft = true → N'.Z g = true) ∧ (N'.Z g = true → N.Z g = true)
theorem cell_lt {w : World} {g j : Nat} {v : Value} (h : w.cell? ⟨g, j, none⟩ = some v) : g < w.heap.size := by
  unfold World.cell? at h
  simp only at h
  split at h
  · rename_i c e fr hc
    exact (Array.getElem?_eq_some_iff.1 hc).1
  · simp at h
theorem RepL.re {w : World} {F F' : Fr} {N N' : Env} (hok : ReOk φ w F N F' N') {l : Leaf m} {v : Value} (h : RepL w F N l v) : RepL w F' N' (reF φ l) v := by
  induction h with
  | bool b => exact .bool b
  | int k n => exact .int k n
  | str s => exact .str s
  | unk v h => exact .unk v h
  | nl e => exact .nl e
  | sl c es A cap z vals hc hz hv hcell hr ih =>
    rw [show reF φ (.sl c es) = .sl (φ c) (reE φ es) by rw [reF]]
    have hl : (reE φ es).length = es.length := reE_length es
    rw [← hl]
    refine .sl (φ c) (reE φ es) A cap z vals (by rw [hl]; exact hc) (fun e he => ?_) (by rw [hl]; exact hv) (fun hpos => ?_) (fun j l v h1 h2 => ?_)
    · rw [reE_map] at he
      obtain ⟨e0, he0, rfl⟩ := List.mem_map.1 he
      rw [reL_length]; exact hz e0 he0
    · rw [hl] at hpos
      obtain ⟨g, o, e, ⟨hv0, hn⟩, hle, hso, hcl⟩ := hcell hpos
      obtain ⟨h1, h2, h3, h4⟩ := hok c g o (cell_lt (hcl 0 _ (List.getElem?_eq_getElem hv0))) hn
      refine ⟨g, o, e, ⟨hv0, h1⟩, Nat.le_trans hle h2, ⟨fun hs => h3 hso.1 hs, fun hz' l hl' => ?_⟩, hcl⟩
      rw [reE_flatten, reL_map] at hl'
      obtain ⟨l0, hl0, rfl⟩ := List.mem_map.1 hl'
      rw [reF_soft]
      exact hso.2 (h4 hz') l0 hl0
    · rw [reE_flatten, reL_map, List.getElem?_map, Option.map_eq_some_iff] at h1
      obtain ⟨l0, hl0, rfl⟩ := h1
      exact ih j l0 v hl0 h2
theorem RepR.re {w : World} {F F' : Fr} {N N' : Env} (hok : ReOk φ w F N F' N') {ls : List (Leaf m)} {vs : List Value} (h : RepR w F N ls vs) : RepR w F' N' (reL φ ls) vs := by
  refine ⟨by rw [reL_length, h.1], fun j l v h1 h2 => ?_⟩
  rw [reL_map, List.getElem?_map, Option.map_eq_some_iff] at h1
  obtain ⟨l0, hl0, rfl⟩ := h1
  exact (h.2 j l0 v hl0 h2).re hok
theorem reOk_plain {w : World} {F : Fr} {N : Env} (hφ : ∀ c g o, (φ c).Holds N w g o) (hs : ∀ c, (φ c).isSoft = false) : ReOk φ w F N F N :=
  fun c g o _ _ => ⟨hφ c g o, Nat.le_refl _, fun _ h => by rw [hs] at h; simp at h, id⟩
theorem plain_holds (c : Fl false) {N : Env} {w : World} {g o : Nat} : c.Holds N w g o := by cases c; trivial
theorem old_holds {N : Env} {w : World} {g o : Nat} : Fl.Holds (m := true) Flag.old N w g o := trivial
end Go.Vs
end
section
namespace Go.Vs
variable {m m' : Bool} {P : Program}
mutual
def reS (φ : Fl m → Fl m') : SV m → SV m'
  | .any => .any
  | .skip => .skip
  | .leaf l => .leaf (reF φ l)
  | .own e es => .own e (reE φ es)
  | .raw e es => .raw e (reE φ es)
  | .agg cs => .agg (reL φ cs)
  | .ptr b o => .ptr b o
  | .eptr _ _ _ => .any
  | .kfn f cs => .kfn f cs
  | .bsl b z lo n => .bsl b z lo n
  | .nilptr => .nilptr
  | .nilface => .nilface
  | .fn f caps => .fn f (reSs φ caps)
  | .tup vs => .tup (reSs φ vs)
def reSs (φ : Fl m → Fl m') : List (SV m) → List (SV m')
  | [] => []
  | v :: r => reS φ v :: reSs φ r
end
variable {φ : Fl m → Fl m'}
theorem reSs_map : ∀ l : List (SV m), reSs φ l = l.map (reS φ)
  | [] => rfl
  | l :: r => by rw [reSs, List.map_cons, reSs_map r]
theorem reS_data (x : SV m) : (reS φ x).data = x.data := by cases x <;> rfl
theorem reS_flat (x : SV m) (h : x.flat = true) : (reS φ x).flat = true := by cases x <;> first | rfl | simp [SV.flat] at h
theorem reS_flatT (x : SV m) (h : x.flatT = true) : (reS φ x).flatT = true := by
  cases x with
  | tup vs =>
    rw [reS, reSs_map]
    simp only [SV.flatT, List.all_map] at h ⊢
    exact List.all_eq_true.2 fun v hv => reS_flat v (List.all_eq_true.1 h v hv)
  | _ => first | rfl | simp [SV.flatT, SV.flat] at h
theorem reS_back {n : Nat} (x : SV m) (h : x.backOk n = true) : (reS φ x).backOk n = true := by
  rcases backOk_cases h with ⟨b, z, lo, k, rfl, hlt⟩ | h'
  · exact h
  · have := reS_flatT (φ := φ) x h'
    cases x <;> first | exact this | simp [SV.flatT, SV.flat] at h'
theorem reS_handed (x : SV m) (h : x.handed = true) : (reS φ x).handed = true := by
  cases x with
  | fn f caps =>
    rw [reS, reSs_map]
    simp only [SV.handed, List.all_map] at h ⊢
    refine List.all_eq_true.2 fun v hv => ?_
    have := List.all_eq_true.1 h v hv
    cases v <;> first | rfl | simp at this
  | _ => first | rfl | simp [SV.handed, SV.data] at h
def reSt (φ : Fl m → Fl m') (s : St m) : St m' := { tmps := s.tmps.map (reS φ), boxes := s.boxes.map (Option.map (List.map (reS φ))) }
theorem boxAt_re (bs : Boxes m) (b : Nat) : boxAt (bs.map (Option.map (List.map (reS φ)))) b = (boxAt bs b).map (List.map (reS φ)) := by
  unfold boxAt
  rw [List.getD_eq_getElem?_getD, List.getD_eq_getElem?_getD, List.getElem?_map]
  cases bs[b]? <;> rfl
section
variable {w : World} {F : Fr} {N : Env} (hok : ReOk φ w F N F N)
include hok
theorem RepF.re {bm : Nat → Nat} {al : Nat → Bool} {x : SV m} {v : Value} (h : RepF w F N bm al x v) : RepF w F N bm al (reS φ x) v := by
  cases x with
  | leaf l => exact RepL.re hok h
  | agg cs => obtain ⟨vs, e, hr⟩ := h; exact ⟨vs, e, hr.re hok⟩
  | eptr c e o => trivial
  | own e es => exact absurd h id
  | raw e es => exact absurd h id
  | fn f caps => exact absurd h id
  | tup vs => exact absurd h id
  | _ => exact h
theorem RepO.re {Ow : Own} {loc : Loc} {q : Bool} {eo : Option TypeId} {es : List (List (Leaf m))} {v : Value} (h : RepO P w F N Ow loc q eo es v) : RepO P w F N Ow loc q eo (reE φ es) v := by
  rcases h with ⟨rfl, rfl⟩ | ⟨g, cap, cur, e, i, vals, hn, he, hi, hz, rfl, hg, hc, hm, hs, hx, ho, hf, ht, hr⟩
  · exact .inl ⟨rfl, rfl⟩
  · refine .inr ⟨g, cap, cur, e, i, vals, hn, he, hi, hz, by rw [reE_length], hg, by rw [reE_length]; exact hc, hm, hs, fun x hx' => ?_, ho, by rw [reE_length]; exact hf, by rw [reE_length]; exact ht, by rw [reE_flatten]; exact hr.re hok⟩
    rw [reE_map] at hx'
    obtain ⟨x0, hx0, rfl⟩ := List.mem_map.1 hx'
    rw [reL_length]; exact hx x0 hx0
theorem RepS.re {Ow : Own} {bm : Nat → Nat} {al : Nat → Bool} {loc : Loc} {x : SV m} {v : Value} (h : RepS P w F N Ow bm al loc x v) : RepS P w F N Ow bm al loc (reS φ x) v := by
  have caps : ∀ (cs : List (SV m)) (vs : Array Value), (∀ (j : Nat) (c : SV m) (u : Value), cs[j]? = some c → vs[j]? = some u → RepF w F N bm al c u) →
      ∀ (j : Nat) (c : SV m') (u : Value), (reSs φ cs)[j]? = some c → vs[j]? = some u → RepF w F N bm al c u := by
    intro cs vs hc j c u h1 h2
    rw [reSs_map, List.getElem?_map, Option.map_eq_some_iff] at h1
    obtain ⟨c0, h0, rfl⟩ := h1
    exact (hc j c0 u h0 h2).re hok
  cases x with
  | own eo es => exact RepO.re hok h
  | raw eo es => exact RepO.re hok h
  | fn f cs => obtain ⟨vs, e, hs, hc⟩ := h; exact ⟨vs, e, by rw [hs, reSs_map, List.length_map], caps cs vs hc⟩
  | tup cs => obtain ⟨vs, e, hs, hc⟩ := h; exact ⟨vs, e, by rw [hs, reSs_map, List.length_map], caps cs vs hc⟩
  | any => trivial
  | eptr c e o => trivial
  | _ =>
    simp only [RepS] at h
    have := RepF.re (bm := bm) (al := al) hok h
    simpa only [reS, RepS] using this
theorem Inv.re {s : St m} {tmps : Array Value} {Ow : Own} {bm : Nat → Nat} (h : Inv P s tmps w F N Ow bm) : Inv P (reSt φ s) tmps w F N Ow bm := by
  have hal : (fun b => (boxAt (reSt φ s).boxes b).isSome) = fun b => (boxAt s.boxes b).isSome := by
    funext b; show (boxAt (s.boxes.map _) b).isSome = _; rw [boxAt_re]; cases boxAt s.boxes b <;> rfl
  refine ⟨by show (s.tmps.map _).length = _; rw [List.length_map]; exact h.len, fun t => ?_, fun b cs hb => ?_, h.low, h.new, fun b cs hb => ?_, h.zow⟩
  · rw [hal]
    have := RepS.re hok (h.slot t)
    have e : (reSt φ s).tmps.getD t SV.any = reS φ (s.tmps.getD t SV.any) := by
      show (s.tmps.map (reS φ)).getD t SV.any = _
      rw [List.getD_eq_getElem?_getD, List.getD_eq_getElem?_getD, List.getElem?_map]
      cases s.tmps[t]? <;> rfl
    rw [e]; exact this
  · have hb' : (boxAt s.boxes b).map (List.map (reS φ)) = some cs := by rw [← boxAt_re]; exact hb
    rw [Option.map_eq_some_iff] at hb'
    obtain ⟨cs0, h0, rfl⟩ := hb'
    rcases h.box b cs0 h0 with q0 | ⟨cur, e, g1, g2, g3, g4, g5⟩
    · subst q0; exact .inl rfl
    refine .inr ⟨cur, e, g1, by rw [List.length_map]; exact g2, g3, g4, fun j c u h1 h2 => ?_⟩
    rw [hal]
    rw [List.getElem?_map, Option.map_eq_some_iff] at h1
    obtain ⟨c0, hc0, rfl⟩ := h1
    exact RepS.re hok (g5 j c0 u hc0 h2)
  · have hb' : (boxAt s.boxes b).map (List.map (reS φ)) = some cs := by rw [← boxAt_re]; exact hb
    rw [Option.map_eq_some_iff] at hb'
    obtain ⟨cs0, h0, _⟩ := hb'
    exact h.bmn b cs0 h0
end
abbrev er : Fl true → Fl false := fun _ => ()
abbrev li : Fl false → Fl true := fun _ => Flag.old
def lifted (D : Oracle false) (f : FuncId) (args : List (SV true)) (boxes : List (List (SV true))) : Option (SV true × List (List (SV true))) :=
  (D f (args.map (reS er)) (boxes.map (List.map (reS er)))).map fun r => (reS li r.1, r.2.map (List.map (reS li)))
theorem lifted_sound {N : Env} {D : Oracle false} (hD : DSound P N D) : DSound P N (lifted D) := by
  intro f args boxes r hr hh hf
  unfold lifted at hr
  rw [Option.map_eq_some_iff] at hr
  obtain ⟨r0, hr0, rfl⟩ := hr
  obtain ⟨a1, a2, a3, a4, a5⟩ := hD f _ _ r0 hr0 (by
    rw [List.all_map]
    exact List.all_eq_true.2 fun v hv => reS_handed v (List.all_eq_true.1 hh v hv)) (fun c hc x hx => by
    obtain ⟨c0, hc0, rfl⟩ := List.mem_map.1 hc
    obtain ⟨x0, hx0, rfl⟩ := List.mem_map.1 hx
    exact reS_flat x0 (hf c0 hc0 x0 hx0))
  refine ⟨by rw [List.length_map, a1, List.length_map], reS_back _ (by rw [List.length_map] at a2; exact a2), fun cs hcs c hc => ?_, a4, fun w F Ow bm vals h => ?_⟩
  · obtain ⟨c0, hc0, rfl⟩ := List.mem_map.1 hcs
    obtain ⟨x0, hx0, rfl⟩ := List.mem_map.1 hc
    exact reS_flat x0 (a3 c0 hc0 x0 hx0)
  · have e : reSt er { tmps := args, boxes := boxes.map some } = { tmps := args.map (reS er), boxes := (boxes.map (List.map (reS er))).map some } := by
      unfold reSt
      simp only [List.map_map]
      rfl
    refine (a5 w F Ow bm vals (e ▸ Inv.re (reOk_plain (fun c g o => plain_holds _) (fun c => rfl)) h)).mono fun ex w' ⟨v, F', Ow', h1, h2, h3⟩ => ⟨v, F', Ow', h1, ?_, h3⟩
    have e2 : reSt li { tmps := [r0.1], boxes := r0.2.map some } = { tmps := [reS li r0.1], boxes := (r0.2.map (List.map (reS li))).map some } := by
      unfold reSt
      simp only [List.map_map]
      rfl
    exact e2 ▸ Inv.re (reOk_plain (fun c g o => old_holds) (fun c => rfl)) h2
def liftT (D : Oracle false) (keep : FuncId → Bool) : Told true := fun f => match keep f with | true => none | false => some fun a b => lifted D f a b
theorem liftT_sound {N : Env} {D : Oracle false} (hD : DSound P N D) (keep : FuncId → Bool) : TSound P N (liftT D keep) := by
  intro f t ht
  unfold liftT at ht
  cases hk : keep f with
  | true => simp [hk] at ht
  | false =>
    simp only [hk, Option.some.injEq] at ht
    subst ht
    intro g args boxes r hr
    simp only at hr
    split at hr
    · rename_i hg; subst hg; exact lifted_sound hD g args boxes r hr
    · simp at hr
theorem lift_told {D : Oracle false} {keep : FuncId → Bool} {H : FuncId → Hints} {f : FuncId} (hk : keep f = false) {a : List (SV true)} {b : List (List (SV true))} {a' : List (SV false)} {b' : List (List (SV false))} {r' : SV false × List (List (SV false))} {r : SV true × List (List (SV true))}
    (h : D f a' b' = some r') (ha : a.map (reS er) = a') (hb : b.map (List.map (reS er)) = b') (hr : (reS li r'.1, r'.2.map (List.map (reS li))) = r) : den P (liftT D keep) H f a b = some r := by
  subst ha hb hr
  refine den_told (T := liftT D keep) (t := fun a b => lifted D f a b) (by simp [liftT, hk]) ?_
  simp [lifted, h]
end Go.Vs
end
section
namespace Go.Vs
variable {m : Bool} {P : Program}
def noLoop : Code → Bool
  | .seq a b => noLoop a && noLoop b
  | .cond _ a b => noLoop a && noLoop b
  | .block _ a => noLoop a
  | .loop _ => false
  | _ => true
def spine : Nat → Code → Bool
  | 0, _ => true
  | n + 1, .seq a b => noLoop a && spine n b
  | _ + 1, _ => false
abbrev way (n : Nat) : List Nat := List.replicate n 1
section
variable {β : Type} {D : Oracle m} {H : Hints} {nm : List (List Nat)} {J : List Nat × St m → Option β}
theorem codeN_plain : ∀ (c : Code) (r : List Nat) (blk : Nat) (s : St m) (k : Out m → Option β), noLoop c = true → (∀ q : List Nat, nm.contains (q ++ r).reverse = false) → codeN P D H nm J r blk c s k = code2K P D H limR blk c s k
  | .seq a b, r, blk, s, k, hn, hr => by
    simp only [noLoop, Bool.and_eq_true] at hn
    have h0 : ∀ q : List Nat, nm.contains (q ++ (0 :: r)).reverse = false := fun q => by have := hr (q ++ [0]); rwa [List.append_assoc] at this
    have h1 : ∀ q : List Nat, nm.contains (q ++ (1 :: r)).reverse = false := fun q => by have := hr (q ++ [1]); rwa [List.append_assoc] at this
    have c0 : nm.contains (0 :: r).reverse = false := h0 []
    have c1 : nm.contains (1 :: r).reverse = false := h1 []
    simp only [codeN, code2K, c0, c1, Bool.false_eq_true, if_false]
    rw [codeN_plain a _ _ _ _ hn.1 h0]
    congr 1
    funext o
    cases o <;> simp only [seqK]
    exact codeN_plain b _ _ _ _ hn.2 h1
  | .cond c a b, r, blk, s, k, hn, hr => by
    simp only [noLoop, Bool.and_eq_true] at hn
    have h0 : ∀ q : List Nat, nm.contains (q ++ (0 :: r)).reverse = false := fun q => by have := hr (q ++ [0]); rwa [List.append_assoc] at this
    have h1 : ∀ q : List Nat, nm.contains (q ++ (1 :: r)).reverse = false := fun q => by have := hr (q ++ [1]); rwa [List.append_assoc] at this
    have c0 : nm.contains (0 :: r).reverse = false := h0 []
    have c1 : nm.contains (1 :: r).reverse = false := h1 []
    simp only [codeN, code2K, c0, c1, Bool.false_eq_true, if_false, forceSt_eq]
    congr 1
    funext t
    rw [codeN_plain a _ _ _ _ hn.1 h0, codeN_plain b _ _ _ _ hn.2 h1]
  | .block id a, r, blk, s, k, hn, hr => by
    simp only [noLoop] at hn
    have h0 : ∀ q : List Nat, nm.contains (q ++ (0 :: r)).reverse = false := fun q => by have := hr (q ++ [0]); rwa [List.append_assoc] at this
    have c0 : nm.contains (0 :: r).reverse = false := h0 []
    simp only [codeN, code2K, c0, Bool.false_eq_true, if_false]
    exact codeN_plain a _ _ _ _ hn h0
  | .loop a, _, _, _, _, hn, _ => by simp [noLoop] at hn
  | .skip, _, _, _, _, _, _ => rfl
  | .region .., _, _, _, _, _, _ => rfl
  | .exit _, _, _, _, _, _, _ => rfl
  | .ret, _, _, _, _, _, _ => rfl
  | .rangeFunc .., _, _, _, _, _, _ => rfl
  | .scope _, _, _, _, _, _, _ => rfl
  | .label _, _, _, _, _, _, _ => rfl
  | .goto _, _, _, _, _, _, _ => rfl
  | .refuse _, _, _, _, _, _, _ => rfl
theorem way_no {j : Nat} (q : List Nat) (r : List Nat) : ([way j] : List (List Nat)).contains (q ++ (0 :: r)).reverse = false := by
  rw [Bool.eq_false_iff]
  intro h
  have := List.eq_of_mem_singleton (List.contains_iff_mem.1 h)
  have h0 : (0 : Nat) ∈ (q ++ (0 :: r)).reverse := by simp
  rw [this] at h0
  have := List.eq_of_mem_replicate h0
  omega
theorem way_rev (j : Nat) : (way j).reverse = way j := List.reverse_replicate
theorem sub_nil (c : Code) : sub c [] = c := by cases c <;> rfl
theorem spine_sub : ∀ (j : Nat) (c : Code), spine j c = true → blkAt 0 c (way j) = 0
  | 0, c, _ => by cases c <;> rfl
  | j + 1, .seq a b, h => by
    simp only [spine, Bool.and_eq_true] at h
    simp only [way, List.replicate_succ, blkAt]
    exact spine_sub j b h.2
theorem spine_cont {kE : Out m → Option β} : ∀ (j : Nat) (r : List Nat) (c : Code), spine j c = true → contN P D H nm J r 0 c (way j) kE = kE
  | 0, r, c, _ => by cases c <;> rfl
  | j + 1, r, .seq a b, h => by
    simp only [spine, Bool.and_eq_true] at h
    simp only [way, List.replicate_succ, contN]
    exact spine_cont j _ b h.2
end
section
variable {D : Oracle m} {H : Hints} {nt : Nat} {β : Type}
theorem quick_sound {N : Env} (hP : P.follows .mixedOrders = true) (hD : DSound P N D) (hH : H.nt = nt) {L : Nat} (hL : nt ≤ L) {c : Code} {blk : Nat} {k : Out m → Option β} {y : β} {s : St m} {a : Act} {w : World} {F : Fr} {Ow : Own} {bm : Nat → Nat}
    {Q : Exit → Act → World → Prop} (hc : code2K P D H limR blk c s k = some y) (h : Inv P s a.tmps w F N Ow bm) (hl : s.boxes.length = L)
    (hk : ∀ out ex a' w', k out = some y → Ends P N nt L a w F Ow bm out ex a' w' → Q ex a' w') : c.wp P Q a w := by
  have h1 := code2_ref (P := P) (D := D) (H := H) up_limR c blk s k k y (fun _ h => h) hc
  rw [codeK_bind, Option.bind_eq_some_iff] at h1
  obtain ⟨o, ho, hko⟩ := h1
  obtain ⟨n, hn⟩ := codeK_lim (Dn := fun _ => D) (D := D) ⟨fun _ _ _ _ _ _ _ h => h, fun f a b r h => ⟨0, h⟩⟩ c blk s o ho
  refine code_sound hP hD hH n L hL c blk some o s a w F Ow bm Q (hn n (Nat.le_refl _)) h hl fun out ex a' w' he hend => ?_
  obtain rfl := Option.some.inj he
  exact hk _ _ _ _ hko hend
theorem spine_sound {N : Env} (hP : P.follows .mixedOrders = true) (hD : DSound P N D) (hH : H.nt = nt) {L : Nat} (hL : nt ≤ L) {J : List Nat × St m → Option β} {k : Out m → Option β} {y : β} {Q : Exit → Act → World → Prop} :
    ∀ (n j : Nat) (c : Code) (s : St m) (a : Act) (w : World) (F : Fr) (Ow : Own) (bm : Nat → Nat), spine (n + 1) c = true → codeN P D H [way (j + (n + 1))] J (way j) 0 c s k = some y → Inv P s a.tmps w F N Ow bm → s.boxes.length = L →
    (∀ out ex a' w', k out = some y → (∀ s', out ≠ .norm s') → Ends P N nt L a w F Ow bm out ex a' w' → Q ex a' w') →
    (∀ s' a' w', J (way (j + (n + 1)), s') = some y → Step P N nt s' a w F Ow bm a' w' → s'.boxes.length = L → (sub c (way (n + 1))).wp P Q a' w') → c.wp P Q a w := by
  intro n
  induction n with
  | zero =>
    intro j c s a w F Ow bm hs hc h hl hk hJ
    cases c with
    | seq x y' =>
      simp only [spine, Bool.and_eq_true] at hs
      have c0 : ([way (j + 1)] : List (List Nat)).contains (0 :: way j).reverse = false := way_no [] (way j)
      have c1 : ([way (j + 1)] : List (List Nat)).contains (1 :: way j).reverse = true := by
        rw [show (1 :: way j) = way (j + 1) from rfl, way_rev]; simp
      have e1 : (1 :: way j).reverse = way (j + 1) := by rw [show (1 :: way j) = way (j + 1) from rfl, way_rev]
      simp only [codeN, Nat.zero_add, c0, c1, Bool.false_eq_true, if_false, if_true] at hc
      rw [codeN_plain x _ _ _ _ hs.1 fun q => way_no q (way j)] at hc
      refine wp_seq (quick_sound hP hD hH hL hc h hl fun out ex a' w' ho he => ?_)
      cases out <;> cases ex <;> simp only [Ends] at he
      · simp only [seqK, e1] at ho
        have := hJ _ a' w' ho he.1 he.2
        rw [show sub (x.seq y') (way (0 + 1)) = sub y' [] from rfl, sub_nil] at this
        exact this
      · exact hk _ _ _ _ ho (fun s' h => by cases h) he
      · exact hk _ _ _ _ ho (fun s' h => by cases h) he
    | _ => simp [spine] at hs
  | succ n ih =>
    intro j c s a w F Ow bm hs hc h hl hk hJ
    cases c with
    | seq x y' =>
      rw [spine, Bool.and_eq_true] at hs
      have c0 : ([way (j + (n + 1 + 1))] : List (List Nat)).contains (0 :: way j).reverse = false := way_no [] (way j)
      have c1 : ([way (j + (n + 1 + 1))] : List (List Nat)).contains (1 :: way j).reverse = false := by
        rw [show (1 :: way j) = way (j + 1) from rfl, way_rev, Bool.eq_false_iff]
        intro hh
        have := congrArg List.length (List.eq_of_mem_singleton (List.contains_iff_mem.1 hh))
        simp at this
      simp only [codeN, c0, c1, Bool.false_eq_true, if_false] at hc
      rw [codeN_plain x _ _ _ _ hs.1 fun q => way_no q (way j)] at hc
      refine wp_seq (quick_sound hP hD hH hL hc h hl fun out ex a' w' ho he => ?_)
      cases out <;> cases ex <;> simp only [Ends] at he
      · simp only [seqK] at ho
        obtain ⟨hst, hl'⟩ := he
        obtain ⟨F1, O1, b1, h1, htr⟩ := Ends.trans (L := L) hst
        obtain ⟨F2, O2, b2, h2, htr2⟩ := hst.inv
        refine ih (j + 1) y' _ a' w' F2 O2 b2 hs.2 (by rw [show j + 1 + (n + 1) = j + (n + 1 + 1) by omega]; exact ho) h2 hl' (fun out ex a2 w2 ho2 hne he2 => hk out ex a2 w2 ho2 hne ?_) fun s2 a2 w2 hJ2 hst2 hl2 => ?_
        · cases out <;> cases ex <;> simp only [Ends] at he2 ⊢
          · exact ⟨htr2 _ _ _ he2.1, he2.2⟩
          · exact ⟨he2.1, htr2 _ _ _ he2.2.1, he2.2.2⟩
          · exact ⟨htr2 _ _ _ he2.1, he2.2⟩
        · have := hJ s2 a2 w2 (by rw [show j + (n + 1 + 1) = j + 1 + (n + 1) by omega]; exact hJ2) (htr2 _ _ _ hst2) hl2
          exact this
      · exact hk _ _ _ _ ho (fun s' h => by cases h) he
      · exact hk _ _ _ _ ho (fun s' h => by cases h) he
    | _ => simp [spine] at hs
end
end Go.Vs
namespace Go.Vs
variable {m : Bool} {P : Program}
theorem spine_split : ∀ (j n : Nat) (c : Code), spine (j + n) c = true → spine j c = true ∧ spine n (sub c (way j)) = true
  | 0, n, c, h => ⟨rfl, by rw [show way 0 = [] from rfl, sub_nil]; simpa using h⟩
  | j + 1, n, .seq a b, h => by
    rw [show j + 1 + n = (j + n) + 1 by omega, spine, Bool.and_eq_true] at h
    obtain ⟨h1, h2⟩ := spine_split j n b h.2
    exact ⟨by rw [spine, h.1, h1]; rfl, h2⟩
  | j + 1, n, .skip, h => by rw [show j + 1 + n = (j + n) + 1 by omega] at h; simp [spine] at h
  | j + 1, n, .region .., h => by rw [show j + 1 + n = (j + n) + 1 by omega] at h; simp [spine] at h
  | j + 1, n, .cond .., h => by rw [show j + 1 + n = (j + n) + 1 by omega] at h; simp [spine] at h
  | j + 1, n, .block .., h => by rw [show j + 1 + n = (j + n) + 1 by omega] at h; simp [spine] at h
  | j + 1, n, .loop _, h => by rw [show j + 1 + n = (j + n) + 1 by omega] at h; simp [spine] at h
  | j + 1, n, .rangeFunc .., h => by rw [show j + 1 + n = (j + n) + 1 by omega] at h; simp [spine] at h
  | j + 1, n, .exit _, h => by rw [show j + 1 + n = (j + n) + 1 by omega] at h; simp [spine] at h
  | j + 1, n, .ret, h => by rw [show j + 1 + n = (j + n) + 1 by omega] at h; simp [spine] at h
  | j + 1, n, .scope _, h => by rw [show j + 1 + n = (j + n) + 1 by omega] at h; simp [spine] at h
  | j + 1, n, .label _, h => by rw [show j + 1 + n = (j + n) + 1 by omega] at h; simp [spine] at h
  | j + 1, n, .goto _, h => by rw [show j + 1 + n = (j + n) + 1 by omega] at h; simp [spine] at h
  | j + 1, n, .refuse _, h => by rw [show j + 1 + n = (j + n) + 1 by omega] at h; simp [spine] at h
theorem sub_way : ∀ (j n : Nat) (c : Code), sub c (way (j + n)) = sub (sub c (way j)) (way n) := fun j n c => by
  rw [show way (j + n) = way j ++ way n from (List.replicate_append_replicate (n := j) (m := n) (a := 1)).symm, sub_append]
structure OnWay (P : Program) (fn : Func) (W : World) (N : Env) (s : St m) (a : Act) (w : World) (F : Fr) (Ow : Own) (bm : Nat → Nat) : Prop where
  inv : Inv P s a.tmps w F N Ow bm
  len : s.boxes.length = fn.ntmps
  defers : a.defers = []
  bel : Go.RowKit.Below W.heap.size W w
  own : ∀ g, g < W.heap.size → Ow g = none
  z : ∀ g, g < W.heap.size → N.Z g = false
abbrev Good (W : World) : Ending → World → Prop := fun e w' => e = .returned (.bool true) ∧ Go.RowKit.Below W.heap.size W w'
abbrev yes : SV m × List (List (SV m)) := (.leaf (.bool true), [])
section
variable {D : Oracle m} {H : FuncId → Hints} {f : FuncId} {fn : Func} {c0 : Code} {W : World} {N : Env} {s : St m} {a : Act} {w : World} {F : Fr} {Ow : Own} {bm : Nat → Nat}
theorem OnWay.step {s' : St m} {a' : Act} {w' : World} (h : OnWay P fn W N s a w F Ow bm) (hst : Step P N fn.ntmps s' a w F Ow bm a' w') (hl : s'.boxes.length = fn.ntmps) :
    ∃ F' Ow' bm', OnWay P fn W N s' a' w' F' Ow' bm' ∧ Far N w F Ow w' F' Ow' := by
  obtain ⟨F1, O1, b1, k1, k2, k3, k4⟩ := hst
  refine ⟨F1, O1, b1, ⟨k1, hl, k4.trans h.defers, h.bel.trans ⟨k2.os, k2.tape, k2.output, k2.size, fun g hg => ?_⟩, fun g hg => ?_, h.z⟩, k2⟩
  · exact (k2.old g (Nat.lt_of_lt_of_le hg h.bel.size) (h.own g hg)).1 (h.z g hg)
  · exact (k2.old g (Nat.lt_of_lt_of_le hg h.bel.size) (h.own g hg)).2.2
theorem OnWay.back {a' : Act} {w' : World} {ex : Exit} {out : Out m} (h : OnWay P fn W N s a w F Ow bm) (ho : endK2 P fn 0 out = some yes) (he : Ends P N fn.ntmps fn.ntmps a w F Ow bm out ex a' w') : bodyPost P fn (Good W) ex a' w' := by
  replace ho := endK2_ref ho
  have fin : ∀ s' : St m, leaveV P fn 0 s' = some yes → Step P N fn.ntmps s' a w F Ow bm a' w' → s'.boxes.length = fn.ntmps → a'.defers = [] ∧ ∃ v, (results fn a'.tmps).run P w' = .ok v w' ∧ Good W (.returned v) w' := by
    intro s' hl hst hlen
    obtain ⟨F1, O1, b1, k, _⟩ := h.step hst hlen
    obtain ⟨_, _, _, u, O2, F2, l4, l5, _⟩ := k.inv.leave hl
    refine ⟨k.defers, u, l4, ?_, k.bel⟩
    have := l5.slot 0
    have hv := repL_bool (b := true) (w := w') (F := F2) (N := N) (by simpa [RepS, RepF] using this)
    rw [hv]
  cases out <;> cases ex <;> simp only [Ends] at he
  · exact fin _ ho he.1 he.2
  · simp [endK] at ho
  · exact fin _ ho he.1 he.2
variable (hP : P.follows .mixedOrders = true) (hD : DSound P N D) (hfn : P.funcs[f]? = some fn) (hc0 : fn.body = some c0)
include hP hD hfn hc0
omit hP hD in
theorem bodyOf_eq : bodyOf P f = c0 ∧ fnOf P f = fn := by
  unfold bodyOf fnOf; rw [hfn]; simp [hc0]
theorem stretch {j n : Nat} (hsp : spine (j + (n + 1)) c0 = true) (h : OnWay P fn W N s a w F Ow bm) {s1 : St m}
    (hrun : ∀ J : List Nat × St m → Option (SV m × List (List (SV m))), nameF P D H f [way (j + (n + 1))] 0 J (way j, s) = J (way (j + (n + 1)), s1))
    (next : ∀ a' w' F' Ow' bm', OnWay P fn W N s1 a' w' F' Ow' bm' → Far N w F Ow w' F' Ow' → (sub c0 (way (j + (n + 1)))).wp P (bodyPost P fn (Good W)) a' w') :
    (sub c0 (way j)).wp P (bodyPost P fn (Good W)) a w := by
  classical
  obtain ⟨e1, e2⟩ := bodyOf_eq hfn hc0
  obtain ⟨hs1, hs2⟩ := spine_split j (n + 1) c0 hsp
  have hr := hrun fun x => if x.2 = s1 then some yes else none
  simp only [if_true] at hr
  unfold nameF at hr
  simp only [e1, e2, way_rev] at hr
  rw [spine_cont j [] c0 hs1, spine_sub j c0 hs1] at hr
  refine spine_sound (L := fn.ntmps) hP hD rfl (Nat.le_refl _) n j _ s a w F Ow bm hs2 hr h.inv h.len (fun out ex a' w' ho _ he => h.back ho he) fun s' a' w' hJ hst hl => ?_
  have : s' = s1 := by
    by_cases hx : s' = s1
    · exact hx
    · simp [hx] at hJ
  subst this
  obtain ⟨F1, O1, b1, k, kf⟩ := h.step hst hl
  rw [← sub_way]
  exact next a' w' F1 O1 b1 k kf
theorem stretch_left {j n : Nat} (hsp : spine (j + (n + 1)) c0 = true) (h : OnWay P fn W N s a w F Ow bm)
    (hrun : ∀ J : List Nat × St m → Option (SV m × List (List (SV m))), nameF P D H f [way (j + (n + 1))] 0 J (way j, s) = some yes) :
    (sub c0 (way j)).wp P (bodyPost P fn (Good W)) a w := by
  obtain ⟨e1, e2⟩ := bodyOf_eq hfn hc0
  obtain ⟨hs1, hs2⟩ := spine_split j (n + 1) c0 hsp
  have hr := hrun fun x => none
  unfold nameF at hr
  simp only [e1, e2, way_rev] at hr
  rw [spine_cont j [] c0 hs1, spine_sub j c0 hs1] at hr
  exact spine_sound (L := fn.ntmps) hP hD rfl (Nat.le_refl _) n j _ s a w F Ow bm hs2 hr h.inv h.len (fun out ex a' w' ho _ he => h.back ho he) fun s' a' w' hJ _ _ => by simp at hJ
theorem stretch_last {j : Nat} (hsp : spine j c0 = true) (hnl : noLoop (sub c0 (way j)) = true) (h : OnWay P fn W N s a w F Ow bm)
    (hrun : ∀ J : List Nat × St m → Option (SV m × List (List (SV m))), nameF P D H f [] 0 J (way j, s) = some yes) :
    (sub c0 (way j)).wp P (bodyPost P fn (Good W)) a w := by
  obtain ⟨e1, e2⟩ := bodyOf_eq hfn hc0
  have hr := hrun fun x => none
  unfold nameF at hr
  simp only [e1, e2, way_rev] at hr
  rw [spine_cont j [] c0 hsp, spine_sub j c0 hsp, codeN_plain _ _ _ _ _ hnl (fun q => by simp)] at hr
  exact quick_sound (L := fn.ntmps) hP hD rfl (Nat.le_refl _) hr h.inv h.len fun out ex a' w' ho he => h.back ho he
end
end Go.Vs
end
section
namespace Go.Vs
variable {P : Program}
mutual
def tuF (φ : Fl true → Fl true) (σ : Fl true → Bool) : Bool → Leaf true → Leaf true
  | i, .bool b => if i then .unk else .bool b
  | i, .int k n => if i then .unk else .int k n
  | i, .str s => if i then .unk else .str s
  | _, .unk => .unk
  | i, .nl e => if i then .sl fSoft [] else .nl e
  | _, .sl c es => .sl (if σ c then fSoft else φ c) (tuE φ σ (σ c) es)
def tuL (φ : Fl true → Fl true) (σ : Fl true → Bool) : Bool → List (Leaf true) → List (Leaf true)
  | _, [] => []
  | i, l :: r => tuF φ σ i l :: tuL φ σ i r
def tuE (φ : Fl true → Fl true) (σ : Fl true → Bool) : Bool → List (List (Leaf true)) → List (List (Leaf true))
  | _, [] => []
  | i, e :: r => tuL φ σ i e :: tuE φ σ i r
end
variable {φ : Fl true → Fl true} {σ : Fl true → Bool}
theorem tuL_map (i : Bool) : ∀ l : List (Leaf true), tuL φ σ i l = l.map (tuF φ σ i)
  | [] => by rw [tuL]; rfl
  | l :: r => by rw [tuL, List.map_cons, tuL_map i r]
theorem tuE_map (i : Bool) : ∀ l : List (List (Leaf true)), tuE φ σ i l = l.map (tuL φ σ i)
  | [] => by rw [tuE]; rfl
  | l :: r => by rw [tuE, List.map_cons, tuE_map i r]
theorem tuL_length (i : Bool) (l : List (Leaf true)) : (tuL φ σ i l).length = l.length := by rw [tuL_map, List.length_map]
theorem tuE_length (i : Bool) (l : List (List (Leaf true))) : (tuE φ σ i l).length = l.length := by rw [tuE_map, List.length_map]
theorem tuE_flatten (i : Bool) : ∀ l : List (List (Leaf true)), (tuE φ σ i l).flatten = tuL φ σ i l.flatten
  | [] => by rw [tuE]; rfl
  | e :: r => by rw [tuE, List.flatten_cons, List.flatten_cons, tuE_flatten i r, tuL_map, tuL_map, tuL_map, List.map_append]
theorem tuF_soft (l : Leaf true) : (tuF φ σ true l).soft = true := by cases l <;> rfl
mutual
def allF (p : Fl true → Bool) : Leaf true → Bool
  | .sl c es => p c && allE p es
  | _ => true
def allL (p : Fl true → Bool) : List (Leaf true) → Bool
  | [] => true
  | l :: r => allF p l && allL p r
def allE (p : Fl true → Bool) : List (List (Leaf true)) → Bool
  | [] => true
  | e :: r => allL p e && allE p r
end
mutual
theorem allF_true : ∀ l : Leaf true, allF (fun _ => true) l = true
  | .sl c es => by rw [allF, allE_true es]; rfl
  | .bool _ | .int _ _ | .str _ | .unk | .nl _ => by simp [allF]
theorem allL_true : ∀ l : List (Leaf true), allL (fun _ => true) l = true
  | [] => by rw [allL]
  | l :: r => by rw [allL, allF_true l, allL_true r]; rfl
theorem allE_true : ∀ l : List (List (Leaf true)), allE (fun _ => true) l = true
  | [] => by rw [allE]
  | l :: r => by rw [allE, allL_true l, allE_true r]; rfl
end
mutual
theorem allF_re {m : Bool} {p : Fl true → Bool} {c : Fl true} (h : p c = true) : ∀ l : Leaf m, allF p (reF (fun _ => c) l) = true
  | .sl _ es => by rw [reF, allF, h, allE_re h es]; rfl
  | .bool _ | .int _ _ | .str _ | .unk | .nl _ => by simp [reF, allF]
theorem allL_re {m : Bool} {p : Fl true → Bool} {c : Fl true} (h : p c = true) : ∀ l : List (Leaf m), allL p (reL (fun _ => c) l) = true
  | [] => by rw [reL, allL]
  | l :: r => by rw [reL, allL, allF_re h l, allL_re h r]; rfl
theorem allE_re {m : Bool} {p : Fl true → Bool} {c : Fl true} (h : p c = true) : ∀ l : List (List (Leaf m)), allE p (reE (fun _ => c) l) = true
  | [] => by rw [reE, allE]
  | l :: r => by rw [reE, allE, allL_re h l, allE_re h r]; rfl
end
theorem allL_mem {p : Fl true → Bool} : ∀ {l : List (Leaf true)}, allL p l = true → ∀ x ∈ l, allF p x = true
  | y :: r, h, x, hx => by
    rw [allL, Bool.and_eq_true] at h
    rcases List.mem_cons.1 hx with rfl | hx
    · exact h.1
    · exact allL_mem h.2 x hx
theorem allE_mem {p : Fl true → Bool} : ∀ {l : List (List (Leaf true))}, allE p l = true → ∀ x ∈ l.flatten, allF p x = true
  | e :: r, h, x, hx => by
    rw [allE, Bool.and_eq_true] at h
    rw [List.flatten_cons] at hx
    rcases List.mem_append.1 hx with hx | hx
    · exact allL_mem h.1 x hx
    · exact allE_mem h.2 x hx
abbrev fl (c : Fl true) : Fl false → Fl true := fun _ => c
mutual
def soF : Leaf false → Leaf true
  | .bool _ => .unk
  | .int _ _ => .unk
  | .str _ => .unk
  | .unk => .unk
  | .nl _ => .sl fSoft []
  | .sl _ es => .sl fSoft (soE es)
def soL : List (Leaf false) → List (Leaf true)
  | [] => []
  | l :: r => soF l :: soL r
def soE : List (List (Leaf false)) → List (List (Leaf true))
  | [] => []
  | e :: r => soL e :: soE r
end
mutual
theorem tuF_fl {c : Fl true} (h : σ c = false) : ∀ l : Leaf false, tuF φ σ false (reF (fl c) l) = reF (fl (φ c)) l
  | .sl _ es => by rw [reF, tuF, h, tuE_fl h es, reF]; rfl
  | .bool _ | .int _ _ | .str _ | .unk | .nl _ => by simp [reF, tuF]
theorem tuL_fl {c : Fl true} (h : σ c = false) : ∀ l : List (Leaf false), tuL φ σ false (reL (fl c) l) = reL (fl (φ c)) l
  | [] => by rw [reL, tuL, reL]
  | l :: r => by rw [reL, tuL, tuF_fl h l, tuL_fl h r, reL]
theorem tuE_fl {c : Fl true} (h : σ c = false) : ∀ l : List (List (Leaf false)), tuE φ σ false (reE (fl c) l) = reE (fl (φ c)) l
  | [] => by rw [reE, tuE, reE]
  | l :: r => by rw [reE, tuE, tuL_fl h l, tuE_fl h r, reE]
end
mutual
theorem tuF_so {c : Fl true} (h : σ c = true) : ∀ l : Leaf false, tuF φ σ true (reF (fl c) l) = soF l
  | .sl _ es => by rw [reF, tuF, h, tuE_so h es, soF]; rfl
  | .bool _ | .int _ _ | .str _ | .unk | .nl _ => by simp [reF, tuF, soF]
theorem tuL_so {c : Fl true} (h : σ c = true) : ∀ l : List (Leaf false), tuL φ σ true (reL (fl c) l) = soL l
  | [] => by rw [reL, tuL, soL]
  | l :: r => by rw [reL, tuL, tuF_so h l, tuL_so h r, soL]
theorem tuE_so {c : Fl true} (h : σ c = true) : ∀ l : List (List (Leaf false)), tuE φ σ true (reE (fl c) l) = soE l
  | [] => by rw [reE, tuE, soE]
  | l :: r => by rw [reE, tuE, tuL_so h l, tuE_so h r, soE]
end
mutual
def saL : List (Leaf false) → List (Leaf true)
  | [] => []
  | l :: r => saF l :: saL r
def saF : Leaf false → Leaf true
  | .bool b => .bool b
  | .int k n => .int k n
  | .str s => .str s
  | .unk => .unk
  | .nl e => .nl e
  | .sl _ es => .sl fSoft (soE es)
end
theorem tuF_sa {c : Fl true} (h : σ c = true) : ∀ l : Leaf false, tuF φ σ false (reF (fl c) l) = saF l
  | .sl _ es => by rw [reF, tuF, h, tuE_so h es, saF]; rfl
  | .bool _ | .int _ _ | .str _ | .unk | .nl _ => by simp [reF, tuF, saF]
theorem tuL_sa {c : Fl true} (h : σ c = true) : ∀ l : List (Leaf false), tuL φ σ false (reL (fl c) l) = saL l
  | [] => by rw [reL, tuL, saL]
  | l :: r => by rw [reL, tuL, tuF_sa h l, tuL_sa h r, saL]
def TuOk (p : Fl true → Bool) (φ : Fl true → Fl true) (σ : Fl true → Bool) (w : World) (F : Fr) (N : Env) (F' : Fr) (N' : Env) : Prop :=
  ∀ (c : Fl true) (g o : Nat), p c = true → g < w.heap.size → 0 < F g → c.Holds N w g o → F g ≤ F' g ∧ ((σ c = true ∧ N'.Z g = true) ∨ (σ c = false ∧ (φ c).Holds N' w g o ∧ (φ c).isSoft = false ∧ N'.Z g = false))
theorem RepL.tu {p : Fl true → Bool} {w : World} {F F' : Fr} {N N' : Env} (hok : TuOk p φ σ w F N F' N') {l : Leaf true} {v : Value} (h : RepL w F N l v) : allF p l = true → ∀ i, RepL w F' N' (tuF φ σ i l) v := by
  induction h with
  | bool b => intro _ i; cases i <;> simp only [tuF] <;> first | exact .bool b | exact .unk _ rfl
  | int k n => intro _ i; cases i <;> simp only [tuF] <;> first | exact .int k n | exact .unk _ rfl
  | str s => intro _ i; cases i <;> simp only [tuF] <;> first | exact .str s | exact .unk _ rfl
  | unk v h => intro _ i; rw [tuF]; exact .unk v h
  | nl e =>
    intro _ i
    cases i <;> simp only [tuF]
    · exact .nl e
    · exact repL_sl_mk (es := []) (z := 0) (vals := []) (Nat.le_refl _) (by simp) (fun h => by simp at h) (RepR.nil _ _ _)
  | sl c es A cap z vals hc hz hv hcell hr ih =>
    intro hp i
    rw [allF, Bool.and_eq_true] at hp
    rw [tuF]
    have hl : (tuE φ σ (σ c) es).length = es.length := tuE_length _ es
    rw [← hl]
    refine .sl _ _ A cap z vals (by rw [hl]; exact hc) (fun e he => ?_) (by rw [hl]; exact hv) (fun hpos => ?_) (fun j l v h1 h2 => ?_)
    · rw [tuE_map] at he
      obtain ⟨e0, he0, rfl⟩ := List.mem_map.1 he
      rw [tuL_length]; exact hz e0 he0
    · rw [hl] at hpos
      obtain ⟨g, o, e, ⟨hv0, hn⟩, hle, hso, hcl⟩ := hcell hpos
      obtain ⟨h1, h2⟩ := hok c g o hp.1 (cell_lt (hcl 0 _ (List.getElem?_eq_getElem hv0))) (by omega) hn
      rcases h2 with ⟨hs, hZ⟩ | ⟨hs, hH, hS, hZ⟩
      · refine ⟨g, o, e, ⟨hv0, by rw [hs]; trivial⟩, Nat.le_trans hle h1, ⟨fun _ => hZ, fun _ l hl' => ?_⟩, hcl⟩
        rw [tuE_flatten, tuL_map, hs] at hl'
        obtain ⟨l0, _, rfl⟩ := List.mem_map.1 hl'
        exact tuF_soft l0
      · refine ⟨g, o, e, ⟨hv0, by rw [hs]; exact hH⟩, Nat.le_trans hle h1, ⟨fun h => ?_, fun h => by rw [hZ] at h; simp at h⟩, hcl⟩
        rw [hs] at h
        simp only [Bool.false_eq_true, if_false] at h
        rw [hS] at h; simp at h
    · rw [tuE_flatten, tuL_map, List.getElem?_map, Option.map_eq_some_iff] at h1
      obtain ⟨l0, hl0, rfl⟩ := h1
      exact ih j l0 v hl0 h2 (allE_mem hp.2 l0 (List.mem_of_getElem? hl0)) _
theorem RepR.tu {p : Fl true → Bool} {w : World} {F F' : Fr} {N N' : Env} (hok : TuOk p φ σ w F N F' N') {ls : List (Leaf true)} {vs : List Value} (h : RepR w F N ls vs) (hp : allL p ls = true) (i : Bool) : RepR w F' N' (tuL φ σ i ls) vs := by
  refine ⟨by rw [tuL_length, h.1], fun j l v h1 h2 => ?_⟩
  rw [tuL_map, List.getElem?_map, Option.map_eq_some_iff] at h1
  obtain ⟨l0, hl0, rfl⟩ := h1
  exact RepL.tu hok (h.2 j l0 v hl0 h2) (allL_mem hp l0 (List.mem_of_getElem? hl0)) i
def tuS (φ : Fl true → Fl true) (σ : Fl true → Bool) : SV true → SV true
  | .leaf l => .leaf (tuF φ σ false l)
  | .own _ es => .leaf (tuF φ σ false (.sl (Fl.new true) es))
  | .agg cs => .agg (tuL φ σ false cs)
  | _ => .any
def slotOk (p : Fl true → Bool) : SV true → Bool
  | .leaf l => allF p l
  | .own _ es => p (Fl.new true) && allE p es
  | .agg cs => allL p cs
  | _ => true
theorem tuS_rep {p : Fl true → Bool} {w : World} {F F' : Fr} {N N' : Env} (hok : TuOk p φ σ w F N F' N') {Ow Ow' : Own} {bm bm' : Nat → Nat} {al al' : Nat → Bool} {loc loc' : Loc} {x : SV true} {v : Value} (hx : slotOk p x = true) (h : RepS P w F N Ow bm al loc x v) :
    RepS P w F' N' Ow' bm' al' loc' (tuS φ σ x) v := by
  cases x with
  | leaf l => exact RepS.leaf (RepL.tu hok (show RepL w F N l v by simpa [RepS, RepF] using h) hx false)
  | own e es => exact RepS.leaf (RepL.tu hok (RepO.leaf h) (by rw [allF]; exact hx) false)
  | agg cs =>
    obtain ⟨vs, e, hr⟩ : ∃ vs, v = .agg vs ∧ RepR w F N cs vs.toList := by simpa [RepS, RepF] using h
    have h2 : ∃ vs, v = .agg vs ∧ RepR w F' N' (tuL φ σ false cs) vs.toList := ⟨vs, e, RepR.tu hok hr hx false⟩
    simpa [tuS, RepS, RepF] using h2
  | _ => exact RepS.any
abbrev tQ : Fl true := Flag.tag 3 false
def isTQ : Fl true → Bool := fun c => match c with | Flag.tag 3 _ => true | _ => false
def tuB (φ : Fl true → Fl true) (σ : Fl true → Bool) (bs : Boxes true) : SV true → SV true
  | .ptr b o => match (boxAt bs b).bind asLeaves with
    | some (l :: ls) => .eptr tQ (tuL φ σ false (l :: ls)) o
    | _ => .any
  | .eptr c e o => if isTQ c then .eptr tQ (tuL φ σ false e) o else .any
  | x => tuS φ σ x
def slotOkB (p : Fl true → Bool) (bs : Boxes true) : SV true → Bool
  | .ptr b _ => match (boxAt bs b).bind asLeaves with
    | some ls => allL p ls
    | none => true
  | .eptr c e _ => !(isTQ c) || allL p e
  | x => slotOk p x
theorem tuB_some {bs : Boxes true} {b : Nat} {o : Nat} {ls : List (Leaf true)} (h : (boxAt bs b).bind asLeaves = some ls) (hne : ls ≠ []) : tuB φ σ bs (.ptr b o) = .eptr tQ (tuL φ σ false ls) o := by
  cases ls with
  | nil => exact absurd rfl hne
  | cons l ls => simp only [tuB, h]
theorem tuB_empty {bs : Boxes true} {b : Nat} {o : Nat} (h : (boxAt bs b).bind asLeaves = some []) : tuB φ σ bs (.ptr b o) = .any := by
  simp only [tuB, h]
theorem tuB_none {bs : Boxes true} {b : Nat} {o : Nat} (h : (boxAt bs b).bind asLeaves = none) : tuB φ σ bs (.ptr b o) = .any := by
  simp only [tuB, h]
theorem slotOkB_some {p : Fl true → Bool} {bs : Boxes true} {b : Nat} {o : Nat} {ls : List (Leaf true)} (h : (boxAt bs b).bind asLeaves = some ls) : slotOkB p bs (.ptr b o) = allL p ls := by
  simp only [slotOkB, h]
def sealB (F : Fr) (w : World) : Fr := fun g => max (F g) (sealW w g)
theorem le_sealB (F : Fr) (w : World) (g : Nat) : F g ≤ sealB F w g := Nat.le_max_left _ _
theorem sealB_new {F : Fr} {w : World} {g : Nat} (h : F g = 0) (hg : w.heap.size ≤ g) : sealB F w g = 0 := by
  unfold sealB sealW
  rw [h, Array.getElem?_eq_none hg]; rfl
theorem sealB_box {F : Fr} {w : World} {g : Nat} {cur : Array Value} {e : TypeId} {k : Nat × Nat} (h : w.heap[g]? = some (.cells cur e k)) : cur.size ≤ sealB F w g := by
  unfold sealB sealW
  rw [h]; exact Nat.le_max_right _ _
structure BoxOk (bs : Boxes true) (bm : Nat → Nat) (F : Fr) (N : Env) (F' : Fr) (N' : Env) : Prop where
  box : ∀ b cs, boxAt bs b = some cs → cs ≠ [] → cs.length ≤ F' (bm b) ∧ N'.T 3 (bm b) = true ∧ N'.Z (bm b) = false
  row : ∀ g, N.T 3 g = true → F g ≤ F' g ∧ N'.T 3 g = true ∧ N'.Z g = false
theorem tuB_rep {fn : Func} {W : World} {N N' : Env} {s : St true} {a : Act} {w : World} {F F' : Fr} {Ow : Own} {bm : Nat → Nat} (h : OnWay P fn W N s a w F Ow bm) {p : Fl true → Bool} (hok : TuOk p φ σ w F N F' N') (hb : BoxOk s.boxes bm F N F' N') {Ow' : Own} {bm' : Nat → Nat} {al' : Nat → Bool} {loc loc' : Loc} {x : SV true} {v : Value}
    (hx : slotOkB p s.boxes x = true) (hr : RepS P w F N Ow bm (fun b => (boxAt s.boxes b).isSome) loc x v) : RepS P w F' N' Ow' bm' al' loc' (tuB φ σ s.boxes x) v := by
  cases x with
  | ptr b o =>
    cases hl : (boxAt s.boxes b).bind asLeaves with
    | none => rw [tuB_none hl]; exact RepS.any
    | some ls =>
      by_cases hl0 : ls = []
      · subst hl0; rw [tuB_empty hl]; exact RepS.any
      rw [tuB_some hl hl0]
      rw [slotOkB_some hl] at hx
      obtain ⟨cs, hcs, hls⟩ := Option.bind_eq_some_iff.1 hl
      have hne : cs ≠ [] := by rintro rfl; simp [asLeaves] at hls; exact hl0 hls
      have hv : v = .pointer (some ⟨bm b, o, none⟩) ∧ (boxAt s.boxes b).isSome = true := by simpa only [RepS, RepF] using hr
      obtain ⟨vals, h0, h1, hrr⟩ : ∃ vals : List Value, vals.length = cs.length ∧ (∀ (j : Nat) (u : Value), vals[j]? = some u → w.cell? ⟨bm b, j, none⟩ = some u) ∧ RepR w F N ls vals := by
        rcases h.inv.box b cs hcs with rfl | ⟨cur, et, h1, h2, h3, h4, h5⟩
        · simp [asLeaves] at hls; subst hls; exact ⟨[], rfl, by simp, RepR.nil _ _ _⟩
        · have hcl := Array.length_toList (xs := cur)
          refine ⟨cur.toList.take cs.length, by rw [List.length_take]; omega, fun j u hj => ?_, asLeaves_rep (P := P) (Ow := Ow) (bm := bm) (al := fun b => (boxAt s.boxes b).isSome) cs _ ls (fun j => .box b j) hls (by rw [List.length_take]; omega) fun j c u hc hu => ?_⟩
          · rw [List.getElem?_take] at hj
            split at hj
            · rw [cell_in h1]; simpa using hj
            · simp at hj
          · rw [List.getElem?_take] at hu
            split at hu
            · exact h5 j c u hc (by simpa using hu)
            · simp at hu
      obtain ⟨q1, q2, q3⟩ := hb.box b cs hcs hne
      have hr2 := RepR.tu hok hrr hx false
      have goal : RepF (m := true) w F' N' bm' al' (.eptr tQ (tuL φ σ false ls) o) v := by
        refine ⟨bm b, 0, vals, by rw [hv.1, Nat.zero_add], ?_, ⟨q2, fun hz => by rw [q3] at hz; simp at hz⟩, hr2, fun j u hj => ?_⟩
        · have := hrr.1; rw [tuL_length, Nat.zero_add]; omega
        · rw [Nat.zero_add]; exact h1 j u hj
      simpa only [RepS] using goal
  | eptr c e o =>
    cases hte : isTQ c with
    | false =>
      rw [show tuB φ σ s.boxes (.eptr c e o) = .any by simp only [tuB, hte]; rfl]
      exact RepS.any
    | true =>
      rw [show tuB φ σ s.boxes (.eptr c e o) = .eptr tQ (tuL φ σ false e) o by simp only [tuB, hte]; rfl]
      have hp : allL p e = true := by simpa [slotOkB, hte] using hx
      obtain ⟨g, q, vals, hz, hle, hso, hrr, hc⟩ : ∃ g q vals, v = .pointer (some ⟨g, q + o, none⟩) ∧ q + e.length ≤ F g ∧ (c.At N g ∧ (N.Z g = true → ∀ l ∈ e, l.soft = true)) ∧ RepR w F N e vals ∧ ∀ (j : Nat) (u : Value), vals[j]? = some u → w.cell? ⟨g, q + j, none⟩ = some u := by simpa only [RepS, RepF] using hr
      have ht : N.T 3 g = true := by
        cases c with
        | tag k f =>
          have hk : k = 3 := by
            rcases k with _ | _ | _ | _ | k <;> first | rfl | cases hte
          subst hk; exact hso.1
        | _ => cases hte
      obtain ⟨q1, q2, q3⟩ := hb.row g ht
      have goal : RepF (m := true) w F' N' bm' al' (.eptr tQ (tuL φ σ false e) o) v := by
        refine ⟨g, q, vals, hz, ?_, ⟨q2, fun hz => by rw [q3] at hz; simp at hz⟩, RepR.tu hok hrr hp false, hc⟩
        rw [tuL_length]; omega
      simpa only [RepS] using goal
  | _ => first | exact RepS.any | (simp only [tuB]; exact tuS_rep hok (by simpa only [slotOkB] using hx) hr)
def tuT (φ : Fl true → Fl true) (σ : Fl true → Bool) (bs : Boxes true) (ds : List Nat) : Nat → List (SV true) → List (SV true)
  | _, [] => []
  | i, x :: r => (if ds.contains i then .any else tuB φ σ bs x) :: tuT φ σ bs ds (i + 1) r
theorem tuT_length {bs : Boxes true} (ds : List Nat) : ∀ (i : Nat) (l : List (SV true)), (tuT φ σ bs ds i l).length = l.length
  | _, [] => rfl
  | i, x :: r => by rw [tuT, List.length_cons, List.length_cons, tuT_length ds (i + 1) r]
theorem tuT_get {bs : Boxes true} (ds : List Nat) : ∀ (i : Nat) (l : List (SV true)) (t : Nat), (tuT φ σ bs ds i l).getD t .any = .any ∨ (ds.contains (i + t) = false ∧ (tuT φ σ bs ds i l).getD t .any = tuB φ σ bs (l.getD t .any))
  | i, [], t => by left; simp [tuT]
  | i, x :: r, 0 => by
    cases h : ds.contains i with
    | true => left; simp only [tuT, h, if_true]; rfl
    | false => right; exact ⟨rfl, by simp only [tuT, h]; rfl⟩
  | i, x :: r, t + 1 => by
    have := tuT_get (bs := bs) ds (i + 1) r t
    rw [show i + 1 + t = i + (t + 1) by omega] at this
    simpa [tuT] using this
def turn (φ : Fl true → Fl true) (σ : Fl true → Bool) (ds : List Nat) (s : St true) : St true := { tmps := tuT φ σ s.boxes ds 0 s.tmps, boxes := s.boxes.map fun _ => none }
def slotsOk (p : Fl true → Bool) (bs : Boxes true) (ds : List Nat) : Nat → List (SV true) → Bool
  | _, [] => true
  | i, x :: r => (ds.contains i || slotOkB p bs x) && slotsOk p bs ds (i + 1) r
theorem slotsOk_get {p : Fl true → Bool} {bs : Boxes true} (ds : List Nat) : ∀ (i : Nat) (l : List (SV true)) (t : Nat), slotsOk p bs ds i l = true → ds.contains (i + t) = false → slotOkB p bs (l.getD t .any) = true
  | _, [], t, _, _ => by simp [slotOkB, slotOk]
  | i, x :: r, 0, h, hd => by
    simp only [slotsOk, Bool.and_eq_true] at h
    rw [Nat.add_zero] at hd
    have := h.1; rw [hd] at this; simpa using this
  | i, x :: r, t + 1, h, hd => by
    simp only [slotsOk, Bool.and_eq_true] at h
    have := slotsOk_get ds (i + 1) r t h.2 (by rw [show i + 1 + t = i + (t + 1) by omega]; exact hd)
    simpa using this
theorem boxAt_none (bs : Boxes true) (b : Nat) : boxAt (m := true) (bs.map fun _ => none) b = none := by
  unfold boxAt
  rw [List.getD_eq_getElem?_getD, List.getElem?_map]
  cases bs[b]? <;> rfl
section
variable {fn : Func} {W : World} {N N' : Env} {s : St true} {a : Act} {w : World} {F F' : Fr} {Ow : Own} {bm : Nat → Nat}
theorem OnWay.turn (h : OnWay P fn W N s a w F Ow bm) (φ : Fl true → Fl true) (σ : Fl true → Bool) (ds : List Nat) (p : Fl true → Bool) (hsl : slotsOk p s.boxes ds 0 s.tmps = true) (hok : TuOk p φ σ w F N F' N') (hbx : BoxOk s.boxes bm F N F' N') (hn : N'.n ≤ w.heap.size) (hF : ∀ g, w.heap.size ≤ g → F' g = 0) (hKK : N'.K = N.K) (hle : ∀ g, F g ≤ F' g) (hKZ : ∀ k ∈ N.K, N'.Z k.1.1 = false)
    (hz : ∀ g, N'.Z g = true → W.heap.size ≤ g ∧ Thawed w g) (hBB : N'.B = [] := by rfl) : OnWay P fn W N' (turn φ σ ds s) a w F' (fun _ => none) (fun _ => w.heap.size) := by
  refine ⟨⟨by show (tuT φ σ s.boxes ds 0 s.tmps).length = _; rw [tuT_length]; exact h.inv.len, fun t => ?_, fun b cs hb => ?_, ⟨hn, fun k hk => by
    rw [hKK] at hk
    obtain ⟨h1, h2, h3⟩ := h.inv.low.know k hk
    exact ⟨Nat.lt_of_lt_of_le h1 (hle _), hKZ k hk, h3⟩, fun k hk => by rw [hBB] at hk; cases hk⟩, fun g hg => ⟨hF g hg, rfl⟩, fun b cs hb => ?_, fun g hg => ⟨rfl, (hz g hg).2⟩⟩, by show (s.boxes.map _).length = _; rw [List.length_map]; exact h.len, h.defers, h.bel, fun _ _ => rfl, fun g hg => ?_⟩
  · show RepS P w F' N' _ _ _ _ ((tuT φ σ s.boxes ds 0 s.tmps).getD t .any) _
    rcases tuT_get (φ := φ) (σ := σ) ds 0 s.tmps t with h1 | ⟨h0, h1⟩
    · rw [h1]; exact RepS.any
    · rw [h1]
      exact tuB_rep h hok hbx (slotsOk_get ds 0 s.tmps t hsl h0) (h.inv.slot t)
  · rw [show (Vs.turn φ σ ds s).boxes = s.boxes.map fun _ => none from rfl, boxAt_none] at hb; simp at hb
  · rw [show (Vs.turn φ σ ds s).boxes = s.boxes.map fun _ => none from rfl, boxAt_none] at hb; simp at hb
  · cases hZ : N'.Z g with
    | false => rfl
    | true => have := (hz g hZ).1; omega
def rowSt (s : St true) (t z n k : Nat) : St true := { tmps := s.tmps.set t (.bsl t z 0 n), boxes := s.boxes.set t (some (List.replicate k .any)) }
theorem OnWay.row (h : OnWay P fn W N s a w F Ow bm) (φ : Fl true → Fl true) (ds : List Nat) (p : Fl true → Bool) {t : Nat} (ht : t < s.tmps.length) (ht2 : t < fn.ntmps) {c : Fl true} {es : List (List (Leaf true))} {z : Nat}
    (hslot : s.tmps.getD t .any = .leaf (.sl c es)) (hpos : 0 < es.length) (hez : ∀ e ∈ es, e.length = z) (hsl : slotsOk p s.boxes ds 0 s.tmps = true)
    (hc : ∀ g o, g < w.heap.size → c.Holds N w g o → o = 0 ∧ Thawed w g ∧ N'.n ≤ g ∧ W.heap.size ≤ g ∧ ∀ c' o', p c' = true → ¬ c'.Holds N w g o')
    (hp : ∀ c g o, p c = true → c.Holds N w g o → (φ c).Holds N' w g o ∧ (φ c).isSoft = false)
    (hbx : ∀ g, g < w.heap.size → 0 < F g → c.Holds N w g 0 → BoxOk s.boxes bm F N (fun x => if x = g then 0 else sealB F w x) N') (hZ : ∀ g, N'.Z g = false) (hn : N'.n ≤ w.heap.size) (hKK : N'.K = N.K) (hKw : ∀ k ∈ N.K, k.1.1 < W.heap.size) (hBB : N'.B = [] := by rfl) :
    ∃ k F' Ow' bm', es.length * z ≤ k ∧ OnWay P fn W N' (rowSt (Vs.turn φ (fun _ => false) ds s) t z es.length k) a w F' Ow' bm' := by
  have hs := h.inv.slot t
  rw [hslot] at hs
  obtain ⟨A, cap, z', vals, hv, hcap, hz', hvl, hcell, hr⟩ := repL_sl (show RepL w F N (.sl c es) (a.tmps.getD t undef) by simpa [RepS, RepF] using hs)
  obtain ⟨g, o, rfl, ⟨hv0, hH⟩, hle, hso, hcl⟩ := hcell hpos
  have hzz : z' = z := by
    obtain ⟨e, he⟩ : ∃ e, e ∈ es := by cases es with | nil => simp at hpos | cons e r => exact ⟨e, by simp⟩
    rw [← hz' e he, hez e he]
  subst hzz
  have hg := cell_lt (hcl 0 _ (List.getElem?_eq_getElem hv0))
  obtain ⟨rfl, ⟨cur, et, hcur⟩, hn1, hn2, hne⟩ := hc g o hg hH
  have hk : es.length * z' ≤ cur.size := by
    rw [← hvl]
    have := hcl (vals.length - 1) _ (List.getElem?_eq_getElem (by omega))
    simp only [World.cell?, hcur] at this
    have := (Array.getElem?_eq_some_iff.1 (by simpa using this)).1
    omega
  have hok : TuOk p φ (fun _ => false) w F N (fun x => if x = g then 0 else sealB F w x) N' := by
    intro c' g' o' hp' hg' _ hH'
    have hgg : g' ≠ g := fun e => (hne c' o' hp') (e ▸ hH')
    obtain ⟨h1, h2⟩ := hp c' g' o' hp' hH'
    exact ⟨by simp [hgg, le_sealB], .inr ⟨rfl, h1, h2, hZ g'⟩⟩
  have hb : ∀ b cs, boxAt (rowSt (Vs.turn φ (fun _ => false) ds s) t z' es.length cur.size).boxes b = some cs → b = t ∧ cs = List.replicate cur.size .any := by
    intro b cs hb
    have hb' : boxAt ((s.boxes.map fun _ => none).set t (some (List.replicate cur.size SV.any))) b = some cs := hb
    by_cases hbt : b = t
    · subst hbt
      rw [boxAt_set_self (by rw [List.length_map, h.len]; exact ht2)] at hb'
      exact ⟨rfl, (Option.some.inj hb').symm⟩
    · rw [boxAt_set_ne hbt, boxAt_none] at hb'; simp at hb'
  have hal : (boxAt (rowSt (Vs.turn φ (fun _ => false) ds s) t z' es.length cur.size).boxes t).isSome = true := by
    show (boxAt ((s.boxes.map fun _ => none).set t (some (List.replicate cur.size SV.any))) t).isSome = true
    rw [boxAt_set_self (by rw [List.length_map, h.len]; exact ht2)]; rfl
  refine ⟨cur.size, fun x => if x = g then 0 else sealB F w x, fun x => if x = g then some (.blk t) else none, fun _ => g, hk, ⟨⟨?_, fun u => ?_, fun b cs hbc => ?_, ⟨hn, fun k hk => by
    rw [hKK] at hk
    obtain ⟨h1, h2, h3⟩ := h.inv.low.know k hk
    have hne : k.1.1 ≠ g := fun e => by have := hKw k hk; omega
    exact ⟨by simp only [if_neg hne]; exact Nat.lt_of_lt_of_le h1 (le_sealB F w _), hZ _, h3⟩, fun k hk => by rw [hBB] at hk; cases hk⟩, fun x hx => ?_, fun b cs hbc => hn1, fun x hx => by rw [hZ] at hx; simp at hx⟩, ?_, h.defers, h.bel, fun x hx => ?_, fun x hx => hZ x⟩⟩
  · show ((tuT φ (fun _ => false) s.boxes ds 0 s.tmps).set t _).length = _
    rw [List.length_set, tuT_length]; exact h.inv.len
  · show RepS P w _ N' _ _ _ _ (((tuT φ (fun _ => false) s.boxes ds 0 s.tmps).set t (.bsl t z' 0 es.length)).getD u .any) _
    by_cases hut : u = t
    · subst hut
      rw [List.getD_eq_getElem?_getD, List.getElem?_set_self (by rw [tuT_length]; exact ht), Option.getD_some, hv]
      simp only [RepS, RepF]
      exact ⟨.inr ⟨cap, by simp, hcap⟩, hal⟩
    · rw [List.getD_eq_getElem?_getD, List.getElem?_set_ne (fun e => hut e.symm), ← List.getD_eq_getElem?_getD]
      rcases tuT_get (φ := φ) (σ := fun _ => false) ds 0 s.tmps u with h1 | ⟨h0, h1⟩
      · rw [h1]; exact RepS.any
      · rw [h1]
        exact tuB_rep h hok (hbx g hg (by omega) hH) (slotsOk_get ds 0 s.tmps u hsl h0) (h.inv.slot u)
  · obtain ⟨rfl, rfl⟩ := hb b cs hbc
    refine .inr ⟨cur, et, hcur, by rw [List.length_replicate]; exact Nat.le_refl _, by simp, by simp, fun j c u h1 _ => ?_⟩
    have : c = .any := by
      rw [List.getElem?_replicate] at h1
      split at h1 <;> simp at h1
      exact h1.symm
    subst this
    exact RepS.any
  · have hx' : x ≠ g := fun e => by subst e; omega
    simp [hx', sealB_new (h.inv.new x hx).1 hx]
  · show ((s.boxes.map _).set t _).length = _
    rw [List.length_set, List.length_map]; exact h.len
  · have : x ≠ g := fun e => by subst e; omega
    simp [this]
end
end Go.Vs
end
section
set_option linter.unusedVariables false
namespace Go.Vs
variable {m : Bool} {P : Program} {f : FuncId} {fn : Func} {c0 : Code}
theorem law_on (hfn : P.funcs[f]? = some fn) (hc0 : fn.body = some c0) {args : List (SV m)} {W : World} {vals : Array Value} {K : Known} (hl : args.length = vals.size) (hh : args.all SV.handed = true)
    (hr : ∀ j a v, args[j]? = some a → vals[j]? = some v → RepS P W (sealW W) (N0 W K) (fun _ => none) (fun _ => W.heap.size) (fun _ => false) (.tmp j) a v)
    (next : ∀ a : Act, OnWay P fn W (N0 W K) (enterV fn args []) a W (sealW W) (fun _ => none) (fun _ => W.heap.size) → (sub c0 (way 0)).wp P (bodyPost P fn (Good W)) a W) (hK : KOk W K := by exact KOk.nil) : Calls P f vals W (Good W) := by
  refine calls_of_wp hfn hc0 ?_
  have hinv : Inv P { tmps := args, boxes := ([] : List (List (SV m))).map some } vals W (sealW W) (N0 W K) (fun _ => none) (fun _ => W.heap.size) := by
    refine ⟨hl, fun t => ?_, fun b cs hb => ?_, hK.low, fun g hg => ⟨?_, rfl⟩, fun b cs hb => ?_, fun g hg => ?_⟩
    · by_cases ht : t < args.length
      · have := hr t _ _ (List.getElem?_eq_getElem ht) (Array.getElem?_eq_getElem (by omega))
        simp only [List.getD, List.getElem?_eq_getElem ht, Option.getD_some, Array.getD, show t < vals.size by omega, dif_pos]
        exact this.keeps (Keeps.refl _ _) (fun b hb => by simp at hb) (fun g hg => by simp at hg)
      · simp only [List.getD, List.getElem?_eq_none (Nat.not_lt.1 ht), Option.getD_none]
        exact RepS.any
    · simp [boxAt] at hb
    · unfold sealW
      rw [Array.getElem?_eq_none hg]
    · simp [boxAt] at hb
    · simp [N0] at hg
  have h1 := hinv.frame fn hh (by simp)
  have := next { tmps := vals ++ Array.replicate (fn.ntmps - vals.size) undef, defers := [] } ⟨by simpa using h1, by simp [enterV], rfl, Go.RowKit.Below.refl _ _, fun _ _ => rfl, fun _ _ => rfl⟩
  rw [show way 0 = [] from rfl, sub_nil] at this
  exact this
def N1 (A : Nat) (K : Known := []) : Env := { K := K, n := A, Z := fun _ => false, lt := fun g h => by simp at h, T := fun k g => (k == 0 || k == 3) && decide (g < A) }
def N2 (A B : Nat) (F2 : Fr) (K : Known := []) : Env := { K := K, n := B, Z := fun _ => false, lt := fun g h => by simp at h, T := fun k g => (k == 0 && decide (g < A)) || (k == 1 && decide (A ≤ g ∧ g < B ∧ 0 < F2 g)) || (k == 3 && decide (g < B ∧ ¬ (A ≤ g ∧ 0 < F2 g))) }
open Classical in
noncomputable def N3 (w : World) (A B : Nat) (F2 F3 : Fr) (hB : B ≤ w.heap.size) (K : Known := []) : Env := { K := K, n := w.heap.size, Z := fun g => decide (A ≤ g ∧ g < B ∧ 0 < F2 g ∧ Thawed w g), lt := fun g h => by have := of_decide_eq_true h; omega, T := fun k g => (k == 0 && decide (g < A)) || (k == 2 && decide (B ≤ g ∧ 0 < F3 g)) || (k == 3 && decide (g < w.heap.size ∧ ¬ (B ≤ g ∧ 0 < F3 g) ∧ ¬ (A ≤ g ∧ g < B ∧ 0 < F2 g))) }
def N4 (A B : Nat) (R : Nat → Bool) (K : Known := []) : Env := { K := K, n := B, Z := fun _ => false, lt := fun g h => by simp at h, T := fun k g => (k == 0 && decide (g < A)) || (k == 3 && R g) }
abbrev tA : Fl true := Flag.tag 0 false
abbrev tX : Fl true := Flag.tag 1 true
abbrev tG : Fl true := Flag.tag 2 true
def φ1 : Fl true → Fl true := fun _ => tA
def φ2 : Fl true → Fl true := fun c => match c with | Flag.new => tX | _ => tA
def φ3 : Fl true → Fl true := fun c => match c with | Flag.new => tG | _ => tA
def σ3 : Fl true → Bool := fun c => match c with | Flag.tag 1 _ => true | _ => false
def φ4 : Fl true → Fl true := fun _ => tA
def p4 : Fl true → Bool := fun c => match c with | Flag.tag 0 _ => true | _ => false
def p2 : Fl true → Bool := fun c => match c with | Flag.new => true | Flag.tag 0 _ => true | _ => false
def p3 : Fl true → Bool := fun c => match c with | Flag.new => true | Flag.tag 0 _ => true | Flag.tag 1 f => f | _ => false
theorem slotsOk_true (bs : Boxes true) (ds : List Nat) : ∀ (i : Nat) (l : List (SV true)), slotsOk (fun _ => true) bs ds i l = true
  | _, [] => rfl
  | i, x :: r => by
    rw [slotsOk, slotsOk_true bs ds (i + 1) r]
    cases x <;> simp only [slotOkB, slotOk, allF_true, allE_true, allL_true, Bool.or_true, Bool.and_true]
    · split <;> simp
section
variable {W w : World} {N : Env} {s : St true} {a : Act} {F : Fr} {Ow : Own} {bm : Nat → Nat}
theorem OnWay.box_lt (h : OnWay P fn W N s a w F Ow bm) {b : Nat} {cs : List (SV true)} (hb : boxAt s.boxes b = some cs) (hne : cs ≠ []) : bm b < w.heap.size ∧ F (bm b) = 0 ∧ N.n ≤ bm b ∧ cs.length ≤ sealB F w (bm b) := by
  obtain ⟨cur, et, h1, h2, h3, _⟩ := (h.inv.box b cs hb).resolve_left hne
  exact ⟨(Array.getElem?_eq_some_iff.1 h1).1, h3, h.inv.bmn b cs hb, Nat.le_trans h2 (sealB_box h1)⟩
theorem turn1 {K : Known} (h : OnWay P fn W N s a w F Ow bm) (hN : ∀ g, N.T 3 g = false) (ds : List Nat) (hNK : N.K = K := by rfl) : OnWay P fn W (N1 w.heap.size K) (Vs.turn φ1 (fun _ => false) ds s) a w (sealB F w) (fun _ => none) (fun _ => w.heap.size) :=
  h.turn φ1 (fun _ => false) ds (fun _ => true) (slotsOk_true _ _ _ _) (fun c g o _ hg _ _ => ⟨le_sealB F w g, .inr ⟨rfl, ⟨by simp [N1, hg], fun h => by cases h⟩, rfl, rfl⟩⟩)
    ⟨fun b cs hb hne => ⟨(h.box_lt hb hne).2.2.2, by simp [N1, (h.box_lt hb hne).1], rfl⟩, fun g hg => by rw [hN] at hg; cases hg⟩
    (Nat.le_refl _) (fun g hg => sealB_new (h.inv.new g hg).1 hg) hNK.symm (le_sealB F w) (fun _ _ => rfl) (fun g hg => by simp [N1] at hg)
theorem turn2 {K : Known} {A : Nat} (h : OnWay P fn W (N1 A K) s a w F Ow bm) (ds : List Nat) (hsl : slotsOk p2 s.boxes ds 0 s.tmps = true) : OnWay P fn W (N2 A w.heap.size F K) (Vs.turn φ2 (fun _ => false) ds s) a w (sealB F w) (fun _ => none) (fun _ => w.heap.size) :=
  h.turn φ2 (fun _ => false) ds p2 hsl (fun c g o hc hg hF hH => by
    refine ⟨le_sealB F w g, .inr ⟨rfl, ?_, ?_, rfl⟩⟩
    · cases c with
      | new => obtain ⟨h1, h2, h3⟩ := hH; exact ⟨by simp only [N2]; simp [hg, hF]; exact h1, fun _ => ⟨h2, h3⟩⟩
      | tag k f =>
        rcases k with _ | k
        · exact ⟨by have := hH.1; simp only [N1, N2] at this ⊢; simp at this ⊢; exact this, fun h => by cases h⟩
        · cases (show false = true from hc)
      | _ => cases (show false = true from hc)
    · cases c <;> rfl)
    ⟨fun b cs hb hne => ⟨(h.box_lt hb hne).2.2.2, by simp [N2, h.box_lt hb hne], rfl⟩, fun g hg => by
      have h0 : A ≤ w.heap.size := h.inv.low.le
      simp [N1] at hg
      exact ⟨le_sealB F w g, by simp only [N2]; simp; omega, rfl⟩⟩
    (Nat.le_refl _) (fun g hg => sealB_new (h.inv.new g hg).1 hg) rfl (le_sealB F w) (fun _ _ => rfl) (fun g hg => by simp [N2] at hg)
open Classical in
theorem turn3 {K : Known} {A B : Nat} {F2 : Fr} (h : OnWay P fn W (N2 A B F2 K) s a w F Ow bm) (hA : W.heap.size ≤ A) (hB : B ≤ w.heap.size) (hAB : A ≤ B) (ds : List Nat) (hsl : slotsOk p3 s.boxes ds 0 s.tmps = true) (hK : ∀ k ∈ K, k.1.1 < W.heap.size := by intro _ h; cases h) : OnWay P fn W (N3 w A B F2 F hB K) (Vs.turn φ3 σ3 ds s) a w (sealB F w) (fun _ => none) (fun _ => w.heap.size) :=
  h.turn φ3 σ3 ds p3 hsl (fun c g o hc hg hF hH => by
    refine ⟨le_sealB F w g, ?_⟩
    cases c with
    | new =>
      obtain ⟨h1, h2, h3⟩ := hH
      have h1' : B ≤ g := h1
      exact .inr ⟨rfl, ⟨by simp only [N3]; simp [h1', hF], fun _ => ⟨h2, h3⟩⟩, rfl, by simp only [N3]; exact decide_eq_false (fun h => by omega)⟩
    | tag k f =>
      rcases k with _ | _ | k
      · have h0 := hH.1
        simp only [N2] at h0
        simp at h0
        exact .inr ⟨rfl, ⟨by simp only [N3]; simp [h0], fun h => by cases h⟩, rfl, by simp only [N3]; exact decide_eq_false (fun h => by omega)⟩
      · have h0 := hH.1
        simp only [N2] at h0
        simp at h0
        cases f with
        | true => exact .inl ⟨rfl, by simp only [N3]; exact decide_eq_true ⟨h0.1, h0.2.1, h0.2.2, (hH.2 rfl).2⟩⟩
        | false => cases (show false = true from hc)
      · cases (show false = true from hc)
    | _ => cases (show false = true from hc))
    ⟨fun b cs hb hne => by
      obtain ⟨b1, b2, b3, b4⟩ := h.box_lt hb hne
      have b3' : B ≤ bm b := b3
      exact ⟨b4, by simp only [N3]; simp; omega, by simp only [N3]; exact decide_eq_false (fun h => by omega)⟩, fun g hg => by
      simp [N2] at hg
      exact ⟨le_sealB F w g, by simp only [N3]; simp; omega, by simp only [N3]; exact decide_eq_false (fun h => by omega)⟩⟩
    (Nat.le_refl _) (fun g hg => sealB_new (h.inv.new g hg).1 hg) rfl (le_sealB F w) (fun k hk => by have := hK k hk; simp only [N3]; exact decide_eq_false (fun h => by omega)) (fun g hg => by
      simp only [N3] at hg
      have := of_decide_eq_true hg
      exact ⟨by omega, this.2.2.2⟩)
open Classical in
theorem turn4 {K : Known} {A B : Nat} {w0 : World} {F2 F3 : Fr} {hB0 : B ≤ w0.heap.size} (h : OnWay P fn W (N3 w0 A B F2 F3 hB0 K) s a w F Ow bm) (hA : W.heap.size ≤ A) (hB : B ≤ w.heap.size) (hAB : A ≤ B) (ds : List Nat) {t : Nat} (ht : t < s.tmps.length) (ht2 : t < fn.ntmps) {es : List (List (Leaf true))} {z : Nat}
    (hslot : s.tmps.getD t .any = .leaf (.sl tG es)) (hpos : 0 < es.length) (hez : ∀ e ∈ es, e.length = z) (hsl : slotsOk p4 s.boxes ds 0 s.tmps = true) (hK : ∀ k ∈ K, k.1.1 < W.heap.size := by intro _ h; cases h) :
    ∃ k F' Ow' bm' R, es.length * z ≤ k ∧ OnWay P fn W (N4 A B R K) (rowSt (Vs.turn φ4 (fun _ => false) ds s) t z es.length k) a w F' Ow' bm' := by
  obtain ⟨k, F', Ow', bm', h1, h2⟩ := h.row (N' := N4 A B (fun g => (N3 w0 A B F2 F3 hB0 K).T 3 g || decide (w0.heap.size ≤ g)) K) φ4 ds p4 ht ht2 hslot hpos hez hsl (fun g o hg hH => by
    have h0 := hH.1
    simp only [N3] at h0
    simp at h0
    refine ⟨(hH.2 rfl).1, (hH.2 rfl).2, h0.1, by omega, fun c' o' hc' hH' => ?_⟩
    cases c' with
    | tag k f =>
      rcases k with _ | k
      · have h1 := hH'.1
        simp only [N3] at h1
        simp at h1
        omega
      · cases (show false = true from hc')
    | _ => cases (show false = true from hc')) (fun c g o hc hH => by
    refine ⟨?_, rfl⟩
    cases c with
    | tag k f =>
      rcases k with _ | k
      · have h1 := hH.1
        simp only [N3] at h1
        simp at h1
        exact ⟨by simp only [N4]; simp [h1], fun h => by cases h⟩
      · cases (show false = true from hc)
    | _ => cases (show false = true from hc)) (fun g hg hF hH => by
    have h0 := hH.1
    simp only [N3] at h0
    simp at h0
    refine ⟨fun b cs hb hne0 => ?_, fun x hx => ?_⟩
    · obtain ⟨b1, b2, b3, b4⟩ := h.box_lt hb hne0
      have b3' : w0.heap.size ≤ bm b := b3
      have hne : bm b ≠ g := fun e => by rw [e] at b2; omega
      exact ⟨by simpa [hne] using b4, by simp only [N4]; simp [b3'], rfl⟩
    · have hx' := hx
      simp only [N3] at hx'
      simp at hx'
      have hne : x ≠ g := fun e => by subst e; omega
      exact ⟨by simp [hne, le_sealB], by simp only [N4]; simp [hx], rfl⟩) (fun _ => rfl) hB rfl hK
  exact ⟨k, F', Ow', bm', _, h1, h2⟩
end
end Go.Vs
end
section
namespace Go.Vs
variable {m : Bool} {β : Type}
abbrev El := List (Leaf false)
def slAt (e : El) (p : Nat) : List El := match e[p]? with | some (.sl _ es) => es | _ => []
def intAt (e : El) (p : Nat) : Int := match e[p]? with | some (.int _ n) => n | _ => 0
def boolAt (e : El) (p : Nat) : Bool := match e[p]? with | some (.bool b) => b | _ => false
def strAt (e : El) (p : Nat) : ByteArray := match e[p]? with | some (.str s) => s | _ => ⟨#[]⟩
theorem bT (b : Bool) : (b == true) = b := by cases b <;> rfl
theorem bF (b : Bool) : (b == false) = !b := by cases b <;> rfl
theorem branch_not (b : Bool) (x y : Option β) : branch (!b) x y = branch b y x := by cases b <;> rfl
theorem branch_same (b : Bool) (x : Option β) : branch b x x = x := by cases b <;> rfl
def vBool (v : SV m) (k : Bool → Option β) : Option β := svLeafK v fun l => boolK l k
def vInt (v : SV m) (k : Int → Option β) : Option β := svLeafK v fun l => intK .i64 l k
def vStr (v : SV m) (k : ByteArray → Option β) : Option β := svLeafK v fun l => strK l k
def vSl (v : SV m) (k : List (List (Leaf m)) → Option β) : Option β := svSlK v fun _ es => k es
abbrev Ret (m : Bool) := Option (SV m × List (List (SV m)))
abbrev LE := List El
abbrev LT := List (List (Leaf true))
abbrev PS := List Nat × St false
abbrev PT := List Nat × St true
def rBool (r : Ret m) (k : Bool → Option β) : Option β := r.bind fun r => vBool r.1 k
def rInt (r : Ret m) (k : Int → Option β) : Option β := r.bind fun r => vInt r.1 k
def rStr (r : Ret m) (k : ByteArray → Option β) : Option β := r.bind fun r => vStr r.1 k
def rSl (r : Ret m) (k : List (List (Leaf m)) → Option β) : Option β := r.bind fun r => vSl r.1 k
def rOwn (t : TypeId) (r : Ret m) (k : List (List (Leaf m)) → Option β) : Option β := r.bind fun r => svOwnK t r.1 k
def rBool0 (r : Ret m) (k : Bool → Option β) : Option β := r.bind fun r => lastB r.2 (vBool r.1 k)
def rInt0 (r : Ret m) (k : Int → Option β) : Option β := r.bind fun r => lastB r.2 (vInt r.1 k)
def rBoolS (r : Ret m) (k : ByteArray → Bool → Option β) : Option β := r.bind fun r => headB r.2 fun d r1 => headK d fun d r2 => vStr d fun s => lastK r2 (lastB r1 (vBool r.1 fun b => k s b))
def rIntS (r : Ret m) (k : ByteArray → Int → Option β) : Option β := r.bind fun r => headB r.2 fun d r1 => headK d fun d r2 => vStr d fun s => lastK r2 (lastB r1 (vInt r.1 fun b => k s b))
def rCol (t : TypeId) (r : Ret m) (k : List (List (Leaf m)) → Option β) : Option β := r.bind fun r => headB r.2 fun d r1 => headK d fun d r2 => svOwnK t d fun es => lastK r2 (lastB r1 (svTupK r.1 fun vs => lastK vs (k es)))
def aBool (e : List (Leaf m)) (p : Nat) (k : Bool → Option β) : Option β := atK e p fun l => boolK l k
def aInt (e : List (Leaf m)) (p : Nat) (k : Int → Option β) : Option β := atK e p fun l => intK .i64 l k
def aStr (e : List (Leaf m)) (p : Nat) (k : ByteArray → Option β) : Option β := atK e p fun l => strK l k
def aSl (e : List (Leaf m)) (p : Nat) (k : List (List (Leaf m)) → Option β) : Option β := atK e p fun l => slK l fun _ es => k es
section
variable {b : Bool} {n : Int} {s : ByteArray} {es : List (List (Leaf m))} {c : Fl m} {bs : List (List (SV m))} {t : TypeId}
theorem vBool_eq (k : Bool → Option β) : vBool (.leaf (.bool b) : SV m) k = k b := rfl
theorem vInt_eq (k : Int → Option β) : vInt (.leaf (.int .i64 n) : SV m) k = k n := rfl
theorem vStr_eq (k : ByteArray → Option β) : vStr (.leaf (.str s) : SV m) k = k s := rfl
theorem vSl_eq (k : List (List (Leaf m)) → Option β) : vSl (.leaf (.sl c es)) k = k es := rfl
theorem rBool_eq (k : Bool → Option β) : rBool (some ((.leaf (.bool b) : SV m), bs)) k = k b := rfl
theorem rInt_eq (k : Int → Option β) : rInt (some ((.leaf (.int .i64 n) : SV m), bs)) k = k n := rfl
theorem rStr_eq (k : ByteArray → Option β) : rStr (some ((.leaf (.str s) : SV m), bs)) k = k s := rfl
theorem rSl_eq (k : List (List (Leaf m)) → Option β) : rSl (some ((.leaf (.sl c es)), bs)) k = k es := rfl
theorem rOwn_eq (k : List (List (Leaf m)) → Option β) : rOwn t (some ((.own (some t) es), bs)) k = k es := by show svOwnK t (.own (some t) es) k = k es; simp
theorem rBool0_eq (k : Bool → Option β) : rBool0 (some ((.leaf (.bool b) : SV m), [])) k = k b := rfl
theorem rInt0_eq (k : Int → Option β) : rInt0 (some ((.leaf (.int .i64 n) : SV m), [])) k = k n := rfl
theorem rBoolS_eq (k : ByteArray → Bool → Option β) : rBoolS (some ((.leaf (.bool b) : SV m), [[.leaf (.str s)]])) k = k s b := rfl
theorem rIntS_eq (k : ByteArray → Int → Option β) : rIntS (some ((.leaf (.int .i64 n) : SV m), [[.leaf (.str s)]])) k = k s n := rfl
theorem rCol_eq (k : List (List (Leaf m)) → Option β) : rCol t (some (.tup [], [[.own (some t) es]])) k = k es := by show svOwnK t (.own (some t) es) _ = k es; simp
section
variable {r : List (Leaf m)}
theorem aBool_z (k : Bool → Option β) : aBool (.bool b :: r) 0 k = k b := rfl
theorem aInt_z (k : Int → Option β) : aInt (.int .i64 n :: r) 0 k = k n := rfl
theorem aStr_z (k : ByteArray → Option β) : aStr (.str s :: r) 0 k = k s := rfl
theorem aSl_z (k : List (List (Leaf m)) → Option β) : aSl (.sl c es :: r) 0 k = k es := rfl
end
theorem cmb_a {l : Leaf m} {r : List (Leaf m)} {p : Nat} : (∀ k : Bool → Option β, aBool (l :: r) (p + 1) k = aBool r p k) ∧ (∀ k : Int → Option β, aInt (l :: r) (p + 1) k = aInt r p k) ∧ (∀ k : ByteArray → Option β, aStr (l :: r) (p + 1) k = aStr r p k) ∧
    (∀ k : List (List (Leaf m)) → Option β, aSl (l :: r) (p + 1) k = aSl r p k) := ⟨fun _ => rfl, fun _ => rfl, fun _ => rfl, fun _ => rfl⟩
end
theorem rdR : (∀ (m : Bool) (β : Type) (b : Bool) (k : Bool → Option β), vBool (.leaf (.bool b) : SV m) k = k b) ∧
    (∀ (m : Bool) (β : Type) (n : Int) (k : Int → Option β), vInt (.leaf (.int .i64 n) : SV m) k = k n) ∧
    (∀ (m : Bool) (β : Type) (s : ByteArray) (k : ByteArray → Option β), vStr (.leaf (.str s) : SV m) k = k s) ∧
    (∀ (m : Bool) (β : Type) (c : Fl m) (es : List (List (Leaf m))) (k : List (List (Leaf m)) → Option β), vSl (.leaf (.sl c es)) k = k es) ∧
    (∀ (m : Bool) (β : Type) (b : Bool) (bs : List (List (SV m))) (k : Bool → Option β), rBool (some ((.leaf (.bool b) : SV m), bs)) k = k b) ∧
    (∀ (m : Bool) (β : Type) (n : Int) (bs : List (List (SV m))) (k : Int → Option β), rInt (some ((.leaf (.int .i64 n) : SV m), bs)) k = k n) ∧
    (∀ (m : Bool) (β : Type) (s : ByteArray) (bs : List (List (SV m))) (k : ByteArray → Option β), rStr (some ((.leaf (.str s) : SV m), bs)) k = k s) ∧
    (∀ (m : Bool) (β : Type) (c : Fl m) (es : List (List (Leaf m))) (bs : List (List (SV m))) (k : List (List (Leaf m)) → Option β), rSl (some ((.leaf (.sl c es)), bs)) k = k es) ∧
    (∀ (m : Bool) (β : Type) (t : TypeId) (es : List (List (Leaf m))) (bs : List (List (SV m))) (k : List (List (Leaf m)) → Option β), rOwn t (some ((.own (some t) es), bs)) k = k es) ∧
    (∀ (m : Bool) (β : Type) (b : Bool) (k : Bool → Option β), rBool0 (some ((.leaf (.bool b) : SV m), [])) k = k b) ∧
    (∀ (m : Bool) (β : Type) (n : Int) (k : Int → Option β), rInt0 (some ((.leaf (.int .i64 n) : SV m), [])) k = k n) ∧
    (∀ (m : Bool) (β : Type) (b : Bool) (s : ByteArray) (k : ByteArray → Bool → Option β), rBoolS (some ((.leaf (.bool b) : SV m), [[.leaf (.str s)]])) k = k s b) ∧
    (∀ (m : Bool) (β : Type) (n : Int) (s : ByteArray) (k : ByteArray → Int → Option β), rIntS (some ((.leaf (.int .i64 n) : SV m), [[.leaf (.str s)]])) k = k s n) ∧
    (∀ (m : Bool) (β : Type) (t : TypeId) (es : List (List (Leaf m))) (k : List (List (Leaf m)) → Option β), rCol t (some (.tup [], [[.own (some t) es]])) k = k es) ∧
    (∀ (m : Bool) (β : Type) (b : Bool) (r : List (Leaf m)) (k : Bool → Option β), aBool (.bool b :: r) 0 k = k b) ∧
    (∀ (m : Bool) (β : Type) (n : Int) (r : List (Leaf m)) (k : Int → Option β), aInt (.int .i64 n :: r) 0 k = k n) ∧
    (∀ (m : Bool) (β : Type) (s : ByteArray) (r : List (Leaf m)) (k : ByteArray → Option β), aStr (.str s :: r) 0 k = k s) ∧
    (∀ (m : Bool) (β : Type) (c : Fl m) (es : List (List (Leaf m))) (r : List (Leaf m)) (k : List (List (Leaf m)) → Option β), aSl (.sl c es :: r) 0 k = k es) ∧
    (∀ (β : Type) (α : Type) (x : α) (f : α → Option β), (some x).bind f = f x) ∧
    (∀ (m : Bool) (β : Type) (vs : List (SV m)) (k : List (SV m) → Option β), svTupK (.tup vs) k = k vs) ∧
    (∀ (m : Bool) (β : Type) (v : SV m) (r : List (SV m)) (k : SV m → List (SV m) → Option β), headK (v :: r) k = k v r) ∧
    (∀ (m : Bool) (β : Type) (v : List (SV m)) (r : List (List (SV m))) (k : List (SV m) → List (List (SV m)) → Option β), headB (v :: r) k = k v r) ∧
    (∀ (m : Bool) (β : Type) (k : Option β), lastK ([] : List (SV m)) k = k) ∧
    (∀ (m : Bool) (β : Type) (k : Option β), lastB ([] : List (List (SV m))) k = k) ∧
    (∀ (m : Bool) (β : Type) (cs : List (Leaf m)) (k : List (Leaf m) → Option β), svAggK (.agg cs) k = k cs) ∧
    (∀ (m : Bool) (β : Type) (e : TypeId) (es : List (List (Leaf m))) (k : List (List (Leaf m)) → Option β), svOwnK e (.own (some e) es) k = k es) ∧
    (∀ (β : Type) (x y : Option β), branch true x y = x) ∧
    (∀ (β : Type) (x y : Option β), branch false x y = y) ∧
    (∀ (β : Type) (x : Option β), guarded true x = x) :=
  ⟨fun _ _ _ _ => rfl, fun _ _ _ _ => rfl, fun _ _ _ _ => rfl, fun _ _ _ _ _ => rfl, fun _ _ _ _ _ => rfl, fun _ _ _ _ _ => rfl, fun _ _ _ _ _ => rfl, fun _ _ _ _ _ _ => rfl, fun _ _ _ _ _ k => rOwn_eq k, fun _ _ _ _ => rfl, fun _ _ _ _ => rfl, fun _ _ _ _ _ => rfl, fun _ _ _ _ _ => rfl, fun _ _ _ _ k => rCol_eq k, fun _ _ _ _ _ => rfl, fun _ _ _ _ _ => rfl, fun _ _ _ _ _ => rfl, fun _ _ _ _ _ _ => rfl, fun _ _ _ _ => rfl, fun _ _ _ _ => rfl, fun _ _ _ _ _ => rfl, fun _ _ _ _ _ => rfl, fun _ _ _ => rfl, fun _ _ _ => rfl, fun _ _ _ _ => rfl, fun _ _ => svOwnK_own, fun _ _ _ => rfl, fun _ _ _ => rfl, fun _ _ => rfl⟩
theorem inI : (∀ a b : Nat, ((a : Int) < (b : Int)) = (a < b)) ∧ (∀ n : Nat, (0 ≤ (n : Int)) = True) ∧ (∀ n : Nat, ((n : Int)).toNat = n) ∧ decide True = true ∧ (∀ b : Bool, (b && true) = b) ∧ (∀ b : Bool, (true && b) = b) ∧ (∀ (β : Type) (x y : Option β), branch true x y = x) ∧ (∀ (β : Type) (x : Option β), guarded true x = x) :=
  ⟨fun _ _ => propext Int.ofNat_lt, fun _ => eq_true (Int.natCast_nonneg _), Int.toNat_natCast, by decide, Bool.and_true, Bool.true_and, fun _ _ _ => rfl, fun _ _ => rfl⟩
end Go.Vs
end
section
namespace Go.Vs
variable {β : Type}
end Go.Vs
end
section
set_option linter.unusedVariables false
namespace Go.Vs
theorem wrap_upL {i : Nat} (h : i < maxLen) : IntKind.i64.wrap ((i : Int) + 1) = ((i + 1 : Nat) : Int) := by
  have hm : maxLen = 9223372036854775807 := rfl
  rw [wrap64 (by omega) (by omega)]; rfl
mutual
def szF : Leaf false → Int → Int
  | .str s, n => if IntKind.i64.wrap (n - (s.size : Int)) < 0 then -1 else IntKind.i64.wrap (n - (s.size : Int))
  | .sl _ es, n => if IntKind.i64.wrap (n - (es.length : Int)) < 0 then -1 else szE es (IntKind.i64.wrap (n - (es.length : Int)))
  | .bool _, n => n
  | .int _ _, n => n
  | .unk, n => n
  | .nl _, n => n
def szL : List (Leaf false) → Int → Int
  | [], n => n
  | l :: r, n => if szF l n < 0 then -1 else szL r (szF l n)
def szE : List (List (Leaf false)) → Int → Int
  | [], n => n
  | e :: es, n => if szL e n < 0 then -1 else szE es (szL e n)
end
theorem szL_append : ∀ (a b : List (Leaf false)) (n : Int), 0 ≤ n → szL (a ++ b) n = if szL a n < 0 then -1 else szL b (szL a n)
  | [], b, n, h => by simp [szL, Int.not_lt.2 h]
  | l :: a, b, n, h => by
    simp only [List.cons_append, szL]
    by_cases h1 : szF l n < 0
    · simp [h1]
    · simp only [h1, if_false]
      exact szL_append a b _ (by omega)
section
variable {r : List (Leaf false)} {n : Int}
abbrev vint (n : Int) : SV false := .leaf (.int .i64 n)
abbrev vbool (b : Bool) : SV false := .leaf (.bool b)
abbrev vsl (es : List (List (Leaf false))) : SV false := .leaf (.sl fP es)
abbrev Res := Option (SV false × List (List (SV false)))
theorem sz_str {s : ByteArray} {Y : Res} (g : 0 ≤ IntKind.i64.wrap (n - (s.size : Int)) → Y = some (vint (szL r (IntKind.i64.wrap (n - (s.size : Int)))), [])) :
    branch (decide (IntKind.i64.wrap (n - (s.size : Int)) < 0)) (some (SV.leaf (Leaf.int .i64 (-1)), [])) Y = some (vint (szL (.str s :: r) n), []) := by
  rw [branch_ite]
  by_cases h : IntKind.i64.wrap (n - (s.size : Int)) < 0
  · simp [h, szL, szF]
  · simp only [h, decide_false, Bool.false_eq_true, if_false, szL, szF]
    exact g (by omega)
theorem sz_int {k : IntKind} {z : Int} {Y : Res} (hn : 0 ≤ n) (g : Y = some (vint (szL r n), [])) : Y = some (vint (szL (.int k z :: r) n), []) := by
  rw [g]; simp [szL, szF, Int.not_lt.2 hn]
theorem sz_bool {b : Bool} {Y : Res} (hn : 0 ≤ n) (g : Y = some (vint (szL r n), [])) : Y = some (vint (szL (.bool b :: r) n), []) := by
  rw [g]; simp [szL, szF, Int.not_lt.2 hn]
theorem sz_call {d : Res} {a : List (Leaf false)} {Y : Int → Res} (hd : d = some (vint (szL a n), [])) (hn : 0 ≤ n) (g : ∀ k, 0 ≤ k → Y k = some (vint (szL r k), [])) :
    (d.bind fun r => svLeafK r.fst fun l => intK .i64 l fun n => branch (decide (n < 0)) (some (SV.leaf (Leaf.int .i64 (-1)), [])) (Y n)) = some (vint (szL (a ++ r) n), []) := by
  rw [hd, szL_append _ _ _ hn]
  simp only [Option.bind_some, svLeafK_leaf, intK_int, branch_ite]
  by_cases h : szL a n < 0
  · simp [h]
  · simp only [h, decide_false, Bool.false_eq_true, if_false]
    exact g _ (by omega)
theorem sz_callS {d : Res} {es : List (List (Leaf false))} {Y : Int → Res} (hd : d = some (vint (szF (.sl fP es) n), [])) (g : ∀ k, 0 ≤ k → Y k = some (vint (szL r k), [])) :
    (d.bind fun r => svLeafK r.fst fun l => intK .i64 l fun n => branch (decide (n < 0)) (some (SV.leaf (Leaf.int .i64 (-1)), [])) (Y n)) = some (vint (szL (.sl fP es :: r) n), []) := by
  rw [hd]
  simp only [Option.bind_some, svLeafK_leaf, intK_int, branch_ite, szL]
  by_cases h : szF (.sl fP es) n < 0
  · simp [h]
  · simp only [h, decide_false, Bool.false_eq_true, if_false]
    exact g _ (by omega)
theorem sz_len {es : List (List (Leaf false))} {Y : Res} (g : 0 ≤ IntKind.i64.wrap (n - (es.length : Int)) → Y = some (vint (szE es (IntKind.i64.wrap (n - (es.length : Int)))), [])) :
    branch (decide (IntKind.i64.wrap (n - (es.length : Int)) < 0)) (some (SV.leaf (Leaf.int .i64 (-1)), [])) Y = some (vint (szF (.sl fP es) n), []) := by
  rw [branch_ite, szF]
  by_cases h : IntKind.i64.wrap (n - (es.length : Int)) < 0
  · simp [h]
  · simp only [h, decide_false, Bool.false_eq_true, if_false]
    exact g (by omega)
theorem sz_next {e : List (Leaf false)} {es : List (List (Leaf false))} {d : Res} {Y : Int → Res} (hd : d = some (vint (szL e n), [])) (g : ∀ k, 0 ≤ k → Y k = some (vint (szE es k), [])) :
    (d.bind fun r => svLeafK r.fst fun l => intK .i64 l fun n => branch (decide (n < 0)) (some (SV.leaf (Leaf.int .i64 (-1)), [])) (Y n)) = some (vint (szE (e :: es) n), []) := by
  rw [hd]
  simp only [Option.bind_some, svLeafK_leaf, intK_int, branch_ite, szE]
  by_cases h : szL e n < 0
  · simp [h]
  · simp only [h, decide_false, Bool.false_eq_true, if_false]
    exact g _ (by omega)
theorem sz_nextS {s : ByteArray} {es : List (List (Leaf false))} {Y : Res} (g : 0 ≤ IntKind.i64.wrap (n - (s.size : Int)) → Y = some (vint (szE es (IntKind.i64.wrap (n - (s.size : Int)))), [])) :
    branch (decide (IntKind.i64.wrap (n - (s.size : Int)) < 0)) (some (SV.leaf (Leaf.int .i64 (-1)), [])) Y = some (vint (szE ([.str s] :: es) n), []) := by
  rw [branch_ite]
  by_cases h : IntKind.i64.wrap (n - (s.size : Int)) < 0
  · simp [h, szE, szL, szF]
  · simp only [h, decide_false, Bool.false_eq_true, if_false, szE, szL, szF]
    exact g (by omega)
end
mutual
def mkF : Leaf false → Int → Int
  | .str _, k => IntKind.i64.wrap (k + 1)
  | .bool _, k => IntKind.i64.wrap (k + 1)
  | .int _ _, k => IntKind.i64.wrap (k + 1)
  | .sl _ es, k => mkE es k
  | .unk, k => k
  | .nl _, k => k
def mkL : List (Leaf false) → Int → Int
  | [], k => k
  | l :: r, k => mkL r (mkF l k)
def mkE : List (List (Leaf false)) → Int → Int
  | [], k => k
  | e :: es, k => mkE es (mkL e k)
end
theorem mkL_append : ∀ (a b : List (Leaf false)) (k : Int), mkL (a ++ b) k = mkL b (mkL a k)
  | [], _, _ => rfl
  | l :: a, b, k => by simp only [List.cons_append, mkL]; exact mkL_append a b _
mutual
def tF : Leaf false → Nat
  | .sl _ es => es.length + tE es
  | _ => 0
def tL : List (Leaf false) → Nat
  | [] => 0
  | l :: r => tF l + tL r
def tE : List (List (Leaf false)) → Nat
  | [] => 0
  | e :: es => tL e + tE es
end
mutual
def okF (z : Nat) : Leaf false → Prop
  | .str s => s.size ≤ maxLen
  | .sl _ es => es.length ≤ maxLen ∧ okE z es
  | _ => True
def okL (z : Nat) : List (Leaf false) → Prop
  | [] => True
  | l :: r => okF z l ∧ okL z r
def okE (z : Nat) : List (List (Leaf false)) → Prop
  | [] => True
  | e :: es => e.length ≤ z ∧ okL z e ∧ okE z es
end
def cap : Int := 4611686018427387904
mutual
theorem szF_t {z : Nat} : ∀ (l : Leaf false) (n : Int), okF z l → 0 ≤ n → n ≤ cap → 0 ≤ szF l n → szF l n ≤ n ∧ (tF l : Int) ≤ n - szF l n
  | .str s, n, ho, h0, hn, h => by
    have hm : maxLen = 9223372036854775807 := rfl
    simp only [okF] at ho
    simp only [szF, tF, cap] at *
    rw [wrap64 (by omega) (by omega)] at h ⊢
    split at h <;> simp_all <;> omega
  | .sl _ es, n, ho, h0, hn, h => by
    have hm : maxLen = 9223372036854775807 := rfl
    simp only [okF] at ho
    simp only [szF, tF] at *
    rw [wrap64 (by simp only [cap] at hn; omega) (by simp only [cap] at hn; omega)] at h ⊢
    by_cases hl : n - (es.length : Int) < 0
    · simp [hl] at h
    · simp only [hl, if_false] at h ⊢
      have := szE_t es (n - es.length) ho.2 (by omega) (by omega) h
      omega
  | .bool _, n, _, _, _, _ => by simp [szF, tF]
  | .int _ _, n, _, _, _, _ => by simp [szF, tF]
  | .unk, n, _, _, _, _ => by simp [szF, tF]
  | .nl _, n, _, _, _, _ => by simp [szF, tF]
theorem szL_t {z : Nat} : ∀ (l : List (Leaf false)) (n : Int), okL z l → 0 ≤ n → n ≤ cap → 0 ≤ szL l n → szL l n ≤ n ∧ (tL l : Int) ≤ n - szL l n
  | [], n, _, _, _, _ => by simp [szL, tL]
  | l :: r, n, ho, h0, hn, h => by
    simp only [okL] at ho
    simp only [szL, tL] at *
    by_cases hl : szF l n < 0
    · simp [hl] at h
    · simp only [hl, if_false] at h ⊢
      have h1 := szF_t l n ho.1 h0 hn (by omega)
      have h2 := szL_t r _ ho.2 (by omega) (by omega) h
      omega
theorem szE_t {z : Nat} : ∀ (l : List (List (Leaf false))) (n : Int), okE z l → 0 ≤ n → n ≤ cap → 0 ≤ szE l n → szE l n ≤ n ∧ (tE l : Int) ≤ n - szE l n
  | [], n, _, _, _, _ => by simp [szE, tE]
  | e :: r, n, ho, h0, hn, h => by
    simp only [okE] at ho
    simp only [szE, tE] at *
    by_cases hl : szL e n < 0
    · simp [hl] at h
    · simp only [hl, if_false] at h ⊢
      have h1 := szL_t e n ho.2.1 h0 hn (by omega)
      have h2 := szE_t r _ ho.2.2 (by omega) (by omega) h
      omega
end
mutual
theorem mkF_t {z : Nat} : ∀ (l : Leaf false) (k : Int), okF z l → 0 ≤ k → k + 1 + z * tF l ≤ cap → k ≤ mkF l k ∧ mkF l k ≤ k + 1 + z * tF l
  | .str s, k, _, h0, hn => by simp only [mkF, tF, cap] at *; rw [wrap64 (by omega) (by omega)]; omega
  | .bool s, k, _, h0, hn => by simp only [mkF, tF, cap] at *; rw [wrap64 (by omega) (by omega)]; omega
  | .int _ s, k, _, h0, hn => by simp only [mkF, tF, cap] at *; rw [wrap64 (by omega) (by omega)]; omega
  | .unk, k, _, h0, hn => by simp only [mkF, tF]; omega
  | .nl _, k, _, h0, hn => by simp only [mkF, tF]; omega
  | .sl _ es, k, ho, h0, hn => by
    simp only [okF] at ho
    simp only [mkF, tF] at *
    have e : (z : Int) * ((es.length + tE es : Nat) : Int) = z * es.length + z * tE es := by push_cast; rw [Int.mul_add]
    rw [e] at hn ⊢
    have := mkE_t es k ho.2 h0 (by omega)
    omega
theorem mkL_t {z : Nat} : ∀ (l : List (Leaf false)) (k : Int), okL z l → 0 ≤ k → k + l.length + z * tL l ≤ cap → k ≤ mkL l k ∧ mkL l k ≤ k + l.length + z * tL l
  | [], k, _, _, _ => by simp [mkL, tL]
  | l :: r, k, ho, h0, hn => by
    simp only [okL] at ho
    have e : (z : Int) * ((tF l + tL r : Nat) : Int) = z * tF l + z * tL r := by push_cast; rw [Int.mul_add]
    have e2 : (((l :: r).length : Nat) : Int) = r.length + 1 := by simp
    rw [show tL (l :: r) = tF l + tL r by simp [tL], e, e2] at hn ⊢
    rw [show mkL (l :: r) k = mkL r (mkF l k) by simp [mkL]]
    have p1 : 0 ≤ (z : Int) * tF l := Int.mul_nonneg (by omega) (by omega)
    have p2 : 0 ≤ (z : Int) * tL r := Int.mul_nonneg (by omega) (by omega)
    have h1 := mkF_t l k ho.1 h0 (by omega)
    have h2 := mkL_t r (mkF l k) ho.2 (by omega) (by omega)
    omega
theorem mkE_t {z : Nat} : ∀ (l : List (List (Leaf false))) (k : Int), okE z l → 0 ≤ k → k + z * l.length + z * tE l ≤ cap → k ≤ mkE l k ∧ mkE l k ≤ k + z * l.length + z * tE l
  | [], k, _, _, _ => by simp [mkE, tE]
  | e :: r, k, ho, h0, hn => by
    simp only [okE] at ho
    have e1 : (z : Int) * ((tL e + tE r : Nat) : Int) = z * tL e + z * tE r := by push_cast; rw [Int.mul_add]
    have e2 : (z : Int) * (((e :: r).length : Nat) : Int) = z * r.length + z := by rw [List.length_cons]; push_cast; rw [Int.mul_add, Int.mul_one]
    rw [show tE (e :: r) = tL e + tE r by simp [tE], e1, e2] at hn ⊢
    rw [show mkE (e :: r) k = mkE r (mkL e k) by simp [mkE]]
    have p1 : 0 ≤ (z : Int) * tL e := Int.mul_nonneg (by omega) (by omega)
    have p2 : 0 ≤ (z : Int) * tE r := Int.mul_nonneg (by omega) (by omega)
    have p3 : 0 ≤ (z : Int) * r.length := Int.mul_nonneg (by omega) (by omega)
    have h1 := mkL_t e k ho.2.1 h0 (by omega)
    have h2 := mkE_t r (mkL e k) ho.2.2 (by omega) (by omega)
    omega
end
theorem getD_lt {m : Bool} {l : List (List (Leaf m))} {i : Nat} (h : i < l.length) : l.getD i [] = l[i] := by simp [List.getD, h]
theorem drop_at {α : Type} {l : List α} {i : Nat} (h : i < l.length) : l.drop i = l[i] :: l.drop (i + 1) := List.drop_eq_getElem_cons h
theorem sized_all {m : Bool} {z : Nat} {es : List (List (Leaf m))} (h : ∀ e ∈ es, e.length = z) : sized z es = true := by
  simp only [sized, List.all_eq_true, beq_iff_eq]; exact h
theorem reE_all {m m' : Bool} {φ : Fl m → Fl m'} {z : Nat} {es : List (List (Leaf m))} (h : ∀ e ∈ es, e.length = z) : ∀ e ∈ reE φ es, e.length = z := by
  intro e he
  rw [reE_map] at he
  obtain ⟨x, hx, rfl⟩ := List.mem_map.1 he
  rw [reL_length]; exact h x hx
theorem reE_get {m m' : Bool} {φ : Fl m → Fl m'} {es : List (List (Leaf m))} {i : Nat} (h : i < (reE φ es).length) : (reE φ es)[i] = reL φ (es[i]'(by rwa [reE_length] at h)) := by
  simp only [reE_map, List.getElem_map]
theorem reE_getD {m m' : Bool} {φ : Fl m → Fl m'} {es : List (List (Leaf m))} {i : Nat} (h : i < es.length) : (reE φ es).getD i [] = reL φ es[i] := by
  rw [getD_lt (by rwa [reE_length]), reE_get (by rwa [reE_length])]
theorem soL_map : ∀ l : List (Leaf false), soL l = l.map soF
  | [] => by rw [soL]; rfl
  | l :: r => by rw [soL, List.map_cons, soL_map r]
theorem soE_map : ∀ l : List (List (Leaf false)), soE l = l.map soL
  | [] => by rw [soE]; rfl
  | l :: r => by rw [soE, List.map_cons, soE_map r]
theorem soE_length (l : List (List (Leaf false))) : (soE l).length = l.length := by rw [soE_map, List.length_map]
theorem soE_all {z : Nat} {es : List (List (Leaf false))} (h : ∀ e ∈ es, e.length = z) : ∀ e ∈ soE es, e.length = z := by
  intro e he
  rw [soE_map] at he
  obtain ⟨x, hx, rfl⟩ := List.mem_map.1 he
  rw [soL_map, List.length_map]; exact h x hx
theorem soE_getD {es : List (List (Leaf false))} {i : Nat} (h : i < es.length) : (soE es).getD i [] = soL es[i] := by
  rw [soE_map, List.getD_eq_getElem?_getD, List.getElem?_map, List.getElem?_eq_getElem h]; rfl
theorem okE_of {z : Nat} : ∀ {es : List (List (Leaf false))}, (∀ e ∈ es, e.length ≤ z ∧ okL z e) → okE z es
  | [], _ => by simp [okE]
  | e :: r, h => by
    simp only [okE]
    exact ⟨(h e (by simp)).1, (h e (by simp)).2, okE_of fun x hx => h x (by simp [hx])⟩
theorem tE_mem : ∀ {es : List (List (Leaf false))} {e : List (Leaf false)}, e ∈ es → tL e ≤ tE es
  | x :: r, e, h => by
    simp only [tE]
    rcases List.mem_cons.1 h with rfl | h
    · omega
    · have := tE_mem h; omega
def IsStr (e : List (Leaf false)) : Prop := ∃ s : ByteArray, e = [.str s] ∧ s.size ≤ maxLen
theorem IsStr.len {e : List (Leaf false)} (h : IsStr e) : e.length = 1 := by obtain ⟨s, rfl, _⟩ := h; rfl
theorem IsStr.ok {e : List (Leaf false)} (h : IsStr e) : okL 16 e := by obtain ⟨s, rfl, hs⟩ := h; simp only [okL, okF]; exact ⟨hs, trivial⟩
theorem soft_isSoft : Fl.isSoft fSoft = true := rfl
theorem ite_yes {α : Type} {p : Prop} [Decidable p] {a b : α} (h : p) : (if p then a else b) = a := if_pos h
end Go.Vs
namespace Go.Vs
variable {m : Bool}
theorem putAt_two {v l1 l2 : List (SV m)} {p q : Nat} (hq : q = p + l1.length) (h : p + l1.length + l2.length ≤ v.length) : putAt (putAt v p l1) q l2 = putAt v p (l1 ++ l2) := by
  subst hq
  unfold putAt
  have h1 : (v.take p).length = p := by rw [List.length_take]; omega
  have e1 : (v.take p ++ l1 ++ v.drop (p + l1.length)).take (p + l1.length) = v.take p ++ l1 := by
    rw [List.take_append_of_le_length (by rw [List.length_append, h1]; omega), List.take_of_length_le (by rw [List.length_append, h1]; omega)]
  have e2 : (v.take p ++ l1 ++ v.drop (p + l1.length)).drop (p + l1.length + l2.length) = v.drop (p + (l1.length + l2.length)) := by
    rw [List.drop_append, List.drop_of_length_le (by rw [List.length_append, h1]; omega), List.nil_append, List.drop_drop, List.length_append, h1]
    congr 1; omega
  rw [e1, e2, List.length_append]
  simp only [List.append_assoc]
theorem putAt_length {v l : List (SV m)} {p : Nat} (h : p + l.length ≤ v.length) : (putAt v p l).length = v.length := by
  unfold putAt
  simp only [List.length_append, List.length_take, List.length_drop]
  omega
theorem flatten_get {α : Type} {z : Nat} : ∀ {l : List (List α)} {i o : Nat} (hl : ∀ e ∈ l, e.length = z) (hi : i < l.length) (ho : o < z), l.flatten[i * z + o]? = (l[i])[o]?
  | e :: l, 0, o, hl, hi, ho => by
    rw [List.flatten_cons, List.getElem?_append_left (by rw [hl e (by simp)]; omega)]
    simp
  | e :: l, i + 1, o, hl, hi, ho => by
    have he := hl e (by simp)
    rw [List.flatten_cons, List.getElem?_append_right (by rw [he, Nat.add_mul]; omega), he]
    have : (i + 1) * z + o - z = i * z + o := by rw [Nat.add_mul]; omega
    rw [this, List.getElem_cons_succ]
    exact flatten_get (fun e h => hl e (by simp [h])) (by simpa using hi) ho
theorem atSV_row {β : Type} {l : List (List (Leaf m))} {z : Nat} {r : List (SV m)} {i o p : Nat} (hl : ∀ e ∈ l, e.length = z) (hi : i < l.length) (ho : o < z) (hp : p = i * z + o) (k : SV m → Option β) :
    atSV (rowAt l l.length r) p k = k (.leaf ((l[i])[o]'(by rw [hl _ (List.getElem_mem hi)]; exact ho))) := by
  subst hp
  have hlen : l.flatten.length = l.length * z := flatten_len hl
  have hm : i * z + o < l.flatten.length := by
    rw [hlen]
    have : (i + 1) * z ≤ l.length * z := Nat.mul_le_mul_right z hi
    rw [Nat.add_mul] at this; omega
  unfold atSV rowAt
  rw [List.take_length, List.getElem?_append_left (by rw [List.length_map]; exact hm), List.getElem?_map, flatten_get hl hi ho, List.getElem?_eq_getElem (by rw [hl _ (List.getElem_mem hi)]; exact ho)]
  rfl
theorem rowAt_flat {l : List (List (Leaf m))} {i : Nat} {r : List (SV m)} (h : r.all SV.flat = true) : (rowAt l i r).all SV.flat = true := by
  unfold rowAt
  rw [List.all_append, h, Bool.and_true, List.all_map]
  exact List.all_eq_true.2 fun _ _ => rfl
end Go.Vs
namespace Go.Vs
def msL : List (Leaf false) → Int → Int
  | [], k => k
  | .sl _ es :: r, k => msL r (mkE es k)
  | .bool _ :: r, k => msL r k
  | .int _ _ :: r, k => msL r k
  | .str _ :: r, k => msL r k
  | .unk :: r, k => msL r k
  | .nl _ :: r, k => msL r k
theorem msL_t {z : Nat} : ∀ (l : List (Leaf false)) (k : Int), okL z l → 0 ≤ k → k + z * tL l ≤ cap → k ≤ msL l k ∧ msL l k ≤ k + z * tL l
  | [], k, _, _, _ => by simp [msL, tL]
  | .sl c es :: r, k, ho, h0, hn => by
    simp only [okL, okF] at ho
    have e1 : (z : Int) * ((tL (.sl c es :: r) : Nat) : Int) = z * es.length + z * tE es + z * tL r := by
      rw [show tL (.sl c es :: r) = es.length + tE es + tL r by simp [tL, tF]]
      push_cast; rw [Int.mul_add, Int.mul_add]
    rw [e1] at hn ⊢
    rw [show msL (.sl c es :: r) k = msL r (mkE es k) by simp [msL]]
    have p1 : 0 ≤ (z : Int) * es.length := Int.mul_nonneg (by omega) (by omega)
    have p2 : 0 ≤ (z : Int) * tE es := Int.mul_nonneg (by omega) (by omega)
    have p3 : 0 ≤ (z : Int) * tL r := Int.mul_nonneg (by omega) (by omega)
    have h1 := mkE_t es k ho.1.2 h0 (by omega)
    have h2 := msL_t r (mkE es k) ho.2 (by omega) (by omega)
    omega
  | .bool b :: r, k, ho, h0, hn => by
    simp only [okL] at ho
    have e : tL (.bool b :: r) = tL r := by simp [tL, tF]
    rw [e] at hn ⊢
    exact msL_t r k ho.2 h0 hn
  | .int kk b :: r, k, ho, h0, hn => by
    simp only [okL] at ho
    have e : tL (.int kk b :: r) = tL r := by simp [tL, tF]
    rw [e] at hn ⊢
    exact msL_t r k ho.2 h0 hn
  | .str b :: r, k, ho, h0, hn => by
    simp only [okL] at ho
    have e : tL (.str b :: r) = tL r := by simp [tL, tF]
    rw [e] at hn ⊢
    exact msL_t r k ho.2 h0 hn
  | .unk :: r, k, ho, h0, hn => by
    simp only [okL] at ho
    have e : tL (.unk :: r) = tL r := by simp [tL, tF]
    rw [e] at hn ⊢
    exact msL_t r k ho.2 h0 hn
  | .nl b :: r, k, ho, h0, hn => by
    simp only [okL] at ho
    have e : tL (.nl b :: r) = tL r := by simp [tL, tF]
    rw [e] at hn ⊢
    exact msL_t r k ho.2 h0 hn
end Go.Vs
end
section
open Go Go.Vs Go.Proofs
namespace Go.Vs
noncomputable abbrev atA {m : Bool} (D : Oracle m) (f : FuncId) (x : List Nat × St m) : Ret m := atF Tryd.prog D Hs f x.1 0 x.2
end Go.Vs
end
section
open Go Go.Vs Go.Proofs
set_option maxRecDepth 100000
set_option linter.unusedVariables false
namespace Go.Vs
def laws_FnExactPartsBy_s0 (s0 : ByteArray) : St true := St.mk [.leaf (.str s0),.any,.any,.any,.any,.any,.any,.any,.any,.any,.any,.any,.any,.any,.any,.any,.any,.any,.any,.any,.any,.any,.any,.any,.any,.any,.any,.any,.any,.any,.any,.any,.any,.any,.any,.any,.any,.any,.any,.any,.any,.any,.any,.any] [none,none,none,none,none,none,none,none,none,none,none,none,none,none,none,none,none,none,none,none,none,none,none,none,none,none,none,none,none,none,none,none,none,none,none,none,none,none,none,none,none,none,none,none]
theorem laws_FnExactPartsBy_c0 (D : Oracle true) (J : PT → Ret true) (s0 : ByteArray) : nameF Tryd.prog D Hs F.laws_FnExactPartsBy [way 3] 0 J (way 0,laws_FnExactPartsBy_s0 s0) = branch (decide ((↑s0.size : Int) > 1048576)) (some (.leaf (.bool true),[])) ((D F.spec_PartsBy [.leaf (.str s0)] []).bind fun r => svOwnK T.string r.fst fun es => J (way 3,St.mk [.leaf (.str s0),.any,.any,.own (some T.string) es,.any,.any,.any,.any,.any,.any,.any,.any,.any,.any,.any,.any,.any,.any,.any,.any,.any,.any,.any,.any,.any,.any,.any,.any,.any,.any,.any,.any,.any,.any,.any,.any,.any,.any,.any,.any,.any,.any,.any,.any] [none,none,none,none,none,none,none,none,none,none,none,none,none,none,none,none,none,none,none,none,none,none,none,none,none,none,none,none,none,none,none,none,none,none,none,none,none,none,none,none,none,none,none,none])) := by revert J; refine id ?_; intro J; kernel_rfl
def laws_FnExactPartsBy_s1 (s0 : ByteArray) (c3 : Fl true) (e3 : LT) : St true := St.mk [.leaf (.str s0),.any,.any,.leaf (.sl c3 e3),.any,.any,.any,.any,.any,.any,.any,.any,.any,.any,.any,.any,.any,.any,.any,.any,.any,.any,.any,.any,.any,.any,.any,.any,.any,.any,.any,.any,.any,.any,.any,.any,.any,.any,.any,.any,.any,.any,.any,.any] [none,none,none,none,none,none,none,none,none,none,none,none,none,none,none,none,none,none,none,none,none,none,none,none,none,none,none,none,none,none,none,none,none,none,none,none,none,none,none,none,none,none,none,none]
theorem laws_FnExactPartsBy_c1 (D : Oracle true) (J : PT → Ret true) (s0 : ByteArray) (c3 : Fl true) (e3 : LT) : nameF Tryd.prog D Hs F.laws_FnExactPartsBy [way 5] 0 J (way 3,laws_FnExactPartsBy_s1 s0 c3 e3) = (D F.impl_PartsBy [.leaf (.str s0)] []).bind fun r => svOwnK T.string r.fst fun es => (D F.laws_eqStringS [.leaf (.sl fNew es),.leaf (.sl c3 e3)] []).bind fun r => svLeafK r.fst fun l => boolK l fun b => branch (!b) (some (.leaf (.bool false),[])) (J (way 5,St.mk [.leaf (.str s0),.any,.any,.leaf (.sl c3 e3),.own (some T.string) es,.any,.any,.any,.any,.any,.any,.any,.any,.any,.any,.any,.any,.any,.any,.any,.any,.any,.any,.any,.any,.any,.any,.any,.any,.any,.any,.any,.any,.any,.any,.any,.any,.any,.any,.any,.any,.any,.any,.any] [none,none,none,none,none,none,none,none,none,none,none,none,none,none,none,none,none,none,none,none,none,none,none,none,none,none,none,none,none,none,none,none,none,none,none,none,none,none,none,none,none,none,none,none])) := by revert J; refine id ?_; intro J; kernel_rfl
def laws_FnExactPartsBy_s2 (s0 : ByteArray) (c3 : Fl true) (e3 : LT) (c4 : Fl true) (e4 : LT) : St true := St.mk [.leaf (.str s0),.any,.any,.leaf (.sl c3 e3),.leaf (.sl c4 e4),.any,.any,.any,.any,.any,.any,.any,.any,.any,.any,.any,.any,.any,.any,.any,.any,.any,.any,.any,.any,.any,.any,.any,.any,.any,.any,.any,.any,.any,.any,.any,.any,.any,.any,.any,.any,.any,.any,.any] [none,none,none,none,none,none,none,none,none,none,none,none,none,none,none,none,none,none,none,none,none,none,none,none,none,none,none,none,none,none,none,none,none,none,none,none,none,none,none,none,none,none,none,none]
theorem laws_FnExactPartsBy_c2 (D : Oracle true) (J : PT → Ret true) (s0 : ByteArray) (c3 : Fl true) (e3 : LT) (c4 : Fl true) (e4 : LT) : nameF Tryd.prog D Hs F.laws_FnExactPartsBy [] 0 J (way 5,laws_FnExactPartsBy_s2 s0 c3 e3 c4 e4) = (D F.laws_markStringS [.leaf (.sl c4 e4),.leaf (.int .i64 1)] []).bind fun r => lastB r.snd (svLeafK r.fst fun l => intK .i64 l fun n => (D F.laws_heldStringS [.leaf (.sl c4 e4),.leaf (.int .i64 1)] []).bind fun r => lastB r.snd (svLeafK r.fst fun l => intK .i64 l fun n_1 => branch (decide (n_1 < 0)) (some (.leaf (.bool false),[])) (branch (n_1 != n) (some (.leaf (.bool false),[])) ((D F.impl_PartsBy [.leaf (.str s0)] []).bind fun r => svOwnK T.string r.fst fun es => (D F.laws_eqStringS [.leaf (.sl fNew es),.leaf (.sl c3 e3)] []).bind fun r => svLeafK r.fst fun l => boolK l fun b => branch (!b) (some (.leaf (.bool false),[])) ((D F.laws_heldStringS [.leaf (.sl c4 e4),.leaf (.int .i64 1)] []).bind fun r => lastB r.snd (svLeafK r.fst fun l => intK .i64 l fun n_2 => branch (decide (n_2 < 0)) (some (.leaf (.bool false),[])) (branch (n_2 != n) (some (.leaf (.bool false),[])) (some (.leaf (.bool true),[]))))))))) := by revert J; refine id ?_; intro J; kernel_rfl
def laws_FnExactPartsBy_s2r (s0 : ByteArray) (c3 : Fl true) (e3 : LT) (n4 : Nat) (vx4 : List (SV true)) : St true := St.mk [.leaf (.str s0),.any,.any,.leaf (.sl c3 e3),.bsl 4 1 0 n4,.any,.any,.any,.any,.any,.any,.any,.any,.any,.any,.any,.any,.any,.any,.any,.any,.any,.any,.any,.any,.any,.any,.any,.any,.any,.any,.any,.any,.any,.any,.any,.any,.any,.any,.any,.any,.any,.any,.any] [none,none,none,none,some vx4,none,none,none,none,none,none,none,none,none,none,none,none,none,none,none,none,none,none,none,none,none,none,none,none,none,none,none,none,none,none,none,none,none,none,none,none,none,none,none]
theorem laws_FnExactPartsBy_c2r (D : Oracle true) (J : PT → Ret true) (s0 : ByteArray) (c3 : Fl true) (e3 : LT) (n4 : Nat) (vx4 : List (SV true)) : nameF Tryd.prog D Hs F.laws_FnExactPartsBy [] 0 J (way 5,laws_FnExactPartsBy_s2r s0 c3 e3 n4 vx4) = guarded ([vx4].all fun x => x.all SV.flat) ((D F.laws_markStringS [.bsl 0 1 0 n4,.leaf (.int .i64 1)] [vx4]).bind fun r => headB r.snd fun d r_1 => lastB r_1 (svLeafK r.fst fun l => intK .i64 l fun n => guarded ([d].all fun x => x.all SV.flat) ((D F.laws_heldStringS [.bsl 0 1 0 n4,.leaf (.int .i64 1)] [d]).bind fun r => headB r.snd fun d r_2 => lastB r_2 (svLeafK r.fst fun l => intK .i64 l fun n_1 => branch (decide (n_1 < 0)) (some (.leaf (.bool false),[])) (branch (n_1 != n) (some (.leaf (.bool false),[])) ((D F.impl_PartsBy [.leaf (.str s0)] []).bind fun r => svOwnK T.string r.fst fun es => (D F.laws_eqStringS [.leaf (.sl fNew es),.leaf (.sl c3 e3)] []).bind fun r => svLeafK r.fst fun l => boolK l fun b => branch (!b) (some (.leaf (.bool false),[])) (guarded ([d].all fun x => x.all SV.flat) ((D F.laws_heldStringS [.bsl 0 1 0 n4,.leaf (.int .i64 1)] [d]).bind fun r => headB r.snd fun d r_3 => lastB r_3 (svLeafK r.fst fun l => intK .i64 l fun n_2 => branch (decide (n_2 < 0)) (some (.leaf (.bool false),[])) (branch (n_2 != n) (some (.leaf (.bool false),[])) (some (.leaf (.bool true),[])))))))))))) := by revert J; refine id ?_; intro J; kernel_rfl
end Go.Vs
end
section
open Go Go.Vs Go.Proofs
set_option maxRecDepth 100000
set_option linter.unusedVariables false
namespace Go.Vs
end Go.Vs
end
section
namespace Go.Vs
open Go Go.RowKit
variable {m : Bool} {P : Program} {N : Env} {s : St m} {tmps : Array Value} {w w' : World} {F : Fr} {Ow : Own} {bm : Nat → Nat}
theorem below_keeps (h : Inv P s tmps w F N Ow bm) (hb : Below w.heap.size w w') : Keeps N w F w' F := by
  refine Keeps.mk' (fun g j hj => ?_) (fun g => Nat.le_refl _) (fun g hg => ?_) (fun g n hg => ?_)
  · have hg : g < w.heap.size := Nat.lt_of_not_le fun hn => by have := (h.new g hn).1; omega
    unfold World.cell?
    simp only [hb.block g hg]
  · obtain ⟨cur, e, hc⟩ := hg
    exact ⟨cur, e, by rw [hb.block g (Array.getElem?_eq_some_iff.1 hc).1]; exact hc⟩
  · obtain ⟨cur, e, z, hc, hn⟩ := hg
    exact ⟨cur, e, z, by rw [hb.block g (Array.getElem?_eq_some_iff.1 hc).1]; exact hc, hn⟩
theorem below_far (h : Inv P s tmps w F N Ow bm) (hb : Below w.heap.size w w') : Far N w F Ow w' F Ow :=
  ⟨hb.os, hb.tape, hb.output, hb.size, below_keeps h hb, fun g hg ho => ⟨fun _ => hb.block g hg, rfl, ho⟩⟩
theorem below_inv (h : Inv P s tmps w F N Ow bm) (hb : Below w.heap.size w w') {l : Leaf m} {v : Value} (hv : RepL w' F N l v) :
    Inv P { tmps := [SV.leaf l], boxes := ([] : List (List (SV m))).map some } #[v] w' F N Ow bm := by
  refine ⟨rfl, fun t => ?_, fun b cs hc => by simp [boxAt] at hc, h.low.to (below_keeps h hb) hb.size, fun g hg => h.new g (Nat.le_trans hb.size hg), fun b cs hc => by simp [boxAt] at hc, fun g hz => ?_⟩
  · cases t with
    | zero => exact RepS.leaf hv
    | succ t => simp only [List.getD_cons_succ, List.getD_nil]; exact RepS.any
  · obtain ⟨h1, cur, e, h2⟩ := h.zow g hz
    exact ⟨h1, cur, e, by rw [hb.block g (Nat.lt_of_lt_of_le (N.lt g hz) h.low.le)]; exact h2⟩
theorem inv_str {a : ByteArray} {bs : List (Option (List (SV m)))} (h : Inv P { tmps := [.leaf (.str a)], boxes := bs } tmps w F N Ow bm) : tmps = #[.string a] := by
  have hl := h.len
  have hs := h.slot 0
  have hv : tmps.getD 0 undef = .string a := by
    have h1 : RepL w F N (Leaf.str a : Leaf m) (tmps.getD 0 undef) := by simpa [RepS, RepF] using hs
    generalize tmps.getD 0 undef = v at h1
    cases h1; rfl
  have h1 : tmps.size = 1 := hl.symm
  apply Array.ext
  · simpa using h1
  · intro i hi hi2
    have : i = 0 := by omega
    subst this
    simpa [Array.getD, hi] using hv
end Go.Vs
end
section
open Go Go.Vs Go.Proofs
set_option maxRecDepth 100000
set_option linter.unusedVariables false
namespace Go.Vs
noncomputable section
variable (D : Oracle false)
section
variable (e3 e4 : LE) (b5 : Bool) (e6 : LE) (i7 : Int) (s0 : ByteArray)
def spec_PartsBy_A := atA D F.spec_PartsBy
def spec_PartsBy_0 : PS := ([1,1,1,1,1,0,1,0],St.mk ([.any,.any,.any,.own (some T.string) e3,.own (some T.uint8) e4,vbool b5,.own (some T.string) e6,vint i7] ++ anyS 37) (noB 45))
def spec_PartsBy_1 : PS := ([1,1,1,1,1,0,1,0,0,1,1],St.mk ([.any,.any,.any,.own (some T.string) e3,.own (some T.uint8) e4,vbool b5,.own (some T.string) e6,vint i7] ++ anyS 37) (noB 45))
def spec_PartsBy_2 : PS := ([1,1,1,1,1,0,1,0,0,1,0,0,1,1],St.mk ([.any,.any,.any,.own (some T.string) e3,.own (some T.uint8) e4,.any,.own (some T.string) e6,vint i7] ++ anyS 37) (noB 45))
def spec_PartsBy_N : List (List Nat) := [[1,1,1,1,1,0,1,0],[1,1,1,1,1,0,1,0,0,1,1],[1,1,1,1,1,0,1,0,0,1,0,0,1,1]]
theorem spec_PartsBy_0_eq : spec_PartsBy_A D (spec_PartsBy_0 e3 e4 b5 e6 i7) = branch (decide (i7 < (↑e6.length : Int))) (guarded (decide (0 ≤ i7) && decide (i7 < (↑e6.length : Int)) && sized 1 e6) (aStr (e6.getD i7.toNat []) 0 fun s => branch (s.toList == (ByteArray.mk #[61,61]).toList) (guarded (e4.all isByte) (guarded (decide ((e3.length + 1) * 16 ≤ maxBytes) && true) (spec_PartsBy_A D (spec_PartsBy_1 (e3 ++ [[.str (ByteArray.mk (List.map (byteOf (m := false)) e4).toArray)]]) [] true e6 i7)))) (branch (!b5) (guarded (decide ((e4.length + 1) * 1 ≤ maxBytes) && true) (spec_PartsBy_A D (spec_PartsBy_2 e3 (e4 ++ [[.int IntKind.u8 10]]) e6 i7))) (spec_PartsBy_A D (spec_PartsBy_2 e3 e4 e6 i7))))) (guarded (e4.all isByte) (guarded (decide ((e3.length + 1) * 16 ≤ maxBytes) && true) (some (.own (some T.string) (e3 ++ [[.str (ByteArray.mk (List.map (byteOf (m := false)) e4).toArray)]]),[])))) := by refine (nameF_eq (J := spec_PartsBy_A D) (fun _ _ => rfl) spec_PartsBy_N _).trans ?_; generalize spec_PartsBy_A D = J; revert J; refine id ?_; intro J; kernel_rfl
theorem spec_PartsBy_1_eq : spec_PartsBy_A D (spec_PartsBy_1 e3 e4 b5 e6 i7) = spec_PartsBy_A D (spec_PartsBy_0 e3 e4 b5 e6 (IntKind.i64.wrap (i7 + 1))) := by refine (nameF_eq (J := spec_PartsBy_A D) (fun _ _ => rfl) spec_PartsBy_N _).trans ?_; generalize spec_PartsBy_A D = J; revert J; refine id ?_; intro J; kernel_rfl
theorem spec_PartsBy_2_eq : spec_PartsBy_A D (spec_PartsBy_2 e3 e4 e6 i7) = guarded (decide (0 ≤ i7) && decide (i7 < (↑e6.length : Int)) && sized 1 e6) (aStr (e6.getD i7.toNat []) 0 fun s => guarded (decide (e4.length + s.size ≤ maxBytes)) (spec_PartsBy_A D (spec_PartsBy_1 e3 (e4 ++ List.map (fun b => [.int IntKind.u8 (↑b.toNat : Int)]) s.data.toList) false e6 i7))) := by refine (nameF_eq (J := spec_PartsBy_A D) (fun _ _ => rfl) spec_PartsBy_N _).trans ?_; generalize spec_PartsBy_A D = J; revert J; refine id ?_; intro J; kernel_rfl
theorem run_spec_PartsBy : run2V Tryd.prog D Hs limR F.spec_PartsBy [.leaf (.str s0)] [] = rOwn T.string (D F.spec_l33Lines [.leaf (.str s0)] []) fun es => spec_PartsBy_A D (spec_PartsBy_0 [] [] true es 0) := by refine (run_names (J := spec_PartsBy_A D) (by kernel_rfl) (fun _ _ => rfl) [[1,1,1,1,1,0,1,0],[1,1,1,1,1,0,1,0,0,1,1],[1,1,1,1,1,0,1,0,0,1,0,0,1,1]]).trans ?_; generalize spec_PartsBy_A D = J; revert J; refine id ?_; intro J; kernel_rfl
end
section
variable (e3 e4 e10 : LE) (i11 i12 : Int) (s0 : ByteArray)
def impl_PartsBy_A := atA D F.impl_PartsBy
def impl_PartsBy_0 : PS := ([1,1,1,0,1,0],St.mk ([.any,.any,.any,.own (some T.string) e3,.own (some T.string) e4] ++ anyS 5 ++ [.own (some T.string) e10,vint i11,vint i12] ++ anyS 20) (noB 33))
def impl_PartsBy_1 : PS := ([1,1,1,0,1,0,0,1,1,1],St.mk ([.any,.any,.any,.own (some T.string) e3,.own (some T.string) e4] ++ anyS 5 ++ [.own (some T.string) e10,vint i11,vint i12] ++ anyS 20) (noB 33))
def impl_PartsBy_N : List (List Nat) := [[1,1,1,0,1,0],[1,1,1,0,1,0,0,1,1,1]]
theorem impl_PartsBy_0_eq : impl_PartsBy_A D (impl_PartsBy_0 e3 e4 e10 i11 i12) = branch (decide (i12 < i11)) (guarded (decide (0 ≤ i12) && decide (i12 < (↑e10.length : Int)) && sized 1 e10) (aStr (e10.getD i12.toNat []) 0 fun s => branch (s.toList == (ByteArray.mk #[61,61]).toList) (rStr (D F.strings_Join [vsl e4,.leaf (.str (ByteArray.mk #[10]))] []) fun s => guarded (decide ((e3.length + 1) * 16 ≤ maxBytes) && true) (impl_PartsBy_A D (impl_PartsBy_1 (e3 ++ [[.str s]]) [] e10 i11 i12))) (guarded (decide ((e4.length + 1) * 16 ≤ maxBytes) && true) (impl_PartsBy_A D (impl_PartsBy_1 e3 (e4 ++ [[.str s]]) e10 i11 i12))))) (rStr (D F.strings_Join [vsl e4,.leaf (.str (ByteArray.mk #[10]))] []) fun s => guarded (decide ((e3.length + 1) * 16 ≤ maxBytes) && true) (some (.own (some T.string) (e3 ++ [[.str s]]),[]))) := by refine (nameF_eq (J := impl_PartsBy_A D) (fun _ _ => rfl) impl_PartsBy_N _).trans ?_; generalize impl_PartsBy_A D = J; revert J; refine id ?_; intro J; kernel_rfl
theorem impl_PartsBy_1_eq : impl_PartsBy_A D (impl_PartsBy_1 e3 e4 e10 i11 i12) = impl_PartsBy_A D (impl_PartsBy_0 e3 e4 e10 i11 (IntKind.i64.wrap (i12 + 1))) := by refine (nameF_eq (J := impl_PartsBy_A D) (fun _ _ => rfl) impl_PartsBy_N _).trans ?_; generalize impl_PartsBy_A D = J; revert J; refine id ?_; intro J; kernel_rfl
theorem run_impl_PartsBy : run2V Tryd.prog D Hs limR F.impl_PartsBy [.leaf (.str s0)] [] = rOwn T.string (D F.strings_Split [.leaf (.str s0),.leaf (.str (ByteArray.mk #[10]))] []) fun es => impl_PartsBy_A D (impl_PartsBy_0 [] [] es (↑es.length : Int) 0) := by refine (run_names (J := impl_PartsBy_A D) (by kernel_rfl) (fun _ _ => rfl) [[1,1,1,0,1,0],[1,1,1,0,1,0,0,1,1,1]]).trans ?_; generalize impl_PartsBy_A D = J; revert J; refine id ?_; intro J; kernel_rfl
end
section
variable (e0 e1 : LE) (i5 : Int)
def laws_eqStringS_A := atA D F.laws_eqStringS
def laws_eqStringS_0 : PS := ([1,1,0,1,0],St.mk ([vsl e0,vsl e1,.any,.any,.any,vint i5] ++ anyS 20) (noB 26))
theorem laws_eqStringS_0_eq : laws_eqStringS_A D (laws_eqStringS_0 e0 e1 i5) = branch (decide (i5 < (↑e0.length : Int))) (guarded (decide (0 ≤ i5) && decide (i5 < (↑e0.length : Int)) && sized 1 e0) (atK (e0.getD i5.toNat []) 0 fun l => strK l fun s => guarded (decide (0 ≤ i5) && decide (i5 < (↑e1.length : Int)) && sized 1 e1) (atK (e1.getD i5.toNat []) 0 fun l => strK l fun s_1 => branch (!s.toList == s_1.toList) (some (vbool false,[])) (laws_eqStringS_A D (laws_eqStringS_0 e0 e1 (IntKind.i64.wrap (i5 + 1))))))) (some (vbool true,[])) := by refine (nameF_eq (J := laws_eqStringS_A D) (fun _ _ => rfl) [[1,1,0,1,0]] _).trans ?_; generalize laws_eqStringS_A D = J; revert J; refine id ?_; intro J; kernel_rfl
theorem run_laws_eqStringS : run2V Tryd.prog D Hs limR F.laws_eqStringS [vsl e0,vsl e1] [] = branch ((↑e0.length : Int) != (↑e1.length : Int)) (some (vbool false,[])) (laws_eqStringS_A D (laws_eqStringS_0 e0 e1 0)) := by refine (run_names (J := laws_eqStringS_A D) (by kernel_rfl) (fun _ _ => rfl) [[1,1,0,1,0]]).trans ?_; generalize laws_eqStringS_A D = J; revert J; refine id ?_; intro J; kernel_rfl
end
section
variable (n0 : Nat) (i1 i5 : Int) (vx20 vb0 : List (SV false))
def laws_markStringS_r0_A (x : PS) : Ret false := atF Tryd.prog D Hs F.laws_markStringS x.1 1 x.2
def laws_markStringS_r0_0 : PS := ([1,0,1,0],St.mk ([.bsl 20 1 0 n0,vint i1,.any,.any,.any,vint i5] ++ anyS 14) (noB 20 ++ [some vx20]))
theorem laws_markStringS_r0_0_eq : laws_markStringS_r0_A D (laws_markStringS_r0_0 n0 i1 i5 vx20) = branch (decide (i5 < (↑n0 : Int))) ((D F.laws_markText [vint i1] []).bind fun r => svLeafK r.fst fun l => strK l fun s => guarded (decide (0 ≤ i5) && decide (i5 < (↑n0 : Int))) (guarded (decide ((0 + i5.toNat) * 1 + 1 ≤ vx20.length)) (laws_markStringS_r0_A D (laws_markStringS_r0_0 n0 (IntKind.i64.wrap (i1 + 1)) (IntKind.i64.wrap (i5 + 1)) (putAt vx20 ((0 + i5.toNat) * 1) [.leaf (.str s)]))))) (guarded ([vx20].all fun x => x.all SV.flat) (some (vint i1,[vx20]))) := by refine (nameF_eq (J := laws_markStringS_r0_A D) (fun _ _ => rfl) [[1,0,1,0]] _).trans ?_; generalize laws_markStringS_r0_A D = J; revert J; refine id ?_; intro J; kernel_rfl
theorem run_laws_markStringS_r0 : run2V Tryd.prog D Hs limR F.laws_markStringS [.bsl 0 1 0 n0,vint i1] [vb0] = laws_markStringS_r0_A D (laws_markStringS_r0_0 n0 i1 0 vb0) := by refine (run_names (J := laws_markStringS_r0_A D) (by kernel_rfl) (fun _ _ => rfl) [[1,0,1,0]]).trans ?_; generalize laws_markStringS_r0_A D = J; revert J; refine id ?_; intro J; kernel_rfl
end
section
variable (e0 : LE) (i1 : Int)
def laws_markStringS_A := atA D F.laws_markStringS
def laws_markStringS_0 : PS := ([1,0,1,0],St.mk ([vsl e0,vint i1,.any,.any,.any,vint 0] ++ anyS 14) (noB 20))
theorem laws_markStringS_0_eq : laws_markStringS_A D (laws_markStringS_0 e0 i1) = branch (decide (0 < (↑e0.length : Int))) ((D F.laws_markText [vint i1] []).bind fun r => svLeafK r.fst fun l => strK l fun s => guarded (decide (0 < (↑e0.length : Int)) && sized 1 e0) none) (some (vint i1,[])) := by refine (nameF_eq (J := laws_markStringS_A D) (fun _ _ => rfl) [[1,0,1,0]] _).trans ?_; generalize laws_markStringS_A D = J; revert J; refine id ?_; intro J; kernel_rfl
theorem run_laws_markStringS : run2V Tryd.prog D Hs limR F.laws_markStringS [vsl e0,vint i1] [] = laws_markStringS_A D (laws_markStringS_0 e0 i1) := by refine (run_names (J := laws_markStringS_A D) (by kernel_rfl) (fun _ _ => rfl) [[1,0,1,0]]).trans ?_; generalize laws_markStringS_A D = J; revert J; refine id ?_; intro J; kernel_rfl
end
section
variable (n0 : Nat) (i1 i5 : Int) (vx22 vb0 : List (SV false))
def laws_heldStringS_r0_A (x : PS) : Ret false := atF Tryd.prog D Hs F.laws_heldStringS x.1 1 x.2
def laws_heldStringS_r0_0 : PS := ([1,0,1,0],St.mk ([.bsl 22 1 0 n0,vint i1,.any,.any,.any,vint i5] ++ anyS 16) (noB 22 ++ [some vx22]))
theorem laws_heldStringS_r0_0_eq : laws_heldStringS_r0_A D (laws_heldStringS_r0_0 n0 i1 i5 vx22) = branch (decide (i5 < (↑n0 : Int))) (guarded (decide (0 ≤ i5) && decide (i5 < (↑n0 : Int))) (atSV vx22 ((0 + i5.toNat) * 1) fun c => svLeafK c.drop fun l => strK l fun s => (D F.laws_markText [vint i1] []).bind fun r => svLeafK r.fst fun l => strK l fun s_1 => branch (!s.toList == s_1.toList) (guarded ([vx22].all fun x => x.all SV.flat) (some (vint (-1),[vx22]))) (laws_heldStringS_r0_A D (laws_heldStringS_r0_0 n0 (IntKind.i64.wrap (i1 + 1)) (IntKind.i64.wrap (i5 + 1)) vx22)))) (guarded ([vx22].all fun x => x.all SV.flat) (some (vint i1,[vx22]))) := by refine (nameF_eq (J := laws_heldStringS_r0_A D) (fun _ _ => rfl) [[1,0,1,0]] _).trans ?_; generalize laws_heldStringS_r0_A D = J; revert J; refine id ?_; intro J; kernel_rfl
theorem run_laws_heldStringS_r0 : run2V Tryd.prog D Hs limR F.laws_heldStringS [.bsl 0 1 0 n0,vint i1] [vb0] = laws_heldStringS_r0_A D (laws_heldStringS_r0_0 n0 i1 0 vb0) := by refine (run_names (J := laws_heldStringS_r0_A D) (by kernel_rfl) (fun _ _ => rfl) [[1,0,1,0]]).trans ?_; generalize laws_heldStringS_r0_A D = J; revert J; refine id ?_; intro J; kernel_rfl
end
section
variable (e0 : LE) (i1 i5 : Int)
def laws_heldStringS_A := atA D F.laws_heldStringS
def laws_heldStringS_0 : PS := ([1,0,1,0],St.mk ([vsl e0,vint i1,.any,.any,.any,vint i5] ++ anyS 16) (noB 22))
theorem laws_heldStringS_0_eq : laws_heldStringS_A D (laws_heldStringS_0 e0 i1 i5) = branch (decide (i5 < (↑e0.length : Int))) (guarded (decide (0 ≤ i5) && decide (i5 < (↑e0.length : Int)) && sized 1 e0) (atK (e0.getD i5.toNat []) 0 fun l => strK l fun s => (D F.laws_markText [vint i1] []).bind fun r => svLeafK r.fst fun l => strK l fun s_1 => branch (!s.toList == s_1.toList) (some (vint (-1),[])) (laws_heldStringS_A D (laws_heldStringS_0 e0 (IntKind.i64.wrap (i1 + 1)) (IntKind.i64.wrap (i5 + 1)))))) (some (vint i1,[])) := by refine (nameF_eq (J := laws_heldStringS_A D) (fun _ _ => rfl) [[1,0,1,0]] _).trans ?_; generalize laws_heldStringS_A D = J; revert J; refine id ?_; intro J; kernel_rfl
theorem run_laws_heldStringS : run2V Tryd.prog D Hs limR F.laws_heldStringS [vsl e0,vint i1] [] = laws_heldStringS_A D (laws_heldStringS_0 e0 i1 0) := by refine (run_names (J := laws_heldStringS_A D) (by kernel_rfl) (fun _ _ => rfl) [[1,0,1,0]]).trans ?_; generalize laws_heldStringS_A D = J; revert J; refine id ?_; intro J; kernel_rfl
end
section
variable (i0 : Int) (s3 : ByteArray)
def laws_markText_A := atA D F.laws_markText
def laws_markText_0 : PS := ([1,1,1,0,0],St.mk ([vint i0,.any,.any,.leaf (.str s3)] ++ anyS 16) (noB 20))
theorem laws_markText_0_eq : laws_markText_A D (laws_markText_0 i0 s3) = branch (decide (i0 > 0)) (guarded (decide ((ByteArray.mk (List.map (byteOf (m := false)) [[.int IntKind.u8 (IntKind.u8.wrap (IntKind.i64.wrap (48 + i0.tmod 10)))]]).toArray).size + s3.size ≤ 140737488355328)) (laws_markText_A D (laws_markText_0 (IntKind.i64.wrap (i0.tdiv 10)) (ByteArray.mk (List.map (byteOf (m := false)) [[.int IntKind.u8 (IntKind.u8.wrap (IntKind.i64.wrap (48 + i0.tmod 10)))]]).toArray ++ s3)))) (guarded (decide ((ByteArray.mk #[109]).size + s3.size ≤ 140737488355328)) (some (.leaf (.str (ByteArray.mk #[109] ++ s3)),[]))) := by refine (nameF_eq (J := laws_markText_A D) (fun _ _ => rfl) [[1,1,1,0,0]] _).trans ?_; generalize laws_markText_A D = J; revert J; refine id ?_; intro J; kernel_rfl
theorem run_laws_markText : run2V Tryd.prog D Hs limR F.laws_markText [vint i0] [] = branch (decide (i0 ≤ 0)) (some (.leaf (.str (ByteArray.mk #[109,48])),[])) (laws_markText_A D (laws_markText_0 i0 (ByteArray.mk #[]))) := by refine (run_names (J := laws_markText_A D) (by kernel_rfl) (fun _ _ => rfl) [[1,1,1,0,0]]).trans ?_; generalize laws_markText_A D = J; revert J; refine id ?_; intro J; kernel_rfl
end
section
variable (s0 : ByteArray) (e3 : LE) (i4 i5 : Int) (b22 : Bool)
def spec_l33Lines_A := atA D F.spec_l33Lines
def spec_l33Lines_0 : PS := ([1,1,1,0,1,0],St.mk ([.leaf (.str s0),.any,.any,.own (some T.string) e3,vint i4,vint i5] ++ anyS 27) (noB 33))
def spec_l33Lines_1 : PS := ([1,1,1,0,1,0,0,1,0,0,1],St.mk ([.leaf (.str s0),.any,.any,.own (some T.string) e3,vint i4,vint i5] ++ anyS 16 ++ [vbool b22] ++ anyS 10) (noB 33))
def spec_l33Lines_2 : PS := ([1,1,1,0,1,0,0,1,1],St.mk ([.leaf (.str s0),.any,.any,.own (some T.string) e3,vint i4,vint i5] ++ anyS 27) (noB 33))
def spec_l33Lines_N : List (List Nat) := [[1,1,1,0,1,0],[1,1,1,0,1,0,0,1,1],[1,1,1,0,1,0,0,1,0,0,1]]
theorem spec_l33Lines_0_eq : spec_l33Lines_A D (spec_l33Lines_0 s0 e3 i4 i5) = branch (decide (i5 ≤ (↑s0.size : Int))) (branch ((i5 == (↑s0.size : Int)) == false) (guarded (decide (0 ≤ i5) && decide (i5 < (↑s0.size : Int))) (spec_l33Lines_A D (spec_l33Lines_1 s0 e3 i4 i5 ((↑(s0.data.toList.getD i5.toNat 0).toNat : Int) == 10)))) (spec_l33Lines_A D (spec_l33Lines_1 s0 e3 i4 i5 true))) (some (.own (some T.string) e3,[])) := by refine (nameF_eq (J := spec_l33Lines_A D) (fun _ _ => rfl) spec_l33Lines_N _).trans ?_; generalize spec_l33Lines_A D = J; revert J; refine id ?_; intro J; kernel_rfl
theorem spec_l33Lines_1_eq : spec_l33Lines_A D (spec_l33Lines_1 s0 e3 i4 i5 b22) = branch b22 (guarded (decide (0 ≤ i4) && decide (0 ≤ i5) && (decide (i4.toNat ≤ i5.toNat) && decide (i5.toNat ≤ s0.size))) (guarded (decide ((e3.length + 1) * 16 ≤ maxBytes) && true) (spec_l33Lines_A D (spec_l33Lines_2 s0 (e3 ++ [[.str (s0.extract i4.toNat i5.toNat)]]) (IntKind.i64.wrap (i5 + 1)) i5)))) (spec_l33Lines_A D (spec_l33Lines_2 s0 e3 i4 i5)) := by refine (nameF_eq (J := spec_l33Lines_A D) (fun _ _ => rfl) spec_l33Lines_N _).trans ?_; generalize spec_l33Lines_A D = J; revert J; refine id ?_; intro J; kernel_rfl
theorem spec_l33Lines_2_eq : spec_l33Lines_A D (spec_l33Lines_2 s0 e3 i4 i5) = spec_l33Lines_A D (spec_l33Lines_0 s0 e3 i4 (IntKind.i64.wrap (i5 + 1))) := by refine (nameF_eq (J := spec_l33Lines_A D) (fun _ _ => rfl) spec_l33Lines_N _).trans ?_; generalize spec_l33Lines_A D = J; revert J; refine id ?_; intro J; kernel_rfl
theorem run_spec_l33Lines : run2V Tryd.prog D Hs limR F.spec_l33Lines [.leaf (.str s0)] [] = spec_l33Lines_A D (spec_l33Lines_0 s0 [] 0 0) := by refine (run_names (J := spec_l33Lines_A D) (by kernel_rfl) (fun _ _ => rfl) [[1,1,1,0,1,0],[1,1,1,0,1,0,0,1,1],[1,1,1,0,1,0,0,1,0,0,1]]).trans ?_; generalize spec_l33Lines_A D = J; revert J; refine id ?_; intro J; kernel_rfl
end
end
end Go.Vs
end
