/- Structs and slices that are built out of their parts: what the shadow runner says of the machine's. -/
import Derived.Test.YtdnbagcbdagofaaVVsMem
import Derived.Laws.Tables
namespace Go.Vs
variable {m : Bool}
variable {P : Program} {N : Env}

theorem foldl_fill : ∀ (l : List Value) (k off : Nat) (cells : Array Value), off + k + l.length ≤ cells.size →
    ((l.zipIdx k).foldl (fun (cs : Array Value) (p : Value × Nat) => cs.setIfInBounds (off + p.2) p.1) cells).toList = cells.toList.take (off + k) ++ l ++ cells.toList.drop (off + k + l.length)
  | [], k, off, cells, _ => by simp
  | v :: l, k, off, cells, h => by
    simp only [List.length_cons] at h
    rw [List.zipIdx_cons, List.foldl_cons, foldl_fill l (k + 1) off _ (by simp; omega)]
    simp only [Array.toList_setIfInBounds]
    have hlen : off + k < cells.toList.length := by have := Array.length_toList (xs := cells); omega
    have e1 : (cells.toList.set (off + k) v).take (off + (k + 1)) = cells.toList.take (off + k) ++ [v] := by
      rw [show off + (k + 1) = (off + k) + 1 by omega, List.take_add_one, List.take_set_of_le (Nat.le_refl _)]
      have hlen' : off + k < cells.size := by omega
      simp [hlen']
    have e2 : (cells.toList.set (off + k) v).drop (off + (k + 1) + l.length) = cells.toList.drop (off + k + (l.length + 1)) := by
      rw [List.drop_set_of_lt (by omega)]
      congr 1
      omega
    rw [e1, e2]
    simp

theorem fill_one (off : Nat) (v : Array Value) (cells : Array Value) (h : off + v.size ≤ cells.size) :
    (v.zipIdx.foldl (fun cs (c, j) => cs.setIfInBounds (off + j) c) cells).toList = cells.toList.take off ++ v.toList ++ cells.toList.drop (off + v.size) := by
  rw [← Array.foldl_toList, Array.toList_zipIdx]
  have := foldl_fill v.toList 0 off cells (by simpa using h)
  simpa using this

/-- The parts' values. -/
inductive PartsR (w : World) (F : Fr) (N : Env) : List (Nat × (SV m)) → List (Nat × Value) → Prop
  | nil : PartsR w F N [] []
  | cons {i : Nat} {x : (SV m)} {v : Value} {ps : List (Nat × (SV m))} {qs : List (Nat × Value)} (h : ∀ l, x.leaves = some l → RepR w F N l v.cells.toList) (t : PartsR w F N ps qs) : PartsR w F N ((i, x) :: ps) ((i, v) :: qs)

theorem RepR.set {w : World} {F : Fr} {a l : List (Leaf m)} {x v : List Value} {o : Nat} (h : RepR w F N a x) (hl : RepR w F N l v) : RepR w F N (a.take o ++ l ++ a.drop (o + l.length)) (x.take o ++ v ++ x.drop (o + v.length)) := by
  rw [hl.1]
  exact ((h.take o).append hl).append (h.drop _)

theorem fillL_run {w : World} {F : Fr} {place : Nat → Option (Nat × TypeId)} {size : TypeId → Option Nat} {places : Nat → Option (Nat × Nat)} (hp : ∀ i p n, place i = some p → size p.2 = some n → places i = some (p.1, n)) :
    ∀ {ps : List (Nat × (SV m))} {qs : List (Nat × Value)}, PartsR w F N ps qs → ∀ {cs cs' : List (Leaf m)} {vals : Array Value}, fillL place size cs ps = some cs' → RepR w F N cs vals.toList →
      ∃ vals', Instr.fill places vals qs = some vals' ∧ RepR w F N cs' vals'.toList := by
  intro ps qs h
  induction h with
  | nil => intro cs cs' vals hf hr; simp [fillL] at hf; subst hf; exact ⟨vals, rfl, hr⟩
  | @cons i x v ps qs hx _ ih =>
    intro cs cs' vals hf hr
    simp only [fillL] at hf
    rw [Option.bind_eq_some_iff] at hf
    obtain ⟨p, hp1, hf⟩ := hf
    rw [Option.bind_eq_some_iff] at hf
    obtain ⟨n, hn, hf⟩ := hf
    rw [Option.bind_eq_some_iff] at hf
    obtain ⟨l, hl, hf⟩ := hf
    split at hf
    · rename_i hc
      obtain ⟨hc1, hc2⟩ := hc
      have hv := hx l hl
      have hvs : v.cells.size = n := by have := hv.1; simp at this; omega
      have hcs : p.1 + v.cells.size ≤ vals.size := by have := hr.1; simp at this; omega
      have hone := fill_one p.1 v.cells vals hcs
      have hset := RepR.set (o := p.1) hr hv
      obtain ⟨vals', hv1, hv2⟩ := ih (vals := v.cells.zipIdx.foldl (fun cs (c, j) => cs.setIfInBounds (p.1 + j) c) vals) hf (by
        rw [hone]
        rw [hc1] at hset
        simpa using hset)
      refine ⟨vals', ?_, hv2⟩
      simp only [Instr.fill, hp i p n hp1 hn]
      rw [if_neg (by simp; omega)]
      exact hv1
    · simp at hf

theorem leavesOf_rep (w : World) (F : Fr) : ∀ (vs : List Value) (ls : List (Leaf m)), leavesOfValues vs = some ls → RepR w F N ls vs
  | [], ls, h => by simp [leavesOfValues] at h; subst h; exact RepR.nil _ _ _
  | v :: vs, ls, h => by
    simp only [leavesOfValues] at h
    rw [Option.bind_eq_some_iff] at h
    obtain ⟨l, hl, h⟩ := h
    rw [Option.map_eq_some_iff] at h
    obtain ⟨ls', hls, rfl⟩ := h
    refine RepR.cons ?_ (leavesOf_rep w F vs ls' hls)
    unfold leafOfValue at hl
    split at hl <;> simp at hl <;> subst hl
    · exact .bool _
    · exact .int _ _
    · exact .str _
    · exact repL_sl_mk (es := []) (z := 0) (vals := []) (Nat.le_refl _) (by simp) (fun h => by simp at h) (RepR.nil _ _ _)

theorem zeroLeaves_eq {t : TypeId} {ls : List (Leaf m)} (h : zeroLeaves P t = some ls) : ∃ i z, P.info? t = some i ∧ i.zero = some z ∧ leavesOfValues z.cells.toList = some ls := by
  unfold zeroLeaves at h
  rw [Option.bind_eq_some_iff] at h
  obtain ⟨i, hi, h⟩ := h
  rw [Option.bind_eq_some_iff] at h
  obtain ⟨z, hz, h⟩ := h
  exact ⟨i, z, hi, hz, h⟩

theorem fieldsInfo_eq {t : TypeId} (h : fieldsInfo P t = true) : ∃ fs places, P.underlying t = some (.struct fs) ∧ fs.toList.mapM (fun f => (P.info? f.type).map fun i => (f.offset, i.size)) = some places ∧
    ∀ (i : Nat) (p : Nat × TypeId) (n : Nat), fieldT P t i = some p → sizeT P p.2 = some n → places[i]? = some (p.1, n) := by
  unfold fieldsInfo at h
  split at h
  · rename_i fs hu
    have key : ∀ (l : List Field), (l.all fun f => (P.info? f.type).isSome) = true → ∃ places, l.mapM (fun f => (P.info? f.type).map fun i => (f.offset, i.size)) = some places ∧
        ∀ (i : Nat) (f : Field) (inf : TypeInfo), l[i]? = some f → P.info? f.type = some inf → places[i]? = some (f.offset, inf.size) := by
      intro l
      induction l with
      | nil => intro _; exact ⟨[], rfl, by simp⟩
      | cons f l ih =>
        intro hl
        simp only [List.all_cons, Bool.and_eq_true] at hl
        obtain ⟨inf, hinf⟩ := Option.isSome_iff_exists.1 hl.1
        obtain ⟨ps, h1, h2⟩ := ih hl.2
        refine ⟨(f.offset, inf.size) :: ps, by simp [List.mapM_cons, hinf, h1], fun i g q hg hq => ?_⟩
        cases i with
        | zero => simp at hg; subst hg; rw [hinf] at hq; cases hq; rfl
        | succ i => simpa using h2 i g q (by simpa using hg) hq
    obtain ⟨places, h1, h2⟩ := key fs.toList h
    refine ⟨fs, places, hu, h1, fun i p n hp hn => ?_⟩
    unfold fieldT at hp
    rw [hu] at hp
    simp only [Option.map_eq_some_iff] at hp
    obtain ⟨f, hf, rfl⟩ := hp
    obtain ⟨d, inf, hd, hinf, rfl⟩ := sizeT_eq hn
    exact h2 i f inf (by simpa using hf) hinf
  · simp at h

theorem buildV_run {w : World} {F : Fr} {t : TypeId} {ps : List (Nat × (SV m))} {qs : Array (Nat × Value)} {v : (SV m)} (h : buildV P t ps = some v) (hr : PartsR w F N ps qs.toList) :
    ∃ us, (Instr.build t qs).run P w = .ok (.agg us) w ∧ ∃ ls, v = .agg ls ∧ RepR w F N ls us.toList := by
  unfold buildV at h
  obtain ⟨hi, h⟩ := guarded_eq h
  rw [Option.bind_eq_some_iff] at h
  obtain ⟨z, hz, h⟩ := h
  rw [Option.map_eq_some_iff] at h
  obtain ⟨ls, hl, rfl⟩ := h
  obtain ⟨inf, zv, hinf, hzv, hzl⟩ := zeroLeaves_eq hz
  obtain ⟨fs, places, hu, hpl, hp⟩ := fieldsInfo_eq hi
  obtain ⟨us, hf, hrr⟩ := fillL_run (places := fun i => places.toArray[i]?) (fun i p n a b => by simpa using hp i p n a b) hr hl (leavesOf_rep w F _ _ hzl)
  exact ⟨us, run_build w t qs us (by simp only [Program.built, hinf, hu, hzv, hpl]; exact hf), ls, rfl, hrr⟩

theorem elemsV_fill {w : World} {F : Fr} {z : Nat} : ∀ {ps : List (Nat × (SV m))} {qs : List (Nat × Value)}, PartsR w F N ps qs → ∀ (k : Nat) (es : List (List (Leaf m))) (vals : Array Value), elemsV z k ps = some es → (k + ps.length) * z ≤ vals.size →
    ∃ vals', Instr.fill (fun i => some (i * z, z)) vals qs = some vals' ∧ vals'.size = vals.size ∧ vals'.toList.take (k * z) = vals.toList.take (k * z) ∧ RepR w F N es.flatten ((vals'.toList.drop (k * z)).take (ps.length * z)) ∧ es.length = ps.length ∧ ∀ e ∈ es, e.length = z := by
  intro ps qs h
  induction h with
  | nil => intro k es vals he _; simp [elemsV] at he; subst he; exact ⟨vals, rfl, rfl, rfl, by simpa using RepR.nil _ _ _, rfl, by simp⟩
  | @cons i x v ps qs hx _ ih =>
    intro k es vals he hle
    simp only [elemsV] at he
    split at he
    · rename_i hik; subst hik
      rw [Option.bind_eq_some_iff] at he
      obtain ⟨l, hl, he⟩ := he
      split at he
      · rename_i hlz
        rw [Option.map_eq_some_iff] at he
        obtain ⟨es', hes, rfl⟩ := he
        have hv := hx l hl
        have hvs : v.cells.size = z := by have := hv.1; simp at this; omega
        simp only [List.length_cons] at hle
        have hmul : (i + (ps.length + 1)) * z = i * z + z + ps.length * z := by rw [Nat.add_mul, Nat.add_mul]; omega
        have hcs : i * z + v.cells.size ≤ vals.size := by omega
        have hone := fill_one (i * z) v.cells vals hcs
        have hsz1 : (v.cells.zipIdx.foldl (fun cs (c, j) => cs.setIfInBounds (i * z + j) c) vals).size = vals.size := by
          rw [← Array.length_toList, hone]
          simp only [Array.length_toList, List.length_append, List.length_take, List.length_drop]
          omega
        obtain ⟨vals', h1, h2, h3, h4, h5, h6⟩ := ih (i + 1) es' (v.cells.zipIdx.foldl (fun cs (c, j) => cs.setIfInBounds (i * z + j) c) vals) hes (by
          rw [hsz1, show i + 1 + ps.length = i + (ps.length + 1) by omega]; exact hle)
        have hsucc : (i + 1) * z = i * z + z := Nat.succ_mul i z
        have hk : vals'.toList.take (i * z + z) = vals.toList.take (i * z) ++ v.cells.toList := by
          rw [← hsucc, h3, hone, hsucc, List.take_append_of_le_length (by simp; omega)]
          rw [List.take_of_length_le (by simp; omega)]
        refine ⟨vals', ?_, by rw [h2, hsz1], ?_, ?_, by simp [h5], by intro e he; rcases List.mem_cons.1 he with rfl | he; exact hlz; exact h6 e he⟩
        · simp only [Instr.fill]
          rw [if_neg (by simp; omega)]
          exact h1
        · have := congrArg (List.take (i * z)) hk
          rw [List.take_take, Nat.min_eq_left (by omega)] at this
          rw [this, List.take_append_of_le_length (by simp; omega), List.take_take, Nat.min_self]
        · have e1 : (vals'.toList.drop (i * z)).take ((ps.length + 1) * z) = v.cells.toList ++ (vals'.toList.drop ((i + 1) * z)).take (ps.length * z) := by
            have d1 : (vals'.toList.drop (i * z)).take z = v.cells.toList := by
              have := congrArg (List.drop (i * z)) hk
              rw [List.drop_take, Nat.add_sub_cancel_left] at this
              rw [this, List.drop_left' (by simp; omega)]
            rw [show (ps.length + 1) * z = z + ps.length * z by rw [Nat.add_mul]; omega, List.take_add, d1, List.drop_drop, hsucc]
          rw [List.flatten_cons]
          show RepR w F N _ ((vals'.toList.drop (i * z)).take ((ps.length + 1) * z))
          rw [e1]
          exact hv.append h4
      · simp at he
    · simp at he
end Go.Vs
