/- What the program's functions compute, read off their text by the shadow runner (VsTurn, VsLaw, VsCmb, VsStruct, VsDat, OSt, OL, VsTold, VsClone, OP, OToldC, VsNames, VsBound, VsLst, OTa, OTs, OTe); no condition. -/
import Derived.Test.YtdbomanmhhhndaaRows
import Derived.Lib.LazyBuf
import Derived.Laws.Strings
import Derived.Sort.Walk0
import Derived.Test.YtdbomanmhhhndaaVB3
section
namespace Go.Vs
variable {P : Program}
mutual
def tuF (φ : Fl true → Fl true) (σ : Fl true → Bool) : Bool → Leaf true → Leaf true
  | i, .bool b => if i then .unk else .bool b
  | i, .int k n => if i then .unk else .int k n
  | i, .str s => if i then .unk else .str s
  | _, .unk => .unk
  | i, .nl e => if i then .sl fSoft [] else .nl e
  | _, .sl c es => .sl (if σ c then fSoft else φ c) (tuE φ σ (σ c) es)
def tuL (φ : Fl true → Fl true) (σ : Fl true → Bool) : Bool → List (Leaf true) → List (Leaf true)
  | _, [] => []
  | i, l :: r => tuF φ σ i l :: tuL φ σ i r
def tuE (φ : Fl true → Fl true) (σ : Fl true → Bool) : Bool → List (List (Leaf true)) → List (List (Leaf true))
  | _, [] => []
  | i, e :: r => tuL φ σ i e :: tuE φ σ i r
end
variable {φ : Fl true → Fl true} {σ : Fl true → Bool}
theorem tuL_map (i : Bool) : ∀ l : List (Leaf true), tuL φ σ i l = l.map (tuF φ σ i)
  | [] => by rw [tuL]; rfl
  | l :: r => by rw [tuL, List.map_cons, tuL_map i r]
theorem tuE_map (i : Bool) : ∀ l : List (List (Leaf true)), tuE φ σ i l = l.map (tuL φ σ i)
  | [] => by rw [tuE]; rfl
  | l :: r => by rw [tuE, List.map_cons, tuE_map i r]
theorem tuL_length (i : Bool) (l : List (Leaf true)) : (tuL φ σ i l).length = l.length := by rw [tuL_map, List.length_map]
theorem tuE_length (i : Bool) (l : List (List (Leaf true))) : (tuE φ σ i l).length = l.length := by rw [tuE_map, List.length_map]
theorem tuE_flatten (i : Bool) : ∀ l : List (List (Leaf true)), (tuE φ σ i l).flatten = tuL φ σ i l.flatten
  | [] => by rw [tuE]; rfl
  | e :: r => by rw [tuE, List.flatten_cons, List.flatten_cons, tuE_flatten i r, tuL_map, tuL_map, tuL_map, List.map_append]
theorem tuF_soft (l : Leaf true) : (tuF φ σ true l).soft = true := by cases l <;> rfl
mutual
def allF (p : Fl true → Bool) : Leaf true → Bool
  | .sl c es => p c && allE p es
  | _ => true
def allL (p : Fl true → Bool) : List (Leaf true) → Bool
  | [] => true
  | l :: r => allF p l && allL p r
def allE (p : Fl true → Bool) : List (List (Leaf true)) → Bool
  | [] => true
  | e :: r => allL p e && allE p r
end
mutual
theorem allF_true : ∀ l : Leaf true, allF (fun _ => true) l = true
  | .sl c es => by rw [allF, allE_true es]; rfl
  | .bool _ | .int _ _ | .str _ | .unk | .nl _ => by simp [allF]
theorem allL_true : ∀ l : List (Leaf true), allL (fun _ => true) l = true
  | [] => by rw [allL]
  | l :: r => by rw [allL, allF_true l, allL_true r]; rfl
theorem allE_true : ∀ l : List (List (Leaf true)), allE (fun _ => true) l = true
  | [] => by rw [allE]
  | l :: r => by rw [allE, allL_true l, allE_true r]; rfl
end
mutual
theorem allF_re {m : Bool} {p : Fl true → Bool} {c : Fl true} (h : p c = true) : ∀ l : Leaf m, allF p (reF (fun _ => c) l) = true
  | .sl _ es => by rw [reF, allF, h, allE_re h es]; rfl
  | .bool _ | .int _ _ | .str _ | .unk | .nl _ => by simp [reF, allF]
theorem allL_re {m : Bool} {p : Fl true → Bool} {c : Fl true} (h : p c = true) : ∀ l : List (Leaf m), allL p (reL (fun _ => c) l) = true
  | [] => by rw [reL, allL]
  | l :: r => by rw [reL, allL, allF_re h l, allL_re h r]; rfl
theorem allE_re {m : Bool} {p : Fl true → Bool} {c : Fl true} (h : p c = true) : ∀ l : List (List (Leaf m)), allE p (reE (fun _ => c) l) = true
  | [] => by rw [reE, allE]
  | l :: r => by rw [reE, allE, allL_re h l, allE_re h r]; rfl
end
theorem allL_mem {p : Fl true → Bool} : ∀ {l : List (Leaf true)}, allL p l = true → ∀ x ∈ l, allF p x = true
  | y :: r, h, x, hx => by
    rw [allL, Bool.and_eq_true] at h
    rcases List.mem_cons.1 hx with rfl | hx
    · exact h.1
    · exact allL_mem h.2 x hx
theorem allE_mem {p : Fl true → Bool} : ∀ {l : List (List (Leaf true))}, allE p l = true → ∀ x ∈ l.flatten, allF p x = true
  | e :: r, h, x, hx => by
    rw [allE, Bool.and_eq_true] at h
    rw [List.flatten_cons] at hx
    rcases List.mem_append.1 hx with hx | hx
    · exact allL_mem h.1 x hx
    · exact allE_mem h.2 x hx
abbrev fl (c : Fl true) : Fl false → Fl true := fun _ => c
mutual
def soF : Leaf false → Leaf true
  | .bool _ => .unk
  | .int _ _ => .unk
  | .str _ => .unk
  | .unk => .unk
  | .nl _ => .sl fSoft []
  | .sl _ es => .sl fSoft (soE es)
def soL : List (Leaf false) → List (Leaf true)
  | [] => []
  | l :: r => soF l :: soL r
def soE : List (List (Leaf false)) → List (List (Leaf true))
  | [] => []
  | e :: r => soL e :: soE r
end
mutual
theorem tuF_fl {c : Fl true} (h : σ c = false) : ∀ l : Leaf false, tuF φ σ false (reF (fl c) l) = reF (fl (φ c)) l
  | .sl _ es => by rw [reF, tuF, h, tuE_fl h es, reF]; rfl
  | .bool _ | .int _ _ | .str _ | .unk | .nl _ => by simp [reF, tuF]
theorem tuL_fl {c : Fl true} (h : σ c = false) : ∀ l : List (Leaf false), tuL φ σ false (reL (fl c) l) = reL (fl (φ c)) l
  | [] => by rw [reL, tuL, reL]
  | l :: r => by rw [reL, tuL, tuF_fl h l, tuL_fl h r, reL]
theorem tuE_fl {c : Fl true} (h : σ c = false) : ∀ l : List (List (Leaf false)), tuE φ σ false (reE (fl c) l) = reE (fl (φ c)) l
  | [] => by rw [reE, tuE, reE]
  | l :: r => by rw [reE, tuE, tuL_fl h l, tuE_fl h r, reE]
end
mutual
theorem tuF_so {c : Fl true} (h : σ c = true) : ∀ l : Leaf false, tuF φ σ true (reF (fl c) l) = soF l
  | .sl _ es => by rw [reF, tuF, h, tuE_so h es, soF]; rfl
  | .bool _ | .int _ _ | .str _ | .unk | .nl _ => by simp [reF, tuF, soF]
theorem tuL_so {c : Fl true} (h : σ c = true) : ∀ l : List (Leaf false), tuL φ σ true (reL (fl c) l) = soL l
  | [] => by rw [reL, tuL, soL]
  | l :: r => by rw [reL, tuL, tuF_so h l, tuL_so h r, soL]
theorem tuE_so {c : Fl true} (h : σ c = true) : ∀ l : List (List (Leaf false)), tuE φ σ true (reE (fl c) l) = soE l
  | [] => by rw [reE, tuE, soE]
  | l :: r => by rw [reE, tuE, tuL_so h l, tuE_so h r, soE]
end
mutual
def saL : List (Leaf false) → List (Leaf true)
  | [] => []
  | l :: r => saF l :: saL r
def saF : Leaf false → Leaf true
  | .bool b => .bool b
  | .int k n => .int k n
  | .str s => .str s
  | .unk => .unk
  | .nl e => .nl e
  | .sl _ es => .sl fSoft (soE es)
end
theorem tuF_sa {c : Fl true} (h : σ c = true) : ∀ l : Leaf false, tuF φ σ false (reF (fl c) l) = saF l
  | .sl _ es => by rw [reF, tuF, h, tuE_so h es, saF]; rfl
  | .bool _ | .int _ _ | .str _ | .unk | .nl _ => by simp [reF, tuF, saF]
theorem tuL_sa {c : Fl true} (h : σ c = true) : ∀ l : List (Leaf false), tuL φ σ false (reL (fl c) l) = saL l
  | [] => by rw [reL, tuL, saL]
  | l :: r => by rw [reL, tuL, tuF_sa h l, tuL_sa h r, saL]
def TuOk (p : Fl true → Bool) (φ : Fl true → Fl true) (σ : Fl true → Bool) (w : World) (F : Fr) (N : Env) (F' : Fr) (N' : Env) : Prop :=
  ∀ (c : Fl true) (g o : Nat), p c = true → g < w.heap.size → 0 < F g → c.Holds N w g o → F g ≤ F' g ∧ ((σ c = true ∧ N'.Z g = true) ∨ (σ c = false ∧ (φ c).Holds N' w g o ∧ (φ c).isSoft = false ∧ N'.Z g = false))
theorem RepL.tu {p : Fl true → Bool} {w : World} {F F' : Fr} {N N' : Env} (hok : TuOk p φ σ w F N F' N') {l : Leaf true} {v : Value} (h : RepL w F N l v) : allF p l = true → ∀ i, RepL w F' N' (tuF φ σ i l) v := by
  induction h with
  | bool b => intro _ i; cases i <;> simp only [tuF] <;> first | exact .bool b | exact .unk _ rfl
  | int k n => intro _ i; cases i <;> simp only [tuF] <;> first | exact .int k n | exact .unk _ rfl
  | str s => intro _ i; cases i <;> simp only [tuF] <;> first | exact .str s | exact .unk _ rfl
  | unk v h => intro _ i; rw [tuF]; exact .unk v h
  | nl e =>
    intro _ i
    cases i <;> simp only [tuF]
    · exact .nl e
    · exact repL_sl_mk (es := []) (z := 0) (vals := []) (Nat.le_refl _) (by simp) (fun h => by simp at h) (RepR.nil _ _ _)
  | sl c es A cap z vals hc hz hv hcell hr ih =>
    intro hp i
    rw [allF, Bool.and_eq_true] at hp
    rw [tuF]
    have hl : (tuE φ σ (σ c) es).length = es.length := tuE_length _ es
    rw [← hl]
    refine .sl _ _ A cap z vals (by rw [hl]; exact hc) (fun e he => ?_) (by rw [hl]; exact hv) (fun hpos => ?_) (fun j l v h1 h2 => ?_)
    · rw [tuE_map] at he
      obtain ⟨e0, he0, rfl⟩ := List.mem_map.1 he
      rw [tuL_length]; exact hz e0 he0
    · rw [hl] at hpos
      obtain ⟨g, o, e, ⟨hv0, hn⟩, hle, hso, hcl⟩ := hcell hpos
      obtain ⟨h1, h2⟩ := hok c g o hp.1 (cell_lt (hcl 0 _ (List.getElem?_eq_getElem hv0))) (by omega) hn
      rcases h2 with ⟨hs, hZ⟩ | ⟨hs, hH, hS, hZ⟩
      · refine ⟨g, o, e, ⟨hv0, by rw [hs]; trivial⟩, Nat.le_trans hle h1, ⟨fun _ => hZ, fun _ l hl' => ?_⟩, hcl⟩
        rw [tuE_flatten, tuL_map, hs] at hl'
        obtain ⟨l0, _, rfl⟩ := List.mem_map.1 hl'
        exact tuF_soft l0
      · refine ⟨g, o, e, ⟨hv0, by rw [hs]; exact hH⟩, Nat.le_trans hle h1, ⟨fun h => ?_, fun h => by rw [hZ] at h; simp at h⟩, hcl⟩
        rw [hs] at h
        simp only [Bool.false_eq_true, if_false] at h
        rw [hS] at h; simp at h
    · rw [tuE_flatten, tuL_map, List.getElem?_map, Option.map_eq_some_iff] at h1
      obtain ⟨l0, hl0, rfl⟩ := h1
      exact ih j l0 v hl0 h2 (allE_mem hp.2 l0 (List.mem_of_getElem? hl0)) _
theorem RepR.tu {p : Fl true → Bool} {w : World} {F F' : Fr} {N N' : Env} (hok : TuOk p φ σ w F N F' N') {ls : List (Leaf true)} {vs : List Value} (h : RepR w F N ls vs) (hp : allL p ls = true) (i : Bool) : RepR w F' N' (tuL φ σ i ls) vs := by
  refine ⟨by rw [tuL_length, h.1], fun j l v h1 h2 => ?_⟩
  rw [tuL_map, List.getElem?_map, Option.map_eq_some_iff] at h1
  obtain ⟨l0, hl0, rfl⟩ := h1
  exact RepL.tu hok (h.2 j l0 v hl0 h2) (allL_mem hp l0 (List.mem_of_getElem? hl0)) i
def tuS (φ : Fl true → Fl true) (σ : Fl true → Bool) : SV true → SV true
  | .leaf l => .leaf (tuF φ σ false l)
  | .own _ es => .leaf (tuF φ σ false (.sl (Fl.new true) es))
  | .agg cs => .agg (tuL φ σ false cs)
  | _ => .any
def slotOk (p : Fl true → Bool) : SV true → Bool
  | .leaf l => allF p l
  | .own _ es => p (Fl.new true) && allE p es
  | .agg cs => allL p cs
  | _ => true
theorem tuS_rep {p : Fl true → Bool} {w : World} {F F' : Fr} {N N' : Env} (hok : TuOk p φ σ w F N F' N') {Ow Ow' : Own} {bm bm' : Nat → Nat} {al al' : Nat → Bool} {loc loc' : Loc} {x : SV true} {v : Value} (hx : slotOk p x = true) (h : RepS P w F N Ow bm al loc x v) :
    RepS P w F' N' Ow' bm' al' loc' (tuS φ σ x) v := by
  cases x with
  | leaf l => exact RepS.leaf (RepL.tu hok (show RepL w F N l v by simpa [RepS, RepF] using h) hx false)
  | own e es => exact RepS.leaf (RepL.tu hok (RepO.leaf h) (by rw [allF]; exact hx) false)
  | agg cs =>
    obtain ⟨vs, e, hr⟩ : ∃ vs, v = .agg vs ∧ RepR w F N cs vs.toList := by simpa [RepS, RepF] using h
    have h2 : ∃ vs, v = .agg vs ∧ RepR w F' N' (tuL φ σ false cs) vs.toList := ⟨vs, e, RepR.tu hok hr hx false⟩
    simpa [tuS, RepS, RepF] using h2
  | _ => exact RepS.any
abbrev tQ : Fl true := Flag.tag 3 false
def isTQ : Fl true → Bool := fun c => match c with | Flag.tag 3 _ => true | _ => false
def tuB (φ : Fl true → Fl true) (σ : Fl true → Bool) (bs : Boxes true) : SV true → SV true
  | .ptr b o => match (boxAt bs b).bind asLeaves with
    | some (l :: ls) => .eptr tQ (tuL φ σ false (l :: ls)) o
    | _ => .any
  | .eptr c e o => if isTQ c then .eptr tQ (tuL φ σ false e) o else .any
  | x => tuS φ σ x
def slotOkB (p : Fl true → Bool) (bs : Boxes true) : SV true → Bool
  | .ptr b _ => match (boxAt bs b).bind asLeaves with
    | some ls => allL p ls
    | none => true
  | .eptr c e _ => !(isTQ c) || allL p e
  | x => slotOk p x
theorem tuB_some {bs : Boxes true} {b : Nat} {o : Nat} {ls : List (Leaf true)} (h : (boxAt bs b).bind asLeaves = some ls) (hne : ls ≠ []) : tuB φ σ bs (.ptr b o) = .eptr tQ (tuL φ σ false ls) o := by
  cases ls with
  | nil => exact absurd rfl hne
  | cons l ls => simp only [tuB, h]
theorem tuB_empty {bs : Boxes true} {b : Nat} {o : Nat} (h : (boxAt bs b).bind asLeaves = some []) : tuB φ σ bs (.ptr b o) = .any := by
  simp only [tuB, h]
theorem tuB_none {bs : Boxes true} {b : Nat} {o : Nat} (h : (boxAt bs b).bind asLeaves = none) : tuB φ σ bs (.ptr b o) = .any := by
  simp only [tuB, h]
theorem slotOkB_some {p : Fl true → Bool} {bs : Boxes true} {b : Nat} {o : Nat} {ls : List (Leaf true)} (h : (boxAt bs b).bind asLeaves = some ls) : slotOkB p bs (.ptr b o) = allL p ls := by
  simp only [slotOkB, h]
def sealB (F : Fr) (w : World) : Fr := fun g => max (F g) (sealW w g)
theorem le_sealB (F : Fr) (w : World) (g : Nat) : F g ≤ sealB F w g := Nat.le_max_left _ _
theorem sealB_new {F : Fr} {w : World} {g : Nat} (h : F g = 0) (hg : w.heap.size ≤ g) : sealB F w g = 0 := by
  unfold sealB sealW
  rw [h, Array.getElem?_eq_none hg]; rfl
theorem sealB_box {F : Fr} {w : World} {g : Nat} {cur : Array Value} {e : TypeId} {k : Nat × Nat} (h : w.heap[g]? = some (.cells cur e k)) : cur.size ≤ sealB F w g := by
  unfold sealB sealW
  rw [h]; exact Nat.le_max_right _ _
structure BoxOk (bs : Boxes true) (bm : Nat → Nat) (F : Fr) (N : Env) (F' : Fr) (N' : Env) : Prop where
  box : ∀ b cs, boxAt bs b = some cs → cs ≠ [] → cs.length ≤ F' (bm b) ∧ N'.T 3 (bm b) = true ∧ N'.Z (bm b) = false
  row : ∀ g, N.T 3 g = true → F g ≤ F' g ∧ N'.T 3 g = true ∧ N'.Z g = false
theorem tuB_rep {fn : Func} {W : World} {N N' : Env} {s : St true} {a : Act} {w : World} {F F' : Fr} {Ow : Own} {bm : Nat → Nat} (h : OnWay P fn W N s a w F Ow bm) {p : Fl true → Bool} (hok : TuOk p φ σ w F N F' N') (hb : BoxOk s.boxes bm F N F' N') {Ow' : Own} {bm' : Nat → Nat} {al' : Nat → Bool} {loc loc' : Loc} {x : SV true} {v : Value}
    (hx : slotOkB p s.boxes x = true) (hr : RepS P w F N Ow bm (fun b => (boxAt s.boxes b).isSome) loc x v) : RepS P w F' N' Ow' bm' al' loc' (tuB φ σ s.boxes x) v := by
  cases x with
  | ptr b o =>
    cases hl : (boxAt s.boxes b).bind asLeaves with
    | none => rw [tuB_none hl]; exact RepS.any
    | some ls =>
      by_cases hl0 : ls = []
      · subst hl0; rw [tuB_empty hl]; exact RepS.any
      rw [tuB_some hl hl0]
      rw [slotOkB_some hl] at hx
      obtain ⟨cs, hcs, hls⟩ := Option.bind_eq_some_iff.1 hl
      have hne : cs ≠ [] := by rintro rfl; simp [asLeaves] at hls; exact hl0 hls
      have hv : v = .pointer (some ⟨bm b, o, none⟩) ∧ (boxAt s.boxes b).isSome = true := by simpa only [RepS, RepF] using hr
      obtain ⟨vals, h0, h1, hrr⟩ : ∃ vals : List Value, vals.length = cs.length ∧ (∀ (j : Nat) (u : Value), vals[j]? = some u → w.cell? ⟨bm b, j, none⟩ = some u) ∧ RepR w F N ls vals := by
        rcases h.inv.box b cs hcs with rfl | ⟨cur, et, h1, h2, h3, h4, h5⟩
        · simp [asLeaves] at hls; subst hls; exact ⟨[], rfl, by simp, RepR.nil _ _ _⟩
        · have hcl := Array.length_toList (xs := cur)
          refine ⟨cur.toList.take cs.length, by rw [List.length_take]; omega, fun j u hj => ?_, asLeaves_rep (P := P) (Ow := Ow) (bm := bm) (al := fun b => (boxAt s.boxes b).isSome) cs _ ls (fun j => .box b j) hls (by rw [List.length_take]; omega) fun j c u hc hu => ?_⟩
          · rw [List.getElem?_take] at hj
            split at hj
            · rw [cell_in h1]; simpa using hj
            · simp at hj
          · rw [List.getElem?_take] at hu
            split at hu
            · exact h5 j c u hc (by simpa using hu)
            · simp at hu
      obtain ⟨q1, q2, q3⟩ := hb.box b cs hcs hne
      have hr2 := RepR.tu hok hrr hx false
      have goal : RepF (m := true) w F' N' bm' al' (.eptr tQ (tuL φ σ false ls) o) v := by
        refine ⟨bm b, 0, vals, by rw [hv.1, Nat.zero_add], ?_, ⟨q2, fun hz => by rw [q3] at hz; simp at hz⟩, hr2, fun j u hj => ?_⟩
        · have := hrr.1; rw [tuL_length, Nat.zero_add]; omega
        · rw [Nat.zero_add]; exact h1 j u hj
      simpa only [RepS] using goal
  | eptr c e o =>
    cases hte : isTQ c with
    | false =>
      rw [show tuB φ σ s.boxes (.eptr c e o) = .any by simp only [tuB, hte]; rfl]
      exact RepS.any
    | true =>
      rw [show tuB φ σ s.boxes (.eptr c e o) = .eptr tQ (tuL φ σ false e) o by simp only [tuB, hte]; rfl]
      have hp : allL p e = true := by simpa [slotOkB, hte] using hx
      obtain ⟨g, q, vals, hz, hle, hso, hrr, hc⟩ : ∃ g q vals, v = .pointer (some ⟨g, q + o, none⟩) ∧ q + e.length ≤ F g ∧ (c.At N g ∧ (N.Z g = true → ∀ l ∈ e, l.soft = true)) ∧ RepR w F N e vals ∧ ∀ (j : Nat) (u : Value), vals[j]? = some u → w.cell? ⟨g, q + j, none⟩ = some u := by simpa only [RepS, RepF] using hr
      have ht : N.T 3 g = true := by
        cases c with
        | tag k f =>
          have hk : k = 3 := by
            rcases k with _ | _ | _ | _ | k <;> first | rfl | cases hte
          subst hk; exact hso.1
        | _ => cases hte
      obtain ⟨q1, q2, q3⟩ := hb.row g ht
      have goal : RepF (m := true) w F' N' bm' al' (.eptr tQ (tuL φ σ false e) o) v := by
        refine ⟨g, q, vals, hz, ?_, ⟨q2, fun hz => by rw [q3] at hz; simp at hz⟩, RepR.tu hok hrr hp false, hc⟩
        rw [tuL_length]; omega
      simpa only [RepS] using goal
  | _ => first | exact RepS.any | (simp only [tuB]; exact tuS_rep hok (by simpa only [slotOkB] using hx) hr)
def tuT (φ : Fl true → Fl true) (σ : Fl true → Bool) (bs : Boxes true) (ds : List Nat) : Nat → List (SV true) → List (SV true)
  | _, [] => []
  | i, x :: r => (if ds.contains i then .any else tuB φ σ bs x) :: tuT φ σ bs ds (i + 1) r
theorem tuT_length {bs : Boxes true} (ds : List Nat) : ∀ (i : Nat) (l : List (SV true)), (tuT φ σ bs ds i l).length = l.length
  | _, [] => rfl
  | i, x :: r => by rw [tuT, List.length_cons, List.length_cons, tuT_length ds (i + 1) r]
theorem tuT_get {bs : Boxes true} (ds : List Nat) : ∀ (i : Nat) (l : List (SV true)) (t : Nat), (tuT φ σ bs ds i l).getD t .any = .any ∨ (ds.contains (i + t) = false ∧ (tuT φ σ bs ds i l).getD t .any = tuB φ σ bs (l.getD t .any))
  | i, [], t => by left; simp [tuT]
  | i, x :: r, 0 => by
    cases h : ds.contains i with
    | true => left; simp only [tuT, h, if_true]; rfl
    | false => right; exact ⟨rfl, by simp only [tuT, h]; rfl⟩
  | i, x :: r, t + 1 => by
    have := tuT_get (bs := bs) ds (i + 1) r t
    rw [show i + 1 + t = i + (t + 1) by omega] at this
    simpa [tuT] using this
def turn (φ : Fl true → Fl true) (σ : Fl true → Bool) (ds : List Nat) (s : St true) : St true := { tmps := tuT φ σ s.boxes ds 0 s.tmps, boxes := s.boxes.map fun _ => none }
def slotsOk (p : Fl true → Bool) (bs : Boxes true) (ds : List Nat) : Nat → List (SV true) → Bool
  | _, [] => true
  | i, x :: r => (ds.contains i || slotOkB p bs x) && slotsOk p bs ds (i + 1) r
theorem slotsOk_get {p : Fl true → Bool} {bs : Boxes true} (ds : List Nat) : ∀ (i : Nat) (l : List (SV true)) (t : Nat), slotsOk p bs ds i l = true → ds.contains (i + t) = false → slotOkB p bs (l.getD t .any) = true
  | _, [], t, _, _ => by simp [slotOkB, slotOk]
  | i, x :: r, 0, h, hd => by
    simp only [slotsOk, Bool.and_eq_true] at h
    rw [Nat.add_zero] at hd
    have := h.1; rw [hd] at this; simpa using this
  | i, x :: r, t + 1, h, hd => by
    simp only [slotsOk, Bool.and_eq_true] at h
    have := slotsOk_get ds (i + 1) r t h.2 (by rw [show i + 1 + t = i + (t + 1) by omega]; exact hd)
    simpa using this
theorem boxAt_none (bs : Boxes true) (b : Nat) : boxAt (m := true) (bs.map fun _ => none) b = none := by
  unfold boxAt
  rw [List.getD_eq_getElem?_getD, List.getElem?_map]
  cases bs[b]? <;> rfl
section
variable {fn : Func} {W : World} {N N' : Env} {s : St true} {a : Act} {w : World} {F F' : Fr} {Ow : Own} {bm : Nat → Nat}
theorem OnWay.turn (h : OnWay P fn W N s a w F Ow bm) (φ : Fl true → Fl true) (σ : Fl true → Bool) (ds : List Nat) (p : Fl true → Bool) (hsl : slotsOk p s.boxes ds 0 s.tmps = true) (hok : TuOk p φ σ w F N F' N') (hbx : BoxOk s.boxes bm F N F' N') (hn : N'.n ≤ w.heap.size) (hF : ∀ g, w.heap.size ≤ g → F' g = 0) (hKK : N'.K = N.K) (hle : ∀ g, F g ≤ F' g) (hKZ : ∀ k ∈ N.K, N'.Z k.1.1 = false)
    (hz : ∀ g, N'.Z g = true → W.heap.size ≤ g ∧ Thawed w g) (hBB : N'.B = [] := by rfl) : OnWay P fn W N' (turn φ σ ds s) a w F' (fun _ => none) (fun _ => w.heap.size) := by
  refine ⟨⟨by show (tuT φ σ s.boxes ds 0 s.tmps).length = _; rw [tuT_length]; exact h.inv.len, fun t => ?_, fun b cs hb => ?_, ⟨hn, fun k hk => by
    rw [hKK] at hk
    obtain ⟨h1, h2, h3⟩ := h.inv.low.know k hk
    exact ⟨Nat.lt_of_lt_of_le h1 (hle _), hKZ k hk, h3⟩, fun k hk => by rw [hBB] at hk; cases hk⟩, fun g hg => ⟨hF g hg, rfl⟩, fun b cs hb => ?_, fun g hg => ⟨rfl, (hz g hg).2⟩⟩, by show (s.boxes.map _).length = _; rw [List.length_map]; exact h.len, h.defers, h.bel, fun _ _ => rfl, fun g hg => ?_⟩
  · show RepS P w F' N' _ _ _ _ ((tuT φ σ s.boxes ds 0 s.tmps).getD t .any) _
    rcases tuT_get (φ := φ) (σ := σ) ds 0 s.tmps t with h1 | ⟨h0, h1⟩
    · rw [h1]; exact RepS.any
    · rw [h1]
      exact tuB_rep h hok hbx (slotsOk_get ds 0 s.tmps t hsl h0) (h.inv.slot t)
  · rw [show (Vs.turn φ σ ds s).boxes = s.boxes.map fun _ => none from rfl, boxAt_none] at hb; simp at hb
  · rw [show (Vs.turn φ σ ds s).boxes = s.boxes.map fun _ => none from rfl, boxAt_none] at hb; simp at hb
  · cases hZ : N'.Z g with
    | false => rfl
    | true => have := (hz g hZ).1; omega
def rowSt (s : St true) (t z n k : Nat) : St true := { tmps := s.tmps.set t (.bsl t z 0 n), boxes := s.boxes.set t (some (List.replicate k .any)) }
theorem OnWay.row (h : OnWay P fn W N s a w F Ow bm) (φ : Fl true → Fl true) (ds : List Nat) (p : Fl true → Bool) {t : Nat} (ht : t < s.tmps.length) (ht2 : t < fn.ntmps) {c : Fl true} {es : List (List (Leaf true))} {z : Nat}
    (hslot : s.tmps.getD t .any = .leaf (.sl c es)) (hpos : 0 < es.length) (hez : ∀ e ∈ es, e.length = z) (hsl : slotsOk p s.boxes ds 0 s.tmps = true)
    (hc : ∀ g o, g < w.heap.size → c.Holds N w g o → o = 0 ∧ Thawed w g ∧ N'.n ≤ g ∧ W.heap.size ≤ g ∧ ∀ c' o', p c' = true → ¬ c'.Holds N w g o')
    (hp : ∀ c g o, p c = true → c.Holds N w g o → (φ c).Holds N' w g o ∧ (φ c).isSoft = false)
    (hbx : ∀ g, g < w.heap.size → 0 < F g → c.Holds N w g 0 → BoxOk s.boxes bm F N (fun x => if x = g then 0 else sealB F w x) N') (hZ : ∀ g, N'.Z g = false) (hn : N'.n ≤ w.heap.size) (hKK : N'.K = N.K) (hKw : ∀ k ∈ N.K, k.1.1 < W.heap.size) (hBB : N'.B = [] := by rfl) :
    ∃ k F' Ow' bm', es.length * z ≤ k ∧ OnWay P fn W N' (rowSt (Vs.turn φ (fun _ => false) ds s) t z es.length k) a w F' Ow' bm' := by
  have hs := h.inv.slot t
  rw [hslot] at hs
  obtain ⟨A, cap, z', vals, hv, hcap, hz', hvl, hcell, hr⟩ := repL_sl (show RepL w F N (.sl c es) (a.tmps.getD t undef) by simpa [RepS, RepF] using hs)
  obtain ⟨g, o, rfl, ⟨hv0, hH⟩, hle, hso, hcl⟩ := hcell hpos
  have hzz : z' = z := by
    obtain ⟨e, he⟩ : ∃ e, e ∈ es := by cases es with | nil => simp at hpos | cons e r => exact ⟨e, by simp⟩
    rw [← hz' e he, hez e he]
  subst hzz
  have hg := cell_lt (hcl 0 _ (List.getElem?_eq_getElem hv0))
  obtain ⟨rfl, ⟨cur, et, hcur⟩, hn1, hn2, hne⟩ := hc g o hg hH
  have hk : es.length * z' ≤ cur.size := by
    rw [← hvl]
    have := hcl (vals.length - 1) _ (List.getElem?_eq_getElem (by omega))
    simp only [World.cell?, hcur] at this
    have := (Array.getElem?_eq_some_iff.1 (by simpa using this)).1
    omega
  have hok : TuOk p φ (fun _ => false) w F N (fun x => if x = g then 0 else sealB F w x) N' := by
    intro c' g' o' hp' hg' _ hH'
    have hgg : g' ≠ g := fun e => (hne c' o' hp') (e ▸ hH')
    obtain ⟨h1, h2⟩ := hp c' g' o' hp' hH'
    exact ⟨by simp [hgg, le_sealB], .inr ⟨rfl, h1, h2, hZ g'⟩⟩
  have hb : ∀ b cs, boxAt (rowSt (Vs.turn φ (fun _ => false) ds s) t z' es.length cur.size).boxes b = some cs → b = t ∧ cs = List.replicate cur.size .any := by
    intro b cs hb
    have hb' : boxAt ((s.boxes.map fun _ => none).set t (some (List.replicate cur.size SV.any))) b = some cs := hb
    by_cases hbt : b = t
    · subst hbt
      rw [boxAt_set_self (by rw [List.length_map, h.len]; exact ht2)] at hb'
      exact ⟨rfl, (Option.some.inj hb').symm⟩
    · rw [boxAt_set_ne hbt, boxAt_none] at hb'; simp at hb'
  have hal : (boxAt (rowSt (Vs.turn φ (fun _ => false) ds s) t z' es.length cur.size).boxes t).isSome = true := by
    show (boxAt ((s.boxes.map fun _ => none).set t (some (List.replicate cur.size SV.any))) t).isSome = true
    rw [boxAt_set_self (by rw [List.length_map, h.len]; exact ht2)]; rfl
  refine ⟨cur.size, fun x => if x = g then 0 else sealB F w x, fun x => if x = g then some (.blk t) else none, fun _ => g, hk, ⟨⟨?_, fun u => ?_, fun b cs hbc => ?_, ⟨hn, fun k hk => by
    rw [hKK] at hk
    obtain ⟨h1, h2, h3⟩ := h.inv.low.know k hk
    have hne : k.1.1 ≠ g := fun e => by have := hKw k hk; omega
    exact ⟨by simp only [if_neg hne]; exact Nat.lt_of_lt_of_le h1 (le_sealB F w _), hZ _, h3⟩, fun k hk => by rw [hBB] at hk; cases hk⟩, fun x hx => ?_, fun b cs hbc => hn1, fun x hx => by rw [hZ] at hx; simp at hx⟩, ?_, h.defers, h.bel, fun x hx => ?_, fun x hx => hZ x⟩⟩
  · show ((tuT φ (fun _ => false) s.boxes ds 0 s.tmps).set t _).length = _
    rw [List.length_set, tuT_length]; exact h.inv.len
  · show RepS P w _ N' _ _ _ _ (((tuT φ (fun _ => false) s.boxes ds 0 s.tmps).set t (.bsl t z' 0 es.length)).getD u .any) _
    by_cases hut : u = t
    · subst hut
      rw [List.getD_eq_getElem?_getD, List.getElem?_set_self (by rw [tuT_length]; exact ht), Option.getD_some, hv]
      simp only [RepS, RepF]
      exact ⟨.inr ⟨cap, by simp, hcap⟩, hal⟩
    · rw [List.getD_eq_getElem?_getD, List.getElem?_set_ne (fun e => hut e.symm), ← List.getD_eq_getElem?_getD]
      rcases tuT_get (φ := φ) (σ := fun _ => false) ds 0 s.tmps u with h1 | ⟨h0, h1⟩
      · rw [h1]; exact RepS.any
      · rw [h1]
        exact tuB_rep h hok (hbx g hg (by omega) hH) (slotsOk_get ds 0 s.tmps u hsl h0) (h.inv.slot u)
  · obtain ⟨rfl, rfl⟩ := hb b cs hbc
    refine .inr ⟨cur, et, hcur, by rw [List.length_replicate]; exact Nat.le_refl _, by simp, by simp, fun j c u h1 _ => ?_⟩
    have : c = .any := by
      rw [List.getElem?_replicate] at h1
      split at h1 <;> simp at h1
      exact h1.symm
    subst this
    exact RepS.any
  · have hx' : x ≠ g := fun e => by subst e; omega
    simp [hx', sealB_new (h.inv.new x hx).1 hx]
  · show ((s.boxes.map _).set t _).length = _
    rw [List.length_set, List.length_map]; exact h.len
  · have : x ≠ g := fun e => by subst e; omega
    simp [this]
end
end Go.Vs
end
section
set_option linter.unusedVariables false
namespace Go.Vs
variable {m : Bool} {P : Program} {f : FuncId} {fn : Func} {c0 : Code}
theorem law_on (hfn : P.funcs[f]? = some fn) (hc0 : fn.body = some c0) {args : List (SV m)} {W : World} {vals : Array Value} {K : Known} (hl : args.length = vals.size) (hh : args.all SV.handed = true)
    (hr : ∀ j a v, args[j]? = some a → vals[j]? = some v → RepS P W (sealW W) (N0 W K) (fun _ => none) (fun _ => W.heap.size) (fun _ => false) (.tmp j) a v)
    (next : ∀ a : Act, OnWay P fn W (N0 W K) (enterV fn args []) a W (sealW W) (fun _ => none) (fun _ => W.heap.size) → (sub c0 (way 0)).wp P (bodyPost P fn (Good W)) a W) (hK : KOk W K := by exact KOk.nil) : Calls P f vals W (Good W) := by
  refine calls_of_wp hfn hc0 ?_
  have hinv : Inv P { tmps := args, boxes := ([] : List (List (SV m))).map some } vals W (sealW W) (N0 W K) (fun _ => none) (fun _ => W.heap.size) := by
    refine ⟨hl, fun t => ?_, fun b cs hb => ?_, hK.low, fun g hg => ⟨?_, rfl⟩, fun b cs hb => ?_, fun g hg => ?_⟩
    · by_cases ht : t < args.length
      · have := hr t _ _ (List.getElem?_eq_getElem ht) (Array.getElem?_eq_getElem (by omega))
        simp only [List.getD, List.getElem?_eq_getElem ht, Option.getD_some, Array.getD, show t < vals.size by omega, dif_pos]
        exact this.keeps (Keeps.refl _ _) (fun b hb => by simp at hb) (fun g hg => by simp at hg)
      · simp only [List.getD, List.getElem?_eq_none (Nat.not_lt.1 ht), Option.getD_none]
        exact RepS.any
    · simp [boxAt] at hb
    · unfold sealW
      rw [Array.getElem?_eq_none hg]
    · simp [boxAt] at hb
    · simp [N0] at hg
  have h1 := hinv.frame fn hh (by simp)
  have := next { tmps := vals ++ Array.replicate (fn.ntmps - vals.size) undef, defers := [] } ⟨by simpa using h1, by simp [enterV], rfl, Go.RowKit.Below.refl _ _, fun _ _ => rfl, fun _ _ => rfl⟩
  rw [show way 0 = [] from rfl, sub_nil] at this
  exact this
def N1 (A : Nat) (K : Known := []) : Env := { K := K, n := A, Z := fun _ => false, lt := fun g h => by simp at h, T := fun k g => (k == 0 || k == 3) && decide (g < A) }
def N2 (A B : Nat) (F2 : Fr) (K : Known := []) : Env := { K := K, n := B, Z := fun _ => false, lt := fun g h => by simp at h, T := fun k g => (k == 0 && decide (g < A)) || (k == 1 && decide (A ≤ g ∧ g < B ∧ 0 < F2 g)) || (k == 3 && decide (g < B ∧ ¬ (A ≤ g ∧ 0 < F2 g))) }
open Classical in
noncomputable def N3 (w : World) (A B : Nat) (F2 F3 : Fr) (hB : B ≤ w.heap.size) (K : Known := []) : Env := { K := K, n := w.heap.size, Z := fun g => decide (A ≤ g ∧ g < B ∧ 0 < F2 g ∧ Thawed w g), lt := fun g h => by have := of_decide_eq_true h; omega, T := fun k g => (k == 0 && decide (g < A)) || (k == 2 && decide (B ≤ g ∧ 0 < F3 g)) || (k == 3 && decide (g < w.heap.size ∧ ¬ (B ≤ g ∧ 0 < F3 g) ∧ ¬ (A ≤ g ∧ g < B ∧ 0 < F2 g))) }
def N4 (A B : Nat) (R : Nat → Bool) (K : Known := []) : Env := { K := K, n := B, Z := fun _ => false, lt := fun g h => by simp at h, T := fun k g => (k == 0 && decide (g < A)) || (k == 3 && R g) }
abbrev tA : Fl true := Flag.tag 0 false
abbrev tX : Fl true := Flag.tag 1 true
abbrev tG : Fl true := Flag.tag 2 true
def φ1 : Fl true → Fl true := fun _ => tA
def φ2 : Fl true → Fl true := fun c => match c with | Flag.new => tX | _ => tA
def φ3 : Fl true → Fl true := fun c => match c with | Flag.new => tG | _ => tA
def σ3 : Fl true → Bool := fun c => match c with | Flag.tag 1 _ => true | _ => false
def φ4 : Fl true → Fl true := fun _ => tA
def p4 : Fl true → Bool := fun c => match c with | Flag.tag 0 _ => true | _ => false
def p2 : Fl true → Bool := fun c => match c with | Flag.new => true | Flag.tag 0 _ => true | _ => false
def p3 : Fl true → Bool := fun c => match c with | Flag.new => true | Flag.tag 0 _ => true | Flag.tag 1 f => f | _ => false
theorem slotsOk_true (bs : Boxes true) (ds : List Nat) : ∀ (i : Nat) (l : List (SV true)), slotsOk (fun _ => true) bs ds i l = true
  | _, [] => rfl
  | i, x :: r => by
    rw [slotsOk, slotsOk_true bs ds (i + 1) r]
    cases x <;> simp only [slotOkB, slotOk, allF_true, allE_true, allL_true, Bool.or_true, Bool.and_true]
    · split <;> simp
section
variable {W w : World} {N : Env} {s : St true} {a : Act} {F : Fr} {Ow : Own} {bm : Nat → Nat}
theorem OnWay.box_lt (h : OnWay P fn W N s a w F Ow bm) {b : Nat} {cs : List (SV true)} (hb : boxAt s.boxes b = some cs) (hne : cs ≠ []) : bm b < w.heap.size ∧ F (bm b) = 0 ∧ N.n ≤ bm b ∧ cs.length ≤ sealB F w (bm b) := by
  obtain ⟨cur, et, h1, h2, h3, _⟩ := (h.inv.box b cs hb).resolve_left hne
  exact ⟨(Array.getElem?_eq_some_iff.1 h1).1, h3, h.inv.bmn b cs hb, Nat.le_trans h2 (sealB_box h1)⟩
theorem turn1 {K : Known} (h : OnWay P fn W N s a w F Ow bm) (hN : ∀ g, N.T 3 g = false) (ds : List Nat) (hNK : N.K = K := by rfl) : OnWay P fn W (N1 w.heap.size K) (Vs.turn φ1 (fun _ => false) ds s) a w (sealB F w) (fun _ => none) (fun _ => w.heap.size) :=
  h.turn φ1 (fun _ => false) ds (fun _ => true) (slotsOk_true _ _ _ _) (fun c g o _ hg _ _ => ⟨le_sealB F w g, .inr ⟨rfl, ⟨by simp [N1, hg], fun h => by cases h⟩, rfl, rfl⟩⟩)
    ⟨fun b cs hb hne => ⟨(h.box_lt hb hne).2.2.2, by simp [N1, (h.box_lt hb hne).1], rfl⟩, fun g hg => by rw [hN] at hg; cases hg⟩
    (Nat.le_refl _) (fun g hg => sealB_new (h.inv.new g hg).1 hg) hNK.symm (le_sealB F w) (fun _ _ => rfl) (fun g hg => by simp [N1] at hg)
theorem turn2 {K : Known} {A : Nat} (h : OnWay P fn W (N1 A K) s a w F Ow bm) (ds : List Nat) (hsl : slotsOk p2 s.boxes ds 0 s.tmps = true) : OnWay P fn W (N2 A w.heap.size F K) (Vs.turn φ2 (fun _ => false) ds s) a w (sealB F w) (fun _ => none) (fun _ => w.heap.size) :=
  h.turn φ2 (fun _ => false) ds p2 hsl (fun c g o hc hg hF hH => by
    refine ⟨le_sealB F w g, .inr ⟨rfl, ?_, ?_, rfl⟩⟩
    · cases c with
      | new => obtain ⟨h1, h2, h3⟩ := hH; exact ⟨by simp only [N2]; simp [hg, hF]; exact h1, fun _ => ⟨h2, h3⟩⟩
      | tag k f =>
        rcases k with _ | k
        · exact ⟨by have := hH.1; simp only [N1, N2] at this ⊢; simp at this ⊢; exact this, fun h => by cases h⟩
        · cases (show false = true from hc)
      | _ => cases (show false = true from hc)
    · cases c <;> rfl)
    ⟨fun b cs hb hne => ⟨(h.box_lt hb hne).2.2.2, by simp [N2, h.box_lt hb hne], rfl⟩, fun g hg => by
      have h0 : A ≤ w.heap.size := h.inv.low.le
      simp [N1] at hg
      exact ⟨le_sealB F w g, by simp only [N2]; simp; omega, rfl⟩⟩
    (Nat.le_refl _) (fun g hg => sealB_new (h.inv.new g hg).1 hg) rfl (le_sealB F w) (fun _ _ => rfl) (fun g hg => by simp [N2] at hg)
open Classical in
theorem turn3 {K : Known} {A B : Nat} {F2 : Fr} (h : OnWay P fn W (N2 A B F2 K) s a w F Ow bm) (hA : W.heap.size ≤ A) (hB : B ≤ w.heap.size) (hAB : A ≤ B) (ds : List Nat) (hsl : slotsOk p3 s.boxes ds 0 s.tmps = true) (hK : ∀ k ∈ K, k.1.1 < W.heap.size := by intro _ h; cases h) : OnWay P fn W (N3 w A B F2 F hB K) (Vs.turn φ3 σ3 ds s) a w (sealB F w) (fun _ => none) (fun _ => w.heap.size) :=
  h.turn φ3 σ3 ds p3 hsl (fun c g o hc hg hF hH => by
    refine ⟨le_sealB F w g, ?_⟩
    cases c with
    | new =>
      obtain ⟨h1, h2, h3⟩ := hH
      have h1' : B ≤ g := h1
      exact .inr ⟨rfl, ⟨by simp only [N3]; simp [h1', hF], fun _ => ⟨h2, h3⟩⟩, rfl, by simp only [N3]; exact decide_eq_false (fun h => by omega)⟩
    | tag k f =>
      rcases k with _ | _ | k
      · have h0 := hH.1
        simp only [N2] at h0
        simp at h0
        exact .inr ⟨rfl, ⟨by simp only [N3]; simp [h0], fun h => by cases h⟩, rfl, by simp only [N3]; exact decide_eq_false (fun h => by omega)⟩
      · have h0 := hH.1
        simp only [N2] at h0
        simp at h0
        cases f with
        | true => exact .inl ⟨rfl, by simp only [N3]; exact decide_eq_true ⟨h0.1, h0.2.1, h0.2.2, (hH.2 rfl).2⟩⟩
        | false => cases (show false = true from hc)
      · cases (show false = true from hc)
    | _ => cases (show false = true from hc))
    ⟨fun b cs hb hne => by
      obtain ⟨b1, b2, b3, b4⟩ := h.box_lt hb hne
      have b3' : B ≤ bm b := b3
      exact ⟨b4, by simp only [N3]; simp; omega, by simp only [N3]; exact decide_eq_false (fun h => by omega)⟩, fun g hg => by
      simp [N2] at hg
      exact ⟨le_sealB F w g, by simp only [N3]; simp; omega, by simp only [N3]; exact decide_eq_false (fun h => by omega)⟩⟩
    (Nat.le_refl _) (fun g hg => sealB_new (h.inv.new g hg).1 hg) rfl (le_sealB F w) (fun k hk => by have := hK k hk; simp only [N3]; exact decide_eq_false (fun h => by omega)) (fun g hg => by
      simp only [N3] at hg
      have := of_decide_eq_true hg
      exact ⟨by omega, this.2.2.2⟩)
open Classical in
theorem turn4 {K : Known} {A B : Nat} {w0 : World} {F2 F3 : Fr} {hB0 : B ≤ w0.heap.size} (h : OnWay P fn W (N3 w0 A B F2 F3 hB0 K) s a w F Ow bm) (hA : W.heap.size ≤ A) (hB : B ≤ w.heap.size) (hAB : A ≤ B) (ds : List Nat) {t : Nat} (ht : t < s.tmps.length) (ht2 : t < fn.ntmps) {es : List (List (Leaf true))} {z : Nat}
    (hslot : s.tmps.getD t .any = .leaf (.sl tG es)) (hpos : 0 < es.length) (hez : ∀ e ∈ es, e.length = z) (hsl : slotsOk p4 s.boxes ds 0 s.tmps = true) (hK : ∀ k ∈ K, k.1.1 < W.heap.size := by intro _ h; cases h) :
    ∃ k F' Ow' bm' R, es.length * z ≤ k ∧ OnWay P fn W (N4 A B R K) (rowSt (Vs.turn φ4 (fun _ => false) ds s) t z es.length k) a w F' Ow' bm' := by
  obtain ⟨k, F', Ow', bm', h1, h2⟩ := h.row (N' := N4 A B (fun g => (N3 w0 A B F2 F3 hB0 K).T 3 g || decide (w0.heap.size ≤ g)) K) φ4 ds p4 ht ht2 hslot hpos hez hsl (fun g o hg hH => by
    have h0 := hH.1
    simp only [N3] at h0
    simp at h0
    refine ⟨(hH.2 rfl).1, (hH.2 rfl).2, h0.1, by omega, fun c' o' hc' hH' => ?_⟩
    cases c' with
    | tag k f =>
      rcases k with _ | k
      · have h1 := hH'.1
        simp only [N3] at h1
        simp at h1
        omega
      · cases (show false = true from hc')
    | _ => cases (show false = true from hc')) (fun c g o hc hH => by
    refine ⟨?_, rfl⟩
    cases c with
    | tag k f =>
      rcases k with _ | k
      · have h1 := hH.1
        simp only [N3] at h1
        simp at h1
        exact ⟨by simp only [N4]; simp [h1], fun h => by cases h⟩
      · cases (show false = true from hc)
    | _ => cases (show false = true from hc)) (fun g hg hF hH => by
    have h0 := hH.1
    simp only [N3] at h0
    simp at h0
    refine ⟨fun b cs hb hne0 => ?_, fun x hx => ?_⟩
    · obtain ⟨b1, b2, b3, b4⟩ := h.box_lt hb hne0
      have b3' : w0.heap.size ≤ bm b := b3
      have hne : bm b ≠ g := fun e => by rw [e] at b2; omega
      exact ⟨by simpa [hne] using b4, by simp only [N4]; simp [b3'], rfl⟩
    · have hx' := hx
      simp only [N3] at hx'
      simp at hx'
      have hne : x ≠ g := fun e => by subst e; omega
      exact ⟨by simp [hne, le_sealB], by simp only [N4]; simp [hx], rfl⟩) (fun _ => rfl) hB rfl hK
  exact ⟨k, F', Ow', bm', _, h1, h2⟩
end
end Go.Vs
end
section
namespace Go.Vs
variable {m : Bool} {β : Type}
abbrev El := List (Leaf false)
def slAt (e : El) (p : Nat) : List El := match e[p]? with | some (.sl _ es) => es | _ => []
def intAt (e : El) (p : Nat) : Int := match e[p]? with | some (.int _ n) => n | _ => 0
def boolAt (e : El) (p : Nat) : Bool := match e[p]? with | some (.bool b) => b | _ => false
def strAt (e : El) (p : Nat) : ByteArray := match e[p]? with | some (.str s) => s | _ => ⟨#[]⟩
theorem bT (b : Bool) : (b == true) = b := by cases b <;> rfl
theorem bF (b : Bool) : (b == false) = !b := by cases b <;> rfl
theorem branch_not (b : Bool) (x y : Option β) : branch (!b) x y = branch b y x := by cases b <;> rfl
theorem branch_same (b : Bool) (x : Option β) : branch b x x = x := by cases b <;> rfl
def vBool (v : SV m) (k : Bool → Option β) : Option β := svLeafK v fun l => boolK l k
def vInt (v : SV m) (k : Int → Option β) : Option β := svLeafK v fun l => intK .i64 l k
def vStr (v : SV m) (k : ByteArray → Option β) : Option β := svLeafK v fun l => strK l k
def vSl (v : SV m) (k : List (List (Leaf m)) → Option β) : Option β := svSlK v fun _ es => k es
abbrev Ret (m : Bool) := Option (SV m × List (List (SV m)))
abbrev LE := List El
abbrev LT := List (List (Leaf true))
abbrev PS := List Nat × St false
abbrev PT := List Nat × St true
def rBool (r : Ret m) (k : Bool → Option β) : Option β := r.bind fun r => vBool r.1 k
def rInt (r : Ret m) (k : Int → Option β) : Option β := r.bind fun r => vInt r.1 k
def rStr (r : Ret m) (k : ByteArray → Option β) : Option β := r.bind fun r => vStr r.1 k
def rSl (r : Ret m) (k : List (List (Leaf m)) → Option β) : Option β := r.bind fun r => vSl r.1 k
def rOwn (t : TypeId) (r : Ret m) (k : List (List (Leaf m)) → Option β) : Option β := r.bind fun r => svOwnK t r.1 k
def rBool0 (r : Ret m) (k : Bool → Option β) : Option β := r.bind fun r => lastB r.2 (vBool r.1 k)
def rInt0 (r : Ret m) (k : Int → Option β) : Option β := r.bind fun r => lastB r.2 (vInt r.1 k)
def rBoolS (r : Ret m) (k : ByteArray → Bool → Option β) : Option β := r.bind fun r => headB r.2 fun d r1 => headK d fun d r2 => vStr d fun s => lastK r2 (lastB r1 (vBool r.1 fun b => k s b))
def rIntS (r : Ret m) (k : ByteArray → Int → Option β) : Option β := r.bind fun r => headB r.2 fun d r1 => headK d fun d r2 => vStr d fun s => lastK r2 (lastB r1 (vInt r.1 fun b => k s b))
def rCol (t : TypeId) (r : Ret m) (k : List (List (Leaf m)) → Option β) : Option β := r.bind fun r => headB r.2 fun d r1 => headK d fun d r2 => svOwnK t d fun es => lastK r2 (lastB r1 (svTupK r.1 fun vs => lastK vs (k es)))
def aBool (e : List (Leaf m)) (p : Nat) (k : Bool → Option β) : Option β := atK e p fun l => boolK l k
def aInt (e : List (Leaf m)) (p : Nat) (k : Int → Option β) : Option β := atK e p fun l => intK .i64 l k
def aStr (e : List (Leaf m)) (p : Nat) (k : ByteArray → Option β) : Option β := atK e p fun l => strK l k
def aSl (e : List (Leaf m)) (p : Nat) (k : List (List (Leaf m)) → Option β) : Option β := atK e p fun l => slK l fun _ es => k es
section
variable {b : Bool} {n : Int} {s : ByteArray} {es : List (List (Leaf m))} {c : Fl m} {bs : List (List (SV m))} {t : TypeId}
theorem vBool_eq (k : Bool → Option β) : vBool (.leaf (.bool b) : SV m) k = k b := rfl
theorem vInt_eq (k : Int → Option β) : vInt (.leaf (.int .i64 n) : SV m) k = k n := rfl
theorem vStr_eq (k : ByteArray → Option β) : vStr (.leaf (.str s) : SV m) k = k s := rfl
theorem vSl_eq (k : List (List (Leaf m)) → Option β) : vSl (.leaf (.sl c es)) k = k es := rfl
theorem rBool_eq (k : Bool → Option β) : rBool (some ((.leaf (.bool b) : SV m), bs)) k = k b := rfl
theorem rInt_eq (k : Int → Option β) : rInt (some ((.leaf (.int .i64 n) : SV m), bs)) k = k n := rfl
theorem rStr_eq (k : ByteArray → Option β) : rStr (some ((.leaf (.str s) : SV m), bs)) k = k s := rfl
theorem rSl_eq (k : List (List (Leaf m)) → Option β) : rSl (some ((.leaf (.sl c es)), bs)) k = k es := rfl
theorem rOwn_eq (k : List (List (Leaf m)) → Option β) : rOwn t (some ((.own (some t) es), bs)) k = k es := by show svOwnK t (.own (some t) es) k = k es; simp
theorem rBool0_eq (k : Bool → Option β) : rBool0 (some ((.leaf (.bool b) : SV m), [])) k = k b := rfl
theorem rInt0_eq (k : Int → Option β) : rInt0 (some ((.leaf (.int .i64 n) : SV m), [])) k = k n := rfl
theorem rBoolS_eq (k : ByteArray → Bool → Option β) : rBoolS (some ((.leaf (.bool b) : SV m), [[.leaf (.str s)]])) k = k s b := rfl
theorem rIntS_eq (k : ByteArray → Int → Option β) : rIntS (some ((.leaf (.int .i64 n) : SV m), [[.leaf (.str s)]])) k = k s n := rfl
theorem rCol_eq (k : List (List (Leaf m)) → Option β) : rCol t (some (.tup [], [[.own (some t) es]])) k = k es := by show svOwnK t (.own (some t) es) _ = k es; simp
section
variable {r : List (Leaf m)}
theorem aBool_z (k : Bool → Option β) : aBool (.bool b :: r) 0 k = k b := rfl
theorem aInt_z (k : Int → Option β) : aInt (.int .i64 n :: r) 0 k = k n := rfl
theorem aStr_z (k : ByteArray → Option β) : aStr (.str s :: r) 0 k = k s := rfl
theorem aSl_z (k : List (List (Leaf m)) → Option β) : aSl (.sl c es :: r) 0 k = k es := rfl
end
theorem cmb_a {l : Leaf m} {r : List (Leaf m)} {p : Nat} : (∀ k : Bool → Option β, aBool (l :: r) (p + 1) k = aBool r p k) ∧ (∀ k : Int → Option β, aInt (l :: r) (p + 1) k = aInt r p k) ∧ (∀ k : ByteArray → Option β, aStr (l :: r) (p + 1) k = aStr r p k) ∧
    (∀ k : List (List (Leaf m)) → Option β, aSl (l :: r) (p + 1) k = aSl r p k) := ⟨fun _ => rfl, fun _ => rfl, fun _ => rfl, fun _ => rfl⟩
end
theorem rdR : (∀ (m : Bool) (β : Type) (b : Bool) (k : Bool → Option β), vBool (.leaf (.bool b) : SV m) k = k b) ∧
    (∀ (m : Bool) (β : Type) (n : Int) (k : Int → Option β), vInt (.leaf (.int .i64 n) : SV m) k = k n) ∧
    (∀ (m : Bool) (β : Type) (s : ByteArray) (k : ByteArray → Option β), vStr (.leaf (.str s) : SV m) k = k s) ∧
    (∀ (m : Bool) (β : Type) (c : Fl m) (es : List (List (Leaf m))) (k : List (List (Leaf m)) → Option β), vSl (.leaf (.sl c es)) k = k es) ∧
    (∀ (m : Bool) (β : Type) (b : Bool) (bs : List (List (SV m))) (k : Bool → Option β), rBool (some ((.leaf (.bool b) : SV m), bs)) k = k b) ∧
    (∀ (m : Bool) (β : Type) (n : Int) (bs : List (List (SV m))) (k : Int → Option β), rInt (some ((.leaf (.int .i64 n) : SV m), bs)) k = k n) ∧
    (∀ (m : Bool) (β : Type) (s : ByteArray) (bs : List (List (SV m))) (k : ByteArray → Option β), rStr (some ((.leaf (.str s) : SV m), bs)) k = k s) ∧
    (∀ (m : Bool) (β : Type) (c : Fl m) (es : List (List (Leaf m))) (bs : List (List (SV m))) (k : List (List (Leaf m)) → Option β), rSl (some ((.leaf (.sl c es)), bs)) k = k es) ∧
    (∀ (m : Bool) (β : Type) (t : TypeId) (es : List (List (Leaf m))) (bs : List (List (SV m))) (k : List (List (Leaf m)) → Option β), rOwn t (some ((.own (some t) es), bs)) k = k es) ∧
    (∀ (m : Bool) (β : Type) (b : Bool) (k : Bool → Option β), rBool0 (some ((.leaf (.bool b) : SV m), [])) k = k b) ∧
    (∀ (m : Bool) (β : Type) (n : Int) (k : Int → Option β), rInt0 (some ((.leaf (.int .i64 n) : SV m), [])) k = k n) ∧
    (∀ (m : Bool) (β : Type) (b : Bool) (s : ByteArray) (k : ByteArray → Bool → Option β), rBoolS (some ((.leaf (.bool b) : SV m), [[.leaf (.str s)]])) k = k s b) ∧
    (∀ (m : Bool) (β : Type) (n : Int) (s : ByteArray) (k : ByteArray → Int → Option β), rIntS (some ((.leaf (.int .i64 n) : SV m), [[.leaf (.str s)]])) k = k s n) ∧
    (∀ (m : Bool) (β : Type) (t : TypeId) (es : List (List (Leaf m))) (k : List (List (Leaf m)) → Option β), rCol t (some (.tup [], [[.own (some t) es]])) k = k es) ∧
    (∀ (m : Bool) (β : Type) (b : Bool) (r : List (Leaf m)) (k : Bool → Option β), aBool (.bool b :: r) 0 k = k b) ∧
    (∀ (m : Bool) (β : Type) (n : Int) (r : List (Leaf m)) (k : Int → Option β), aInt (.int .i64 n :: r) 0 k = k n) ∧
    (∀ (m : Bool) (β : Type) (s : ByteArray) (r : List (Leaf m)) (k : ByteArray → Option β), aStr (.str s :: r) 0 k = k s) ∧
    (∀ (m : Bool) (β : Type) (c : Fl m) (es : List (List (Leaf m))) (r : List (Leaf m)) (k : List (List (Leaf m)) → Option β), aSl (.sl c es :: r) 0 k = k es) ∧
    (∀ (β : Type) (α : Type) (x : α) (f : α → Option β), (some x).bind f = f x) ∧
    (∀ (m : Bool) (β : Type) (vs : List (SV m)) (k : List (SV m) → Option β), svTupK (.tup vs) k = k vs) ∧
    (∀ (m : Bool) (β : Type) (v : SV m) (r : List (SV m)) (k : SV m → List (SV m) → Option β), headK (v :: r) k = k v r) ∧
    (∀ (m : Bool) (β : Type) (v : List (SV m)) (r : List (List (SV m))) (k : List (SV m) → List (List (SV m)) → Option β), headB (v :: r) k = k v r) ∧
    (∀ (m : Bool) (β : Type) (k : Option β), lastK ([] : List (SV m)) k = k) ∧
    (∀ (m : Bool) (β : Type) (k : Option β), lastB ([] : List (List (SV m))) k = k) ∧
    (∀ (m : Bool) (β : Type) (cs : List (Leaf m)) (k : List (Leaf m) → Option β), svAggK (.agg cs) k = k cs) ∧
    (∀ (m : Bool) (β : Type) (e : TypeId) (es : List (List (Leaf m))) (k : List (List (Leaf m)) → Option β), svOwnK e (.own (some e) es) k = k es) ∧
    (∀ (β : Type) (x y : Option β), branch true x y = x) ∧
    (∀ (β : Type) (x y : Option β), branch false x y = y) ∧
    (∀ (β : Type) (x : Option β), guarded true x = x) :=
  ⟨fun _ _ _ _ => rfl, fun _ _ _ _ => rfl, fun _ _ _ _ => rfl, fun _ _ _ _ _ => rfl, fun _ _ _ _ _ => rfl, fun _ _ _ _ _ => rfl, fun _ _ _ _ _ => rfl, fun _ _ _ _ _ _ => rfl, fun _ _ _ _ _ k => rOwn_eq k, fun _ _ _ _ => rfl, fun _ _ _ _ => rfl, fun _ _ _ _ _ => rfl, fun _ _ _ _ _ => rfl, fun _ _ _ _ k => rCol_eq k, fun _ _ _ _ _ => rfl, fun _ _ _ _ _ => rfl, fun _ _ _ _ _ => rfl, fun _ _ _ _ _ _ => rfl, fun _ _ _ _ => rfl, fun _ _ _ _ => rfl, fun _ _ _ _ _ => rfl, fun _ _ _ _ _ => rfl, fun _ _ _ => rfl, fun _ _ _ => rfl, fun _ _ _ _ => rfl, fun _ _ => svOwnK_own, fun _ _ _ => rfl, fun _ _ _ => rfl, fun _ _ => rfl⟩
theorem inI : (∀ a b : Nat, ((a : Int) < (b : Int)) = (a < b)) ∧ (∀ n : Nat, (0 ≤ (n : Int)) = True) ∧ (∀ n : Nat, ((n : Int)).toNat = n) ∧ decide True = true ∧ (∀ b : Bool, (b && true) = b) ∧ (∀ b : Bool, (true && b) = b) ∧ (∀ (β : Type) (x y : Option β), branch true x y = x) ∧ (∀ (β : Type) (x : Option β), guarded true x = x) :=
  ⟨fun _ _ => propext Int.ofNat_lt, fun _ => eq_true (Int.natCast_nonneg _), Int.toNat_natCast, by decide, Bool.and_true, Bool.true_and, fun _ _ _ => rfl, fun _ _ => rfl⟩
end Go.Vs
end
section
namespace Go.Vs
variable {β : Type}
structure R_iss where
  mk ::
  (a0 : Int) (a1 a2 : ByteArray)
def R_iss.l (x : R_iss) : El := [.int .i64 x.a0, .str x.a1, .str x.a2]
def R_iss.b (x : R_iss) : List (SV false) := [.leaf (.int .i64 x.a0), .leaf (.str x.a1), .leaf (.str x.a2)]
def R_iss.rd (e : El) (k : R_iss → Option β) : Option β := aInt e 0 fun a0 => aStr e 1 fun a1 => aStr e 2 fun a2 => k ⟨a0, a1, a2⟩
def R_iss.va (v : SV false) (k : R_iss → Option β) : Option β := svAggK v fun e => guarded (e.length == 3) (R_iss.rd e k)
theorem R_iss.rd_l (x : R_iss) (k : R_iss → Option β) : R_iss.rd x.l k = k x := rfl
theorem R_iss.va_l (x : R_iss) (k : R_iss → Option β) : R_iss.va (.agg x.l) k = k x := rfl
def R_iss.of (e : El) : R_iss := ⟨intAt e 0, strAt e 1, strAt e 2⟩
theorem R_iss.of_l (x : R_iss) : R_iss.of x.l = x := rfl
theorem R_iss.len (x : R_iss) : x.l.length = 3 := rfl
theorem atP : (∀ (β : Type) (x : R_iss), (∀ k : Int → Option β, aInt x.l 0 k = k x.a0) ∧ (∀ k : ByteArray → Option β, aStr x.l 1 k = k x.a1) ∧ (∀ k : ByteArray → Option β, aStr x.l 2 k = k x.a2)) := fun _ _ => ⟨fun _ => rfl, fun _ => rfl, fun _ => rfl⟩
end Go.Vs
end
section
set_option linter.unusedVariables false
namespace Go.Vs
theorem wrap_upL {i : Nat} (h : i < maxLen) : IntKind.i64.wrap ((i : Int) + 1) = ((i + 1 : Nat) : Int) := by
  have hm : maxLen = 9223372036854775807 := rfl
  rw [wrap64 (by omega) (by omega)]; rfl
mutual
def szF : Leaf false → Int → Int
  | .str s, n => if IntKind.i64.wrap (n - (s.size : Int)) < 0 then -1 else IntKind.i64.wrap (n - (s.size : Int))
  | .sl _ es, n => if IntKind.i64.wrap (n - (es.length : Int)) < 0 then -1 else szE es (IntKind.i64.wrap (n - (es.length : Int)))
  | .bool _, n => n
  | .int _ _, n => n
  | .unk, n => n
  | .nl _, n => n
def szL : List (Leaf false) → Int → Int
  | [], n => n
  | l :: r, n => if szF l n < 0 then -1 else szL r (szF l n)
def szE : List (List (Leaf false)) → Int → Int
  | [], n => n
  | e :: es, n => if szL e n < 0 then -1 else szE es (szL e n)
end
theorem szL_append : ∀ (a b : List (Leaf false)) (n : Int), 0 ≤ n → szL (a ++ b) n = if szL a n < 0 then -1 else szL b (szL a n)
  | [], b, n, h => by simp [szL, Int.not_lt.2 h]
  | l :: a, b, n, h => by
    simp only [List.cons_append, szL]
    by_cases h1 : szF l n < 0
    · simp [h1]
    · simp only [h1, if_false]
      exact szL_append a b _ (by omega)
section
variable {r : List (Leaf false)} {n : Int}
abbrev vint (n : Int) : SV false := .leaf (.int .i64 n)
abbrev vbool (b : Bool) : SV false := .leaf (.bool b)
abbrev vsl (es : List (List (Leaf false))) : SV false := .leaf (.sl fP es)
abbrev Res := Option (SV false × List (List (SV false)))
theorem sz_str {s : ByteArray} {Y : Res} (g : 0 ≤ IntKind.i64.wrap (n - (s.size : Int)) → Y = some (vint (szL r (IntKind.i64.wrap (n - (s.size : Int)))), [])) :
    branch (decide (IntKind.i64.wrap (n - (s.size : Int)) < 0)) (some (SV.leaf (Leaf.int .i64 (-1)), [])) Y = some (vint (szL (.str s :: r) n), []) := by
  rw [branch_ite]
  by_cases h : IntKind.i64.wrap (n - (s.size : Int)) < 0
  · simp [h, szL, szF]
  · simp only [h, decide_false, Bool.false_eq_true, if_false, szL, szF]
    exact g (by omega)
theorem sz_int {k : IntKind} {z : Int} {Y : Res} (hn : 0 ≤ n) (g : Y = some (vint (szL r n), [])) : Y = some (vint (szL (.int k z :: r) n), []) := by
  rw [g]; simp [szL, szF, Int.not_lt.2 hn]
theorem sz_bool {b : Bool} {Y : Res} (hn : 0 ≤ n) (g : Y = some (vint (szL r n), [])) : Y = some (vint (szL (.bool b :: r) n), []) := by
  rw [g]; simp [szL, szF, Int.not_lt.2 hn]
theorem sz_call {d : Res} {a : List (Leaf false)} {Y : Int → Res} (hd : d = some (vint (szL a n), [])) (hn : 0 ≤ n) (g : ∀ k, 0 ≤ k → Y k = some (vint (szL r k), [])) :
    (d.bind fun r => svLeafK r.fst fun l => intK .i64 l fun n => branch (decide (n < 0)) (some (SV.leaf (Leaf.int .i64 (-1)), [])) (Y n)) = some (vint (szL (a ++ r) n), []) := by
  rw [hd, szL_append _ _ _ hn]
  simp only [Option.bind_some, svLeafK_leaf, intK_int, branch_ite]
  by_cases h : szL a n < 0
  · simp [h]
  · simp only [h, decide_false, Bool.false_eq_true, if_false]
    exact g _ (by omega)
theorem sz_callS {d : Res} {es : List (List (Leaf false))} {Y : Int → Res} (hd : d = some (vint (szF (.sl fP es) n), [])) (g : ∀ k, 0 ≤ k → Y k = some (vint (szL r k), [])) :
    (d.bind fun r => svLeafK r.fst fun l => intK .i64 l fun n => branch (decide (n < 0)) (some (SV.leaf (Leaf.int .i64 (-1)), [])) (Y n)) = some (vint (szL (.sl fP es :: r) n), []) := by
  rw [hd]
  simp only [Option.bind_some, svLeafK_leaf, intK_int, branch_ite, szL]
  by_cases h : szF (.sl fP es) n < 0
  · simp [h]
  · simp only [h, decide_false, Bool.false_eq_true, if_false]
    exact g _ (by omega)
theorem sz_len {es : List (List (Leaf false))} {Y : Res} (g : 0 ≤ IntKind.i64.wrap (n - (es.length : Int)) → Y = some (vint (szE es (IntKind.i64.wrap (n - (es.length : Int)))), [])) :
    branch (decide (IntKind.i64.wrap (n - (es.length : Int)) < 0)) (some (SV.leaf (Leaf.int .i64 (-1)), [])) Y = some (vint (szF (.sl fP es) n), []) := by
  rw [branch_ite, szF]
  by_cases h : IntKind.i64.wrap (n - (es.length : Int)) < 0
  · simp [h]
  · simp only [h, decide_false, Bool.false_eq_true, if_false]
    exact g (by omega)
theorem sz_next {e : List (Leaf false)} {es : List (List (Leaf false))} {d : Res} {Y : Int → Res} (hd : d = some (vint (szL e n), [])) (g : ∀ k, 0 ≤ k → Y k = some (vint (szE es k), [])) :
    (d.bind fun r => svLeafK r.fst fun l => intK .i64 l fun n => branch (decide (n < 0)) (some (SV.leaf (Leaf.int .i64 (-1)), [])) (Y n)) = some (vint (szE (e :: es) n), []) := by
  rw [hd]
  simp only [Option.bind_some, svLeafK_leaf, intK_int, branch_ite, szE]
  by_cases h : szL e n < 0
  · simp [h]
  · simp only [h, decide_false, Bool.false_eq_true, if_false]
    exact g _ (by omega)
theorem sz_nextS {s : ByteArray} {es : List (List (Leaf false))} {Y : Res} (g : 0 ≤ IntKind.i64.wrap (n - (s.size : Int)) → Y = some (vint (szE es (IntKind.i64.wrap (n - (s.size : Int)))), [])) :
    branch (decide (IntKind.i64.wrap (n - (s.size : Int)) < 0)) (some (SV.leaf (Leaf.int .i64 (-1)), [])) Y = some (vint (szE ([.str s] :: es) n), []) := by
  rw [branch_ite]
  by_cases h : IntKind.i64.wrap (n - (s.size : Int)) < 0
  · simp [h, szE, szL, szF]
  · simp only [h, decide_false, Bool.false_eq_true, if_false, szE, szL, szF]
    exact g (by omega)
end
mutual
def mkF : Leaf false → Int → Int
  | .str _, k => IntKind.i64.wrap (k + 1)
  | .bool _, k => IntKind.i64.wrap (k + 1)
  | .int _ _, k => IntKind.i64.wrap (k + 1)
  | .sl _ es, k => mkE es k
  | .unk, k => k
  | .nl _, k => k
def mkL : List (Leaf false) → Int → Int
  | [], k => k
  | l :: r, k => mkL r (mkF l k)
def mkE : List (List (Leaf false)) → Int → Int
  | [], k => k
  | e :: es, k => mkE es (mkL e k)
end
theorem mkL_append : ∀ (a b : List (Leaf false)) (k : Int), mkL (a ++ b) k = mkL b (mkL a k)
  | [], _, _ => rfl
  | l :: a, b, k => by simp only [List.cons_append, mkL]; exact mkL_append a b _
mutual
def tF : Leaf false → Nat
  | .sl _ es => es.length + tE es
  | _ => 0
def tL : List (Leaf false) → Nat
  | [] => 0
  | l :: r => tF l + tL r
def tE : List (List (Leaf false)) → Nat
  | [] => 0
  | e :: es => tL e + tE es
end
mutual
def okF (z : Nat) : Leaf false → Prop
  | .str s => s.size ≤ maxLen
  | .sl _ es => es.length ≤ maxLen ∧ okE z es
  | _ => True
def okL (z : Nat) : List (Leaf false) → Prop
  | [] => True
  | l :: r => okF z l ∧ okL z r
def okE (z : Nat) : List (List (Leaf false)) → Prop
  | [] => True
  | e :: es => e.length ≤ z ∧ okL z e ∧ okE z es
end
def cap : Int := 4611686018427387904
mutual
theorem szF_t {z : Nat} : ∀ (l : Leaf false) (n : Int), okF z l → 0 ≤ n → n ≤ cap → 0 ≤ szF l n → szF l n ≤ n ∧ (tF l : Int) ≤ n - szF l n
  | .str s, n, ho, h0, hn, h => by
    have hm : maxLen = 9223372036854775807 := rfl
    simp only [okF] at ho
    simp only [szF, tF, cap] at *
    rw [wrap64 (by omega) (by omega)] at h ⊢
    split at h <;> simp_all <;> omega
  | .sl _ es, n, ho, h0, hn, h => by
    have hm : maxLen = 9223372036854775807 := rfl
    simp only [okF] at ho
    simp only [szF, tF] at *
    rw [wrap64 (by simp only [cap] at hn; omega) (by simp only [cap] at hn; omega)] at h ⊢
    by_cases hl : n - (es.length : Int) < 0
    · simp [hl] at h
    · simp only [hl, if_false] at h ⊢
      have := szE_t es (n - es.length) ho.2 (by omega) (by omega) h
      omega
  | .bool _, n, _, _, _, _ => by simp [szF, tF]
  | .int _ _, n, _, _, _, _ => by simp [szF, tF]
  | .unk, n, _, _, _, _ => by simp [szF, tF]
  | .nl _, n, _, _, _, _ => by simp [szF, tF]
theorem szL_t {z : Nat} : ∀ (l : List (Leaf false)) (n : Int), okL z l → 0 ≤ n → n ≤ cap → 0 ≤ szL l n → szL l n ≤ n ∧ (tL l : Int) ≤ n - szL l n
  | [], n, _, _, _, _ => by simp [szL, tL]
  | l :: r, n, ho, h0, hn, h => by
    simp only [okL] at ho
    simp only [szL, tL] at *
    by_cases hl : szF l n < 0
    · simp [hl] at h
    · simp only [hl, if_false] at h ⊢
      have h1 := szF_t l n ho.1 h0 hn (by omega)
      have h2 := szL_t r _ ho.2 (by omega) (by omega) h
      omega
theorem szE_t {z : Nat} : ∀ (l : List (List (Leaf false))) (n : Int), okE z l → 0 ≤ n → n ≤ cap → 0 ≤ szE l n → szE l n ≤ n ∧ (tE l : Int) ≤ n - szE l n
  | [], n, _, _, _, _ => by simp [szE, tE]
  | e :: r, n, ho, h0, hn, h => by
    simp only [okE] at ho
    simp only [szE, tE] at *
    by_cases hl : szL e n < 0
    · simp [hl] at h
    · simp only [hl, if_false] at h ⊢
      have h1 := szL_t e n ho.2.1 h0 hn (by omega)
      have h2 := szE_t r _ ho.2.2 (by omega) (by omega) h
      omega
end
mutual
theorem mkF_t {z : Nat} : ∀ (l : Leaf false) (k : Int), okF z l → 0 ≤ k → k + 1 + z * tF l ≤ cap → k ≤ mkF l k ∧ mkF l k ≤ k + 1 + z * tF l
  | .str s, k, _, h0, hn => by simp only [mkF, tF, cap] at *; rw [wrap64 (by omega) (by omega)]; omega
  | .bool s, k, _, h0, hn => by simp only [mkF, tF, cap] at *; rw [wrap64 (by omega) (by omega)]; omega
  | .int _ s, k, _, h0, hn => by simp only [mkF, tF, cap] at *; rw [wrap64 (by omega) (by omega)]; omega
  | .unk, k, _, h0, hn => by simp only [mkF, tF]; omega
  | .nl _, k, _, h0, hn => by simp only [mkF, tF]; omega
  | .sl _ es, k, ho, h0, hn => by
    simp only [okF] at ho
    simp only [mkF, tF] at *
    have e : (z : Int) * ((es.length + tE es : Nat) : Int) = z * es.length + z * tE es := by push_cast; rw [Int.mul_add]
    rw [e] at hn ⊢
    have := mkE_t es k ho.2 h0 (by omega)
    omega
theorem mkL_t {z : Nat} : ∀ (l : List (Leaf false)) (k : Int), okL z l → 0 ≤ k → k + l.length + z * tL l ≤ cap → k ≤ mkL l k ∧ mkL l k ≤ k + l.length + z * tL l
  | [], k, _, _, _ => by simp [mkL, tL]
  | l :: r, k, ho, h0, hn => by
    simp only [okL] at ho
    have e : (z : Int) * ((tF l + tL r : Nat) : Int) = z * tF l + z * tL r := by push_cast; rw [Int.mul_add]
    have e2 : (((l :: r).length : Nat) : Int) = r.length + 1 := by simp
    rw [show tL (l :: r) = tF l + tL r by simp [tL], e, e2] at hn ⊢
    rw [show mkL (l :: r) k = mkL r (mkF l k) by simp [mkL]]
    have p1 : 0 ≤ (z : Int) * tF l := Int.mul_nonneg (by omega) (by omega)
    have p2 : 0 ≤ (z : Int) * tL r := Int.mul_nonneg (by omega) (by omega)
    have h1 := mkF_t l k ho.1 h0 (by omega)
    have h2 := mkL_t r (mkF l k) ho.2 (by omega) (by omega)
    omega
theorem mkE_t {z : Nat} : ∀ (l : List (List (Leaf false))) (k : Int), okE z l → 0 ≤ k → k + z * l.length + z * tE l ≤ cap → k ≤ mkE l k ∧ mkE l k ≤ k + z * l.length + z * tE l
  | [], k, _, _, _ => by simp [mkE, tE]
  | e :: r, k, ho, h0, hn => by
    simp only [okE] at ho
    have e1 : (z : Int) * ((tL e + tE r : Nat) : Int) = z * tL e + z * tE r := by push_cast; rw [Int.mul_add]
    have e2 : (z : Int) * (((e :: r).length : Nat) : Int) = z * r.length + z := by rw [List.length_cons]; push_cast; rw [Int.mul_add, Int.mul_one]
    rw [show tE (e :: r) = tL e + tE r by simp [tE], e1, e2] at hn ⊢
    rw [show mkE (e :: r) k = mkE r (mkL e k) by simp [mkE]]
    have p1 : 0 ≤ (z : Int) * tL e := Int.mul_nonneg (by omega) (by omega)
    have p2 : 0 ≤ (z : Int) * tE r := Int.mul_nonneg (by omega) (by omega)
    have p3 : 0 ≤ (z : Int) * r.length := Int.mul_nonneg (by omega) (by omega)
    have h1 := mkL_t e k ho.2.1 h0 (by omega)
    have h2 := mkE_t r (mkL e k) ho.2.2 (by omega) (by omega)
    omega
end
theorem getD_lt {m : Bool} {l : List (List (Leaf m))} {i : Nat} (h : i < l.length) : l.getD i [] = l[i] := by simp [List.getD, h]
theorem drop_at {α : Type} {l : List α} {i : Nat} (h : i < l.length) : l.drop i = l[i] :: l.drop (i + 1) := List.drop_eq_getElem_cons h
theorem sized_all {m : Bool} {z : Nat} {es : List (List (Leaf m))} (h : ∀ e ∈ es, e.length = z) : sized z es = true := by
  simp only [sized, List.all_eq_true, beq_iff_eq]; exact h
theorem reE_all {m m' : Bool} {φ : Fl m → Fl m'} {z : Nat} {es : List (List (Leaf m))} (h : ∀ e ∈ es, e.length = z) : ∀ e ∈ reE φ es, e.length = z := by
  intro e he
  rw [reE_map] at he
  obtain ⟨x, hx, rfl⟩ := List.mem_map.1 he
  rw [reL_length]; exact h x hx
theorem reE_get {m m' : Bool} {φ : Fl m → Fl m'} {es : List (List (Leaf m))} {i : Nat} (h : i < (reE φ es).length) : (reE φ es)[i] = reL φ (es[i]'(by rwa [reE_length] at h)) := by
  simp only [reE_map, List.getElem_map]
theorem reE_getD {m m' : Bool} {φ : Fl m → Fl m'} {es : List (List (Leaf m))} {i : Nat} (h : i < es.length) : (reE φ es).getD i [] = reL φ es[i] := by
  rw [getD_lt (by rwa [reE_length]), reE_get (by rwa [reE_length])]
theorem soL_map : ∀ l : List (Leaf false), soL l = l.map soF
  | [] => by rw [soL]; rfl
  | l :: r => by rw [soL, List.map_cons, soL_map r]
theorem soE_map : ∀ l : List (List (Leaf false)), soE l = l.map soL
  | [] => by rw [soE]; rfl
  | l :: r => by rw [soE, List.map_cons, soE_map r]
theorem soE_length (l : List (List (Leaf false))) : (soE l).length = l.length := by rw [soE_map, List.length_map]
theorem soE_all {z : Nat} {es : List (List (Leaf false))} (h : ∀ e ∈ es, e.length = z) : ∀ e ∈ soE es, e.length = z := by
  intro e he
  rw [soE_map] at he
  obtain ⟨x, hx, rfl⟩ := List.mem_map.1 he
  rw [soL_map, List.length_map]; exact h x hx
theorem soE_getD {es : List (List (Leaf false))} {i : Nat} (h : i < es.length) : (soE es).getD i [] = soL es[i] := by
  rw [soE_map, List.getD_eq_getElem?_getD, List.getElem?_map, List.getElem?_eq_getElem h]; rfl
theorem okE_of {z : Nat} : ∀ {es : List (List (Leaf false))}, (∀ e ∈ es, e.length ≤ z ∧ okL z e) → okE z es
  | [], _ => by simp [okE]
  | e :: r, h => by
    simp only [okE]
    exact ⟨(h e (by simp)).1, (h e (by simp)).2, okE_of fun x hx => h x (by simp [hx])⟩
theorem tE_mem : ∀ {es : List (List (Leaf false))} {e : List (Leaf false)}, e ∈ es → tL e ≤ tE es
  | x :: r, e, h => by
    simp only [tE]
    rcases List.mem_cons.1 h with rfl | h
    · omega
    · have := tE_mem h; omega
def IsStr (e : List (Leaf false)) : Prop := ∃ s : ByteArray, e = [.str s] ∧ s.size ≤ maxLen
theorem IsStr.len {e : List (Leaf false)} (h : IsStr e) : e.length = 1 := by obtain ⟨s, rfl, _⟩ := h; rfl
theorem IsStr.ok {e : List (Leaf false)} (h : IsStr e) : okL 16 e := by obtain ⟨s, rfl, hs⟩ := h; simp only [okL, okF]; exact ⟨hs, trivial⟩
theorem soft_isSoft : Fl.isSoft fSoft = true := rfl
theorem ite_yes {α : Type} {p : Prop} [Decidable p] {a b : α} (h : p) : (if p then a else b) = a := if_pos h
end Go.Vs
namespace Go.Vs
variable {m : Bool}
theorem putAt_two {v l1 l2 : List (SV m)} {p q : Nat} (hq : q = p + l1.length) (h : p + l1.length + l2.length ≤ v.length) : putAt (putAt v p l1) q l2 = putAt v p (l1 ++ l2) := by
  subst hq
  unfold putAt
  have h1 : (v.take p).length = p := by rw [List.length_take]; omega
  have e1 : (v.take p ++ l1 ++ v.drop (p + l1.length)).take (p + l1.length) = v.take p ++ l1 := by
    rw [List.take_append_of_le_length (by rw [List.length_append, h1]; omega), List.take_of_length_le (by rw [List.length_append, h1]; omega)]
  have e2 : (v.take p ++ l1 ++ v.drop (p + l1.length)).drop (p + l1.length + l2.length) = v.drop (p + (l1.length + l2.length)) := by
    rw [List.drop_append, List.drop_of_length_le (by rw [List.length_append, h1]; omega), List.nil_append, List.drop_drop, List.length_append, h1]
    congr 1; omega
  rw [e1, e2, List.length_append]
  simp only [List.append_assoc]
theorem putAt_length {v l : List (SV m)} {p : Nat} (h : p + l.length ≤ v.length) : (putAt v p l).length = v.length := by
  unfold putAt
  simp only [List.length_append, List.length_take, List.length_drop]
  omega
theorem flatten_get {α : Type} {z : Nat} : ∀ {l : List (List α)} {i o : Nat} (hl : ∀ e ∈ l, e.length = z) (hi : i < l.length) (ho : o < z), l.flatten[i * z + o]? = (l[i])[o]?
  | e :: l, 0, o, hl, hi, ho => by
    rw [List.flatten_cons, List.getElem?_append_left (by rw [hl e (by simp)]; omega)]
    simp
  | e :: l, i + 1, o, hl, hi, ho => by
    have he := hl e (by simp)
    rw [List.flatten_cons, List.getElem?_append_right (by rw [he, Nat.add_mul]; omega), he]
    have : (i + 1) * z + o - z = i * z + o := by rw [Nat.add_mul]; omega
    rw [this, List.getElem_cons_succ]
    exact flatten_get (fun e h => hl e (by simp [h])) (by simpa using hi) ho
theorem atSV_row {β : Type} {l : List (List (Leaf m))} {z : Nat} {r : List (SV m)} {i o p : Nat} (hl : ∀ e ∈ l, e.length = z) (hi : i < l.length) (ho : o < z) (hp : p = i * z + o) (k : SV m → Option β) :
    atSV (rowAt l l.length r) p k = k (.leaf ((l[i])[o]'(by rw [hl _ (List.getElem_mem hi)]; exact ho))) := by
  subst hp
  have hlen : l.flatten.length = l.length * z := flatten_len hl
  have hm : i * z + o < l.flatten.length := by
    rw [hlen]
    have : (i + 1) * z ≤ l.length * z := Nat.mul_le_mul_right z hi
    rw [Nat.add_mul] at this; omega
  unfold atSV rowAt
  rw [List.take_length, List.getElem?_append_left (by rw [List.length_map]; exact hm), List.getElem?_map, flatten_get hl hi ho, List.getElem?_eq_getElem (by rw [hl _ (List.getElem_mem hi)]; exact ho)]
  rfl
theorem rowAt_flat {l : List (List (Leaf m))} {i : Nat} {r : List (SV m)} (h : r.all SV.flat = true) : (rowAt l i r).all SV.flat = true := by
  unfold rowAt
  rw [List.all_append, h, Bool.and_true, List.all_map]
  exact List.all_eq_true.2 fun _ _ => rfl
end Go.Vs
namespace Go.Vs
def msL : List (Leaf false) → Int → Int
  | [], k => k
  | .sl _ es :: r, k => msL r (mkE es k)
  | .bool _ :: r, k => msL r k
  | .int _ _ :: r, k => msL r k
  | .str _ :: r, k => msL r k
  | .unk :: r, k => msL r k
  | .nl _ :: r, k => msL r k
theorem msL_t {z : Nat} : ∀ (l : List (Leaf false)) (k : Int), okL z l → 0 ≤ k → k + z * tL l ≤ cap → k ≤ msL l k ∧ msL l k ≤ k + z * tL l
  | [], k, _, _, _ => by simp [msL, tL]
  | .sl c es :: r, k, ho, h0, hn => by
    simp only [okL, okF] at ho
    have e1 : (z : Int) * ((tL (.sl c es :: r) : Nat) : Int) = z * es.length + z * tE es + z * tL r := by
      rw [show tL (.sl c es :: r) = es.length + tE es + tL r by simp [tL, tF]]
      push_cast; rw [Int.mul_add, Int.mul_add]
    rw [e1] at hn ⊢
    rw [show msL (.sl c es :: r) k = msL r (mkE es k) by simp [msL]]
    have p1 : 0 ≤ (z : Int) * es.length := Int.mul_nonneg (by omega) (by omega)
    have p2 : 0 ≤ (z : Int) * tE es := Int.mul_nonneg (by omega) (by omega)
    have p3 : 0 ≤ (z : Int) * tL r := Int.mul_nonneg (by omega) (by omega)
    have h1 := mkE_t es k ho.1.2 h0 (by omega)
    have h2 := msL_t r (mkE es k) ho.2 (by omega) (by omega)
    omega
  | .bool b :: r, k, ho, h0, hn => by
    simp only [okL] at ho
    have e : tL (.bool b :: r) = tL r := by simp [tL, tF]
    rw [e] at hn ⊢
    exact msL_t r k ho.2 h0 hn
  | .int kk b :: r, k, ho, h0, hn => by
    simp only [okL] at ho
    have e : tL (.int kk b :: r) = tL r := by simp [tL, tF]
    rw [e] at hn ⊢
    exact msL_t r k ho.2 h0 hn
  | .str b :: r, k, ho, h0, hn => by
    simp only [okL] at ho
    have e : tL (.str b :: r) = tL r := by simp [tL, tF]
    rw [e] at hn ⊢
    exact msL_t r k ho.2 h0 hn
  | .unk :: r, k, ho, h0, hn => by
    simp only [okL] at ho
    have e : tL (.unk :: r) = tL r := by simp [tL, tF]
    rw [e] at hn ⊢
    exact msL_t r k ho.2 h0 hn
  | .nl b :: r, k, ho, h0, hn => by
    simp only [okL] at ho
    have e : tL (.nl b :: r) = tL r := by simp [tL, tF]
    rw [e] at hn ⊢
    exact msL_t r k ho.2 h0 hn
end Go.Vs
end
section
open Go Go.Vs Go.Proofs
namespace Go.Vs
noncomputable abbrev atA {m : Bool} (D : Oracle m) (f : FuncId) (x : List Nat × St m) : Ret m := atF Try.prog D Hs f x.1 0 x.2
end Go.Vs
end
section
open Go Go.Vs Go.Proofs
set_option maxRecDepth 100000
set_option linter.unusedVariables false
namespace Go.Vs
def laws_FnExactOfClass_s0 (c0 : Fl true) (e0 : LT) (i1 : Int) : St true := St.mk [.leaf (.sl c0 e0),.leaf (.int .i64 i1),.any,.any,.any,.any,.any,.any,.any,.any,.any,.any,.any,.any,.any,.any,.any,.any,.any,.any,.any,.any,.any,.any,.any,.any,.any,.any,.any,.any,.any,.any,.any,.any,.any,.any,.any,.any,.any,.any,.any,.any,.any,.any,.any,.any,.any,.any,.any,.any,.any,.any,.any,.any,.any,.any,.any,.any,.any,.any,.any,.any,.any,.any,.any,.any,.any,.any,.any,.any,.any,.any,.any,.any] [none,none,none,none,none,none,none,none,none,none,none,none,none,none,none,none,none,none,none,none,none,none,none,none,none,none,none,none,none,none,none,none,none,none,none,none,none,none,none,none,none,none,none,none,none,none,none,none,none,none,none,none,none,none,none,none,none,none,none,none,none,none,none,none,none,none,none,none,none,none,none,none,none,none]
theorem laws_FnExactOfClass_c0 (D : Oracle true) (J : PT → Ret true) (c0 : Fl true) (e0 : LT) (i1 : Int) : nameF Try.prog D Hs F.laws_FnExactOfClass [way 5] 0 J (way 0,laws_FnExactOfClass_s0 c0 e0 i1) = (D F.laws_szChangeS [.leaf (.sl c0 e0),.leaf (.int .i64 1048576)] []).bind fun r => svLeafK r.fst fun l => intK .i64 l fun n => branch (decide (n < 0)) (some (.leaf (.bool true),[])) ((D F.laws_toChangeS [.leaf (.sl c0 e0)] []).bind fun r => svSlK r.fst fun c es => (D F.spec_OfClass [.leaf (.sl c es),.leaf (.int .i64 i1)] []).bind fun r => svOwnK T.impl_Change r.fst fun es => J (way 5,St.mk [.leaf (.sl c0 e0),.leaf (.int .i64 i1),.any,.any,.any,.any,.own (some T.impl_Change) es,.any,.any,.any,.any,.any,.any,.any,.any,.any,.any,.any,.any,.any,.any,.any,.any,.any,.any,.any,.any,.any,.any,.any,.any,.any,.any,.any,.any,.any,.any,.any,.any,.any,.any,.any,.any,.any,.any,.any,.any,.any,.any,.any,.any,.any,.any,.any,.any,.any,.any,.any,.any,.any,.any,.any,.any,.any,.any,.any,.any,.any,.any,.any,.any,.any,.any,.any] [none,none,none,none,none,none,none,none,none,none,none,none,none,none,none,none,none,none,none,none,none,none,none,none,none,none,none,none,none,none,none,none,none,none,none,none,none,none,none,none,none,none,none,none,none,none,none,none,none,none,none,none,none,none,none,none,none,none,none,none,none,none,none,none,none,none,none,none,none,none,none,none,none,none])) := by revert J; refine id ?_; intro J; kernel_rfl
def laws_FnExactOfClass_s1 (c0 : Fl true) (e0 : LT) (i1 : Int) (c6 : Fl true) (e6 : LT) : St true := St.mk [.leaf (.sl c0 e0),.leaf (.int .i64 i1),.any,.any,.any,.any,.leaf (.sl c6 e6),.any,.any,.any,.any,.any,.any,.any,.any,.any,.any,.any,.any,.any,.any,.any,.any,.any,.any,.any,.any,.any,.any,.any,.any,.any,.any,.any,.any,.any,.any,.any,.any,.any,.any,.any,.any,.any,.any,.any,.any,.any,.any,.any,.any,.any,.any,.any,.any,.any,.any,.any,.any,.any,.any,.any,.any,.any,.any,.any,.any,.any,.any,.any,.any,.any,.any,.any] [none,none,none,none,none,none,none,none,none,none,none,none,none,none,none,none,none,none,none,none,none,none,none,none,none,none,none,none,none,none,none,none,none,none,none,none,none,none,none,none,none,none,none,none,none,none,none,none,none,none,none,none,none,none,none,none,none,none,none,none,none,none,none,none,none,none,none,none,none,none,none,none,none,none]
theorem laws_FnExactOfClass_c1 (D : Oracle true) (J : PT → Ret true) (c0 : Fl true) (e0 : LT) (i1 : Int) (c6 : Fl true) (e6 : LT) : nameF Try.prog D Hs F.laws_FnExactOfClass [way 6] 0 J (way 5,laws_FnExactOfClass_s1 c0 e0 i1 c6 e6) = (D F.laws_toChangeS [.leaf (.sl c0 e0)] []).bind fun r => svSlK r.fst fun c es => J (way 6,St.mk [.leaf (.sl c0 e0),.leaf (.int .i64 i1),.any,.any,.any,.any,.leaf (.sl c6 e6),.leaf (.sl c es),.any,.any,.any,.any,.any,.any,.any,.any,.any,.any,.any,.any,.any,.any,.any,.any,.any,.any,.any,.any,.any,.any,.any,.any,.any,.any,.any,.any,.any,.any,.any,.any,.any,.any,.any,.any,.any,.any,.any,.any,.any,.any,.any,.any,.any,.any,.any,.any,.any,.any,.any,.any,.any,.any,.any,.any,.any,.any,.any,.any,.any,.any,.any,.any,.any,.any] [none,none,none,none,none,none,none,none,none,none,none,none,none,none,none,none,none,none,none,none,none,none,none,none,none,none,none,none,none,none,none,none,none,none,none,none,none,none,none,none,none,none,none,none,none,none,none,none,none,none,none,none,none,none,none,none,none,none,none,none,none,none,none,none,none,none,none,none,none,none,none,none,none,none]) := by revert J; refine id ?_; intro J; kernel_rfl
def laws_FnExactOfClass_s2 (c0 : Fl true) (e0 : LT) (i1 : Int) (c6 : Fl true) (e6 : LT) (c7 : Fl true) (e7 : LT) : St true := St.mk [.leaf (.sl c0 e0),.leaf (.int .i64 i1),.any,.any,.any,.any,.leaf (.sl c6 e6),.leaf (.sl c7 e7),.any,.any,.any,.any,.any,.any,.any,.any,.any,.any,.any,.any,.any,.any,.any,.any,.any,.any,.any,.any,.any,.any,.any,.any,.any,.any,.any,.any,.any,.any,.any,.any,.any,.any,.any,.any,.any,.any,.any,.any,.any,.any,.any,.any,.any,.any,.any,.any,.any,.any,.any,.any,.any,.any,.any,.any,.any,.any,.any,.any,.any,.any,.any,.any,.any,.any] [none,none,none,none,none,none,none,none,none,none,none,none,none,none,none,none,none,none,none,none,none,none,none,none,none,none,none,none,none,none,none,none,none,none,none,none,none,none,none,none,none,none,none,none,none,none,none,none,none,none,none,none,none,none,none,none,none,none,none,none,none,none,none,none,none,none,none,none,none,none,none,none,none,none]
theorem laws_FnExactOfClass_c2 (D : Oracle true) (J : PT → Ret true) (c0 : Fl true) (e0 : LT) (i1 : Int) (c6 : Fl true) (e6 : LT) (c7 : Fl true) (e7 : LT) : nameF Try.prog D Hs F.laws_FnExactOfClass [way 9] 0 J (way 6,laws_FnExactOfClass_s2 c0 e0 i1 c6 e6 c7 e7) = (D F.impl_OfClass [.leaf (.sl c7 e7),.leaf (.int .i64 i1)] []).bind fun r => svSlK r.fst fun c es => (D F.laws_eqChangeS [.leaf (.sl c es),.leaf (.sl c6 e6)] []).bind fun r => svLeafK r.fst fun l => boolK l fun b => branch (!b) (some (.leaf (.bool false),[])) ((D F.laws_toChangeS [.leaf (.sl c0 e0)] []).bind fun r => svSlK r.fst fun c_1 es_1 => (D F.laws_eqChangeS [.leaf (.sl c7 e7),.leaf (.sl c_1 es_1)] []).bind fun r => svLeafK r.fst fun l => boolK l fun b => branch (!b) (some (.leaf (.bool false),[])) (J (way 9,St.mk [.leaf (.sl c0 e0),.leaf (.int .i64 i1),.any,.any,.any,.any,.leaf (.sl c6 e6),.leaf (.sl c7 e7),.leaf (.sl c es),.any,.any,.any,.any,.any,.any,.any,.any,.any,.any,.any,.any,.any,.any,.any,.any,.any,.any,.any,.any,.any,.any,.any,.any,.any,.any,.any,.any,.any,.any,.any,.any,.any,.any,.any,.any,.any,.any,.any,.any,.any,.any,.any,.any,.any,.any,.any,.any,.any,.any,.any,.any,.any,.any,.any,.any,.any,.any,.any,.any,.any,.any,.any,.any,.any] [none,none,none,none,none,none,none,none,none,none,none,none,none,none,none,none,none,none,none,none,none,none,none,none,none,none,none,none,none,none,none,none,none,none,none,none,none,none,none,none,none,none,none,none,none,none,none,none,none,none,none,none,none,none,none,none,none,none,none,none,none,none,none,none,none,none,none,none,none,none,none,none,none,none]))) := by revert J; refine id ?_; intro J; kernel_rfl
def laws_FnExactOfClass_s3 (c0 : Fl true) (e0 : LT) (i1 : Int) (c6 : Fl true) (e6 : LT) (c7 : Fl true) (e7 : LT) (c8 : Fl true) (e8 : LT) : St true := St.mk [.leaf (.sl c0 e0),.leaf (.int .i64 i1),.any,.any,.any,.any,.leaf (.sl c6 e6),.leaf (.sl c7 e7),.leaf (.sl c8 e8),.any,.any,.any,.any,.any,.any,.any,.any,.any,.any,.any,.any,.any,.any,.any,.any,.any,.any,.any,.any,.any,.any,.any,.any,.any,.any,.any,.any,.any,.any,.any,.any,.any,.any,.any,.any,.any,.any,.any,.any,.any,.any,.any,.any,.any,.any,.any,.any,.any,.any,.any,.any,.any,.any,.any,.any,.any,.any,.any,.any,.any,.any,.any,.any,.any] [none,none,none,none,none,none,none,none,none,none,none,none,none,none,none,none,none,none,none,none,none,none,none,none,none,none,none,none,none,none,none,none,none,none,none,none,none,none,none,none,none,none,none,none,none,none,none,none,none,none,none,none,none,none,none,none,none,none,none,none,none,none,none,none,none,none,none,none,none,none,none,none,none,none]
theorem laws_FnExactOfClass_c3 (D : Oracle true) (J : PT → Ret true) (c0 : Fl true) (e0 : LT) (i1 : Int) (c6 : Fl true) (e6 : LT) (c7 : Fl true) (e7 : LT) (c8 : Fl true) (e8 : LT) : nameF Try.prog D Hs F.laws_FnExactOfClass [way 12] 0 J (way 9,laws_FnExactOfClass_s3 c0 e0 i1 c6 e6 c7 e7 c8 e8) = (D F.laws_markChangeS [.leaf (.sl c7 e7),.leaf (.int .i64 1)] []).bind fun r => lastB r.snd (svLeafK r.fst fun l => intK .i64 l fun n => branch (decide (n < 0) == false) ((D F.laws_eqChangeS [.leaf (.sl c8 e8),.leaf (.sl c6 e6)] []).bind fun r => svLeafK r.fst fun l => boolK l fun b => branch (!b) (some (.leaf (.bool false),[])) (J (way 12,St.mk [.leaf (.sl c0 e0),.leaf (.int .i64 i1),.any,.any,.any,.any,.leaf (.sl c6 e6),.any,.leaf (.sl c8 e8),.any,.any,.any,.any,.any,.any,.any,.any,.any,.any,.any,.any,.any,.any,.any,.any,.any,.any,.any,.any,.any,.any,.any,.any,.any,.any,.any,.any,.any,.any,.any,.any,.any,.any,.any,.any,.any,.any,.any,.any,.any,.any,.any,.any,.any,.any,.any,.any,.any,.any,.any,.any,.any,.any,.any,.any,.any,.any,.any,.any,.any,.any,.any,.any,.any] [none,none,none,none,none,none,none,none,none,none,none,none,none,none,none,none,none,none,none,none,none,none,none,none,none,none,none,none,none,none,none,none,none,none,none,none,none,none,none,none,none,none,none,none,none,none,none,none,none,none,none,none,none,none,none,none,none,none,none,none,none,none,none,none,none,none,none,none,none,none,none,none,none,none]))) (some (.leaf (.bool false),[]))) := by revert J; refine id ?_; intro J; kernel_rfl
def laws_FnExactOfClass_s4 (c0 : Fl true) (e0 : LT) (i1 : Int) (c6 : Fl true) (e6 : LT) (c8 : Fl true) (e8 : LT) : St true := St.mk [.leaf (.sl c0 e0),.leaf (.int .i64 i1),.any,.any,.any,.any,.leaf (.sl c6 e6),.any,.leaf (.sl c8 e8),.any,.any,.any,.any,.any,.any,.any,.any,.any,.any,.any,.any,.any,.any,.any,.any,.any,.any,.any,.any,.any,.any,.any,.any,.any,.any,.any,.any,.any,.any,.any,.any,.any,.any,.any,.any,.any,.any,.any,.any,.any,.any,.any,.any,.any,.any,.any,.any,.any,.any,.any,.any,.any,.any,.any,.any,.any,.any,.any,.any,.any,.any,.any,.any,.any] [none,none,none,none,none,none,none,none,none,none,none,none,none,none,none,none,none,none,none,none,none,none,none,none,none,none,none,none,none,none,none,none,none,none,none,none,none,none,none,none,none,none,none,none,none,none,none,none,none,none,none,none,none,none,none,none,none,none,none,none,none,none,none,none,none,none,none,none,none,none,none,none,none,none]
theorem laws_FnExactOfClass_c4 (D : Oracle true) (J : PT → Ret true) (c0 : Fl true) (e0 : LT) (i1 : Int) (c6 : Fl true) (e6 : LT) (c8 : Fl true) (e8 : LT) : nameF Try.prog D Hs F.laws_FnExactOfClass [] 0 J (way 12,laws_FnExactOfClass_s4 c0 e0 i1 c6 e6 c8 e8) = (D F.laws_markChangeS [.leaf (.sl c8 e8),.leaf (.int .i64 1)] []).bind fun r => lastB r.snd (svLeafK r.fst fun l => intK .i64 l fun n => (D F.laws_heldChangeS [.leaf (.sl c8 e8),.leaf (.int .i64 1)] []).bind fun r => lastB r.snd (svLeafK r.fst fun l => intK .i64 l fun n_1 => branch (decide (n_1 < 0)) (some (.leaf (.bool false),[])) (branch (n_1 != n) (some (.leaf (.bool false),[])) ((D F.laws_toChangeS [.leaf (.sl c0 e0)] []).bind fun r => svSlK r.fst fun c es => (D F.impl_OfClass [.leaf (.sl c es),.leaf (.int .i64 i1)] []).bind fun r => svSlK r.fst fun c es => (D F.laws_eqChangeS [.leaf (.sl c es),.leaf (.sl c6 e6)] []).bind fun r => svLeafK r.fst fun l => boolK l fun b => branch (!b) (some (.leaf (.bool false),[])) ((D F.laws_heldChangeS [.leaf (.sl c8 e8),.leaf (.int .i64 1)] []).bind fun r => lastB r.snd (svLeafK r.fst fun l => intK .i64 l fun n_2 => branch (decide (n_2 < 0)) (some (.leaf (.bool false),[])) (branch (n_2 != n) (some (.leaf (.bool false),[])) (some (.leaf (.bool true),[]))))))))) := by revert J; refine id ?_; intro J; kernel_rfl
def laws_FnExactOfClass_s4r (c0 : Fl true) (e0 : LT) (i1 : Int) (c6 : Fl true) (e6 : LT) (n8 : Nat) (vx8 : List (SV true)) : St true := St.mk [.leaf (.sl c0 e0),.leaf (.int .i64 i1),.any,.any,.any,.any,.leaf (.sl c6 e6),.any,.bsl 8 3 0 n8,.any,.any,.any,.any,.any,.any,.any,.any,.any,.any,.any,.any,.any,.any,.any,.any,.any,.any,.any,.any,.any,.any,.any,.any,.any,.any,.any,.any,.any,.any,.any,.any,.any,.any,.any,.any,.any,.any,.any,.any,.any,.any,.any,.any,.any,.any,.any,.any,.any,.any,.any,.any,.any,.any,.any,.any,.any,.any,.any,.any,.any,.any,.any,.any,.any] [none,none,none,none,none,none,none,none,some vx8,none,none,none,none,none,none,none,none,none,none,none,none,none,none,none,none,none,none,none,none,none,none,none,none,none,none,none,none,none,none,none,none,none,none,none,none,none,none,none,none,none,none,none,none,none,none,none,none,none,none,none,none,none,none,none,none,none,none,none,none,none,none,none,none,none]
theorem laws_FnExactOfClass_c4r (D : Oracle true) (J : PT → Ret true) (c0 : Fl true) (e0 : LT) (i1 : Int) (c6 : Fl true) (e6 : LT) (n8 : Nat) (vx8 : List (SV true)) : nameF Try.prog D Hs F.laws_FnExactOfClass [] 0 J (way 12,laws_FnExactOfClass_s4r c0 e0 i1 c6 e6 n8 vx8) = guarded ([vx8].all fun x => x.all SV.flat) ((D F.laws_markChangeS [.bsl 0 3 0 n8,.leaf (.int .i64 1)] [vx8]).bind fun r => headB r.snd fun d r_1 => lastB r_1 (svLeafK r.fst fun l => intK .i64 l fun n => guarded ([d].all fun x => x.all SV.flat) ((D F.laws_heldChangeS [.bsl 0 3 0 n8,.leaf (.int .i64 1)] [d]).bind fun r => headB r.snd fun d r_2 => lastB r_2 (svLeafK r.fst fun l => intK .i64 l fun n_1 => branch (decide (n_1 < 0)) (some (.leaf (.bool false),[])) (branch (n_1 != n) (some (.leaf (.bool false),[])) ((D F.laws_toChangeS [.leaf (.sl c0 e0)] []).bind fun r => svSlK r.fst fun c es => (D F.impl_OfClass [.leaf (.sl c es),.leaf (.int .i64 i1)] []).bind fun r => svSlK r.fst fun c es => (D F.laws_eqChangeS [.leaf (.sl c es),.leaf (.sl c6 e6)] []).bind fun r => svLeafK r.fst fun l => boolK l fun b => branch (!b) (some (.leaf (.bool false),[])) (guarded ([d].all fun x => x.all SV.flat) ((D F.laws_heldChangeS [.bsl 0 3 0 n8,.leaf (.int .i64 1)] [d]).bind fun r => headB r.snd fun d r_3 => lastB r_3 (svLeafK r.fst fun l => intK .i64 l fun n_2 => branch (decide (n_2 < 0)) (some (.leaf (.bool false),[])) (branch (n_2 != n) (some (.leaf (.bool false),[])) (some (.leaf (.bool true),[])))))))))))) := by revert J; refine id ?_; intro J; kernel_rfl
end Go.Vs
end
section
namespace Go.Vs
open Go Go.RowKit
variable {m : Bool} {P : Program} {N : Env} {s : St m} {tmps : Array Value} {w w' : World} {F : Fr} {Ow : Own} {bm : Nat → Nat}
theorem below_keeps (h : Inv P s tmps w F N Ow bm) (hb : Below w.heap.size w w') : Keeps N w F w' F := by
  refine Keeps.mk' (fun g j hj => ?_) (fun g => Nat.le_refl _) (fun g hg => ?_) (fun g n hg => ?_)
  · have hg : g < w.heap.size := Nat.lt_of_not_le fun hn => by have := (h.new g hn).1; omega
    unfold World.cell?
    simp only [hb.block g hg]
  · obtain ⟨cur, e, hc⟩ := hg
    exact ⟨cur, e, by rw [hb.block g (Array.getElem?_eq_some_iff.1 hc).1]; exact hc⟩
  · obtain ⟨cur, e, z, hc, hn⟩ := hg
    exact ⟨cur, e, z, by rw [hb.block g (Array.getElem?_eq_some_iff.1 hc).1]; exact hc, hn⟩
theorem below_far (h : Inv P s tmps w F N Ow bm) (hb : Below w.heap.size w w') : Far N w F Ow w' F Ow :=
  ⟨hb.os, hb.tape, hb.output, hb.size, below_keeps h hb, fun g hg ho => ⟨fun _ => hb.block g hg, rfl, ho⟩⟩
theorem below_inv (h : Inv P s tmps w F N Ow bm) (hb : Below w.heap.size w w') {l : Leaf m} {v : Value} (hv : RepL w' F N l v) :
    Inv P { tmps := [SV.leaf l], boxes := ([] : List (List (SV m))).map some } #[v] w' F N Ow bm := by
  refine ⟨rfl, fun t => ?_, fun b cs hc => by simp [boxAt] at hc, h.low.to (below_keeps h hb) hb.size, fun g hg => h.new g (Nat.le_trans hb.size hg), fun b cs hc => by simp [boxAt] at hc, fun g hz => ?_⟩
  · cases t with
    | zero => exact RepS.leaf hv
    | succ t => simp only [List.getD_cons_succ, List.getD_nil]; exact RepS.any
  · obtain ⟨h1, cur, e, h2⟩ := h.zow g hz
    exact ⟨h1, cur, e, by rw [hb.block g (Nat.lt_of_lt_of_le (N.lt g hz) h.low.le)]; exact h2⟩
theorem inv_str {a : ByteArray} {bs : List (Option (List (SV m)))} (h : Inv P { tmps := [.leaf (.str a)], boxes := bs } tmps w F N Ow bm) : tmps = #[.string a] := by
  have hl := h.len
  have hs := h.slot 0
  have hv : tmps.getD 0 undef = .string a := by
    have h1 : RepL w F N (Leaf.str a : Leaf m) (tmps.getD 0 undef) := by simpa [RepS, RepF] using hs
    generalize tmps.getD 0 undef = v at h1
    cases h1; rfl
  have h1 : tmps.size = 1 := hl.symm
  apply Array.ext
  · simpa using h1
  · intro i hi hi2
    have : i = 0 := by omega
    subst this
    simpa [Array.getD, hi] using hv
end Go.Vs
end
section
set_option linter.unusedVariables false
set_option linter.unusedSimpArgs false
namespace Go.Vs
open Go Go.RowKit
variable {m : Bool} {P : Program} {N : Env}
def cloneCode (t : TypeId) : Code :=
  (Code.region 0 #[{ dst := some 2, op := Op.assign (Operand.const (Value.slice none 0 0)), type := t, pos := "slices.go:355", after := #[], guard := none }] false).seq
    (((Code.region 1 #[{ dst := some 3, op := Op.move (Operand.tmp 0), type := t, pos := "slices.go:357", after := #[], guard := none },
        { dst := some 4, op := Op.binOp BinOp.eql t (Operand.tmp 3) (Operand.const (Value.slice none 0 0)) t, type := 4, pos := "slices.go:357", after := #[{ on := 0, ground := Ground.data }], guard := none }] false).seq
      (Code.cond (Operand.tmp 4) ((Code.region 2 #[{ dst := some 2, op := Op.assign (Operand.const (Value.slice none 0 0)), type := t, pos := "slices.go:358", after := #[], guard := none }] false).seq Code.ret) Code.skip)).seq
      ((Code.region 3 #[{ dst := some 5, op := Op.buildSlice t 0 #[], type := t, pos := "slices.go:362", after := #[], guard := none },
        { dst := some 6, op := Op.move (Operand.tmp 0), type := t, pos := "slices.go:362", after := #[], guard := none },
        { dst := some 7, op := Op.call { callee := Callee.builtin Builtin.append, args := #[Operand.tmp 5, Operand.tmp 6], argTypes := #[t, t] }, type := t, pos := "slices.go:362", after := #[{ on := 0, ground := Ground.data }, { on := 1, ground := Ground.data }], guard := none },
        { dst := some 2, op := Op.assign (Operand.tmp 7), type := t, pos := "slices.go:362", after := #[{ on := 2, ground := Ground.data }, { on := 2, ground := Ground.chain }, { on := 0, ground := Ground.phase }, { on := 1, ground := Ground.phase }, { on := 2, ground := Ground.phase }], guard := none }] false).seq Code.ret))
theorem op_val {ops : Array Oper} {Q : Exit → Act → World → Prop} {i : Nat} {rest : List Nat} {a : Act} {w w' : World} {o : Oper} {z : Value} (hops : ops[i]? = some o) (hg : o.guard = none) (hrun : (execOp a.eval o).run P w = .ok (.value z) w')
    (hk : wpOps P ops Q rest (a.put o.dst z) w') : wpOps P ops Q (i :: rest) a w := by
  unfold wpOps
  rw [hops]
  simp only
  rw [if_pos (by simp [Region.wanted, hg])]
  refine .inl ?_
  unfold Oper.wp
  rw [hrun]
  exact hk
def cloneT (P : Program) (e : TypeId) (i : TypeInfo) (q : Bool) : List (SV m) → List (List (SV m)) → Option (SV m × List (List (SV m)))
  | [.leaf (.sl _ es)], [] => if es.length * i.bytes ≤ maxBytes ∧ sized i.size es = true then some (SV.mkO q (some e) es, []) else none
  | _, _ => none
theorem mkO_flat (q : Bool) (eo : Option TypeId) (es : List (List (Leaf m))) : (SV.mkO q eo es).backOk 0 = true := by cases q <;> rfl
theorem clone_sound {f : FuncId} {fn : Func} {t e : TypeId} {i : TypeInfo} {z : Value} (hfn : P.funcs[f]? = some fn) (hb : fn.body = some (cloneCode t)) (hnt : fn.ntmps = 8) (hres : fn.results = #[.tmp 2]) (hnm : (fn.name == "runtime.NumGoroutine") = false)
    {d0 : TypeDesc} (hue : P.underlying e = some d0) (hu : P.underlying t = some (.slice e)) (hi : P.info? e = some i) (hz : i.zero = some z) (hzs : zeroSized P e = true) (h0 : 0 < i.size) (hby : 0 < i.bytes) (q : Bool) :
    ∀ (args : List (SV m)) (boxes : List (List (SV m))) (r : SV m × List (List (SV m))), cloneT P e i q args boxes = some r → args.all SV.handed = true → (∀ c ∈ boxes, ∀ x ∈ c, x.flat = true) →
      r.2.length = boxes.length ∧ r.1.backOk boxes.length = true ∧ (∀ cs ∈ r.2, ∀ c ∈ cs, c.flat = true) ∧ (∃ fn, P.funcs[f]? = some fn ∧ (fn.name == "runtime.NumGoroutine") = false ∧ fn.body.isNone = false) ∧
      ∀ (w : World) (F : Fr) (Ow : Own) (bm : Nat → Nat) (vals : Array Value), Inv P { tmps := args, boxes := boxes.map some } vals w F N Ow bm →
        Calls P f vals w fun e w' => ∃ v F' Ow', e = .returned v ∧ Inv P { tmps := [r.1], boxes := r.2.map some } #[v] w' F' N Ow' bm ∧ Far N w F Ow w' F' Ow' := by
  intro args boxes r hr hh hf
  unfold cloneT at hr
  split at hr
  · rename_i c es
    split at hr
    · rename_i hcnd
      obtain ⟨hmax, hsz⟩ := hcnd
      simp only [Option.some.injEq] at hr
      subst hr
      refine ⟨rfl, mkO_flat q _ _, fun cs hcs => by simp at hcs, ⟨fn, hfn, hnm, by rw [hb]; rfl⟩, fun w F Ow bm vals h => ?_⟩
      have hlen := h.len
      have hs0 := h.slot 0
      have hL : RepL w F N (.sl c es) (vals.getD 0 undef) := by simpa [RepS, RepF] using hs0
      obtain ⟨v, rfl⟩ : ∃ v, vals = #[v] := by
        have hl1 : vals.size = 1 := hlen.symm
        refine ⟨vals[0], ?_⟩
        apply Array.ext
        · simp [hl1]
        · intro j h1 h2
          have : j = 0 := by omega
          subst this
          simp
      have hL : RepL w F N (.sl c es) v := by simpa using hL
      obtain ⟨A, cap, z', vs, rfl, hcap, hez, hvl, hcell, hrr⟩ := repL_sl hL
      have hno : ∀ (t : Nat) (s : St m), s.tmps.length ≤ t → ¬ s.holds (.tmp t) := fun t s ht => by
        show ¬ isOwn (s.tmps.getD t .any) = true
        rw [List.getD_eq_getElem?_getD, List.getElem?_eq_none ht]
        simp [isOwn]
      have done : ∀ (a : Act) (w' : World) (v' : Value) (F' : Fr) (Ow' : Own), a.defers = [] → a.tmps.getD 2 undef = v' → RepO P w' F' N Ow' (.tmp 0) q (some e) es v' → Low N w' F' → (∀ g, w'.heap.size ≤ g → F' g = 0 ∧ Ow' g = none) → (∀ g, N.Z g = true → Ow' g = none ∧ ∃ cur e, w'.heap[g]? = some (.cells cur e (0, 0))) → Far N w F Ow w' F' Ow' →
          bodyPost P fn (fun e_1 w' => ∃ v F' Ow', e_1 = .returned v ∧ Inv P { tmps := [SV.mkO q (some e) es], boxes := ([] : List (List (SV m))).map some } #[v] w' F' N Ow' bm ∧ Far N w F Ow w' F' Ow') .ret a w' := by
        intro a w' v' F' Ow' hd hv hO hlow hnew hzow hfar
        refine ⟨hd, v', ?_, v', F', Ow', rfl, ⟨rfl, fun t => ?_, fun b cs hc => by simp [boxAt] at hc, hlow, hnew, fun b cs hc => by simp [boxAt] at hc, hzow⟩, hfar⟩
        · rw [results_eq, hres]
          simp [oneResult, hv]
        · cases t with
          | zero => cases q <;> exact hO
          | succ t => simp only [List.getD_cons_succ, List.getD_nil]; exact RepS.any
      refine calls_of_wp hfn hb ?_
      rw [hnt]
      unfold cloneCode
      refine wp_seq (wp_region ?_)
      refine op_val (z := .slice none 0 0) (w' := w) rfl rfl (by simp [Act.eval, Act.put, execOp]) ?_
      refine wp_seq (wp_seq (wp_region ?_))
      refine op_val (z := .slice A es.length cap) (w' := w) rfl rfl (by simp [Act.eval, Act.put, execOp]) ?_
      refine op_val (z := .bool A.isNone) (w' := w) rfl rfl ?_ ?_
      · have := run_eql_slice_nil (P := P) w t e A es.length cap hu
        simp [Act.eval, Act.put, execOp, eqGuard, this]
      cases A with
      | none =>
        have hes : es = [] := by
          rcases Nat.eq_zero_or_pos es.length with h' | h'
          · exact List.eq_nil_of_length_eq_zero h'
          · obtain ⟨_, _, h'', _⟩ := hcell h'; simp at h''
        subst hes
        refine wp_cond_true (by simp [Act.eval, Act.put]) (wp_seq (wp_region ?_))
        refine op_val (z := .slice none 0 0) (w' := w) rfl rfl (by simp [Act.eval, Act.put, execOp]) ?_
        refine wp_ret ?_
        exact done _ w (.slice none 0 0) F (fun g => none) rfl (by simp [Act.put]) (.inl ⟨rfl, rfl⟩) h.low (fun g hg => ⟨(h.new g hg).1, rfl⟩) (fun g hg => ⟨rfl, (h.zow g hg).2⟩) ⟨rfl, rfl, rfl, Nat.le_refl _, Keeps.refl _ _, fun g _ _ => ⟨fun _ => rfl, rfl, rfl⟩⟩
      | some ad =>
        refine wp_cond_false (by simp [Act.eval, Act.put]) (wp_skip ?_)
        refine wp_seq (wp_region ?_)
        obtain ⟨z1, w1, e1, i1, es1, hrun1, hv1, hi1, hp1, G1⟩ := buildSliceV_run (m := m) (P := P) (N := N) (F := F) (w := w) (t := t) (n := 0) (ps := []) (qs := #[]) (v := .own (some e) []) (h.new _ (Nat.le_refl _)).1 (by
          have hel : elemT P t = some e := by unfold elemT; rw [hu]
          have hdd : ∃ d, P.underlying e = some d := ⟨d0, hue⟩
          obtain ⟨d, hd⟩ := hdd
          have hsT : sizeT P e = some i.size := by unfold sizeT; rw [hd, hi]; rfl
          simp [buildSliceV, hel, hsT, hzs, guarded, h0, elemsV]) .nil
        obtain ⟨rfl, rfl⟩ : e = e1 ∧ es1 = [] := by cases hv1; exact ⟨rfl, rfl⟩
        rw [hi] at hi1
        cases hi1
        obtain ⟨F1, O1, k1, k2, k3⟩ := h.grown (loc := .blk 0) (to := .tmp 1) hi h0 G1 (.inr rfl) h.low.le q (fun _ => (h.new _ (Nat.le_refl _)).1) (bsz_new (Nat.le_refl _))
        refine op_val (z := z1) (w' := w1) rfl rfl (by simp [Act.eval, Act.put, execOp, hrun1]) ?_
        refine op_val (z := .slice (some ad) es.length cap) (w' := w1) rfl rfl (by simp [Act.eval, Act.put, execOp]) ?_
        have hL1 : RepL w1 F1 N (.sl c es) (.slice (some ad) es.length cap) := hL.keeps k2.keeps
        obtain ⟨g1, cap1, cur1, hz1⟩ : ∃ g cap1 cur, z1 = .slice (some ⟨g, 0, none⟩) 0 cap1 ∧ True := by
          obtain ⟨cap', cur', vals', hv', _⟩ := G1.row
          exact ⟨_, cap', cur', by simpa using hv', trivial⟩
        have hRow : RowAt w1 F1 N es (.slice (some ad) es.length cap) := RepL.see hL1
        obtain ⟨v2, w2, hrun2, hcase⟩ := append_slice_run (ty := t) (fun g hg => (k1.new g hg).1) k1.low.le k3 (by rfl) hRow hu hi hzs h0 hby (sized_mem hsz) (by simpa using hmax)
        refine op_val (z := v2) (w' := w2) rfl rfl (by simp [Act.eval, Act.put, execOp, resolve, invoke, builtin, hrun2]) ?_
        refine op_val (z := v2) (w' := w2) rfl rfl (by simp [Act.eval, Act.put, execOp]) ?_
        refine wp_ret ?_
        rcases hcase with ⟨rfl, hnil, rfl⟩ | ⟨g, G2, hN, hg, hqF, hbs⟩
        · have hnil' : es = [] := by simpa using hnil
          subst hnil'
          exact done _ w2 (.slice none 0 0) F1 (fun g => none) rfl (by simp [Act.put]) (.inl ⟨rfl, rfl⟩) k1.low (fun g hg => ⟨(k1.new g hg).1, rfl⟩) (fun g hg => ⟨rfl, (k1.zow g hg).2⟩) ⟨k2.os, k2.tape, k2.output, k2.size, k2.keeps, fun g hg ho => ⟨(k2.old g hg ho).1, (k2.old g hg ho).2.1, rfl⟩⟩
        · obtain ⟨F2, O2, q1, q2, q3⟩ := k1.grown (loc := .tmp 1) (to := .tmp 0) hi h0 G2 (hg.imp (fun x => ⟨x.1, hno 1 _ (by simp)⟩) id) hN q hqF hbs
          exact done _ w2 v2 F2 O2 rfl (by simp [Act.put]) (by simpa using q3) q1.low q1.new q1.zow (k2.trans q2)
    · simp at hr
  · simp at hr
end Go.Vs
end
section
open Go Go.Vs Go.Proofs
set_option maxRecDepth 100000
set_option linter.unusedVariables false
namespace Go.Vs
noncomputable section
variable (D : Oracle false)
section
variable (e0 : LE) (i1 : Int) (e5 : LE) (i6 : Int)
def spec_OfClass_A := atA D F.spec_OfClass
def spec_OfClass_0 : PS := ([1,1,0,1,0],St.mk ([vsl e0,vint i1,.any,.any,.any,.own (some T.impl_Change) e5,vint i6] ++ anyS 23) (noB 30))
def spec_OfClass_1 : PS := ([1,1,0,1,0,0,1,1],St.mk ([vsl e0,vint i1,.any,.any,.any,.own (some T.impl_Change) e5,vint i6] ++ anyS 23) (noB 30))
def spec_OfClass_N : List (List Nat) := [[1,1,0,1,0],[1,1,0,1,0,0,1,1]]
theorem spec_OfClass_0_eq : spec_OfClass_A D (spec_OfClass_0 e0 i1 e5 i6) = branch (decide (i6 < (↑e0.length : Int))) (guarded (decide (0 ≤ i6) && decide (i6 < (↑e0.length : Int)) && sized 3 e0) (aInt (e0.getD i6.toNat []) 0 fun n => rInt (D F.spec_ClassOf [vint n] []) fun n => branch (n == i1) (guarded (decide (0 ≤ i6) && decide (i6 < (↑e0.length : Int)) && sized 3 e0) (R_iss.rd (e0.getD i6.toNat []) fun x => guarded (decide ((e5.length + 1) * 40 ≤ maxBytes) && true) (spec_OfClass_A D (spec_OfClass_1 e0 i1 (e5 ++ [[.int .i64 x.a0,.str x.a1,.str x.a2]]) i6)))) (spec_OfClass_A D (spec_OfClass_1 e0 i1 e5 i6)))) (some (.own (some T.impl_Change) e5,[])) := by refine (nameF_eq (J := spec_OfClass_A D) (fun _ _ => rfl) spec_OfClass_N _).trans ?_; generalize spec_OfClass_A D = J; revert J; refine id ?_; intro J; kernel_rfl
theorem spec_OfClass_1_eq : spec_OfClass_A D (spec_OfClass_1 e0 i1 e5 i6) = spec_OfClass_A D (spec_OfClass_0 e0 i1 e5 (IntKind.i64.wrap (i6 + 1))) := by refine (nameF_eq (J := spec_OfClass_A D) (fun _ _ => rfl) spec_OfClass_N _).trans ?_; generalize spec_OfClass_A D = J; revert J; refine id ?_; intro J; kernel_rfl
theorem run_spec_OfClass : run2V Try.prog D Hs limR F.spec_OfClass [vsl e0,vint i1] [] = spec_OfClass_A D (spec_OfClass_0 e0 i1 [] 0) := by refine (run_names (J := spec_OfClass_A D) (by kernel_rfl) (fun _ _ => rfl) [[1,1,0,1,0],[1,1,0,1,0,0,1,1]]).trans ?_; generalize spec_OfClass_A D = J; revert J; refine id ?_; intro J; kernel_rfl
end
def impl_ClassOf_A := atA D F.impl_ClassOf
theorem run_impl_ClassOf (i0 : Int) : run2V Try.prog D Hs limR F.impl_ClassOf [vint i0] [] = rBool (D F.impl_in [vint i0,vint 1,vint 15] []) fun b => branch b (some (vint 1,[])) (rBool (D F.impl_in [vint i0,vint 20,vint 24] []) fun b => branch b (some (vint 2,[])) (rBool (D F.impl_in [vint i0,vint 16,vint 28] []) fun b => branch b (some (vint 3,[])) (some (vint 0,[])))) := by refine (run_names (J := impl_ClassOf_A D) (by kernel_rfl) (fun _ _ => rfl) []).trans ?_; generalize impl_ClassOf_A D = J; revert J; refine id ?_; intro J; kernel_rfl
section
variable (e0 : LE) (i1 i5 : Int)
def laws_szChangeS_A := atA D F.laws_szChangeS
def laws_szChangeS_0 : PS := ([1,1,1,0,1,0],St.mk ([vsl e0,vint i1,.any,.any,.any,vint i5] ++ anyS 21) (noB 27))
theorem laws_szChangeS_0_eq : laws_szChangeS_A D (laws_szChangeS_0 e0 i1 i5) = branch (decide (i5 < (↑e0.length : Int))) (guarded (decide (0 ≤ i5) && decide (i5 < (↑e0.length : Int)) && sized 3 e0) (bindE (e0.getD i5.toNat []) fun e => atK e 0 fun l => intK .i64 l fun n => atK e 1 fun l => strK l fun s => atK e 2 fun l => strK l fun s_1 => (D F.laws_szChange [.agg [.int .i64 n,.str s,.str s_1],vint i1] []).bind fun r => svLeafK r.fst fun l => intK .i64 l fun n => branch (decide (n < 0)) (some (vint (-1),[])) (laws_szChangeS_A D (laws_szChangeS_0 e0 n (IntKind.i64.wrap (i5 + 1)))))) (some (vint i1,[])) := by refine (nameF_eq (J := laws_szChangeS_A D) (fun _ _ => rfl) [[1,1,1,0,1,0]] _).trans ?_; generalize laws_szChangeS_A D = J; revert J; refine id ?_; intro J; kernel_rfl
theorem run_laws_szChangeS : run2V Try.prog D Hs limR F.laws_szChangeS [vsl e0,vint i1] [] = branch (decide (IntKind.i64.wrap (i1 - (↑e0.length : Int)) < 0)) (some (vint (-1),[])) (laws_szChangeS_A D (laws_szChangeS_0 e0 (IntKind.i64.wrap (i1 - (↑e0.length : Int))) 0)) := by refine (run_names (J := laws_szChangeS_A D) (by kernel_rfl) (fun _ _ => rfl) [[1,1,1,0,1,0]]).trans ?_; generalize laws_szChangeS_A D = J; revert J; refine id ?_; intro J; kernel_rfl
end
section
variable (e0 e1 : LE) (i5 : Int)
def laws_eqChangeS_A := atA D F.laws_eqChangeS
def laws_eqChangeS_0 : PS := ([1,1,0,1,0],St.mk ([vsl e0,vsl e1,.any,.any,.any,vint i5] ++ anyS 21) (noB 27))
theorem laws_eqChangeS_0_eq : laws_eqChangeS_A D (laws_eqChangeS_0 e0 e1 i5) = branch (decide (i5 < (↑e0.length : Int))) (guarded (decide (0 ≤ i5) && decide (i5 < (↑e0.length : Int)) && sized 3 e0) (bindE (e0.getD i5.toNat []) fun e => atK e 0 fun l => intK .i64 l fun n => atK e 1 fun l => strK l fun s => atK e 2 fun l => strK l fun s_1 => guarded (decide (0 ≤ i5) && decide (i5 < (↑e1.length : Int)) && sized 3 e1) (bindE (e1.getD i5.toNat []) fun e => atK e 0 fun l => intK .i64 l fun n_1 => atK e 1 fun l => strK l fun s_2 => atK e 2 fun l => strK l fun s_3 => (D F.laws_eqChange [.agg [.int .i64 n,.str s,.str s_1],.agg [.int .i64 n_1,.str s_2,.str s_3]] []).bind fun r => svLeafK r.fst fun l => boolK l fun b => branch (!b) (some (vbool false,[])) (laws_eqChangeS_A D (laws_eqChangeS_0 e0 e1 (IntKind.i64.wrap (i5 + 1))))))) (some (vbool true,[])) := by refine (nameF_eq (J := laws_eqChangeS_A D) (fun _ _ => rfl) [[1,1,0,1,0]] _).trans ?_; generalize laws_eqChangeS_A D = J; revert J; refine id ?_; intro J; kernel_rfl
theorem run_laws_eqChangeS : run2V Try.prog D Hs limR F.laws_eqChangeS [vsl e0,vsl e1] [] = branch ((↑e0.length : Int) != (↑e1.length : Int)) (some (vbool false,[])) (laws_eqChangeS_A D (laws_eqChangeS_0 e0 e1 0)) := by refine (run_names (J := laws_eqChangeS_A D) (by kernel_rfl) (fun _ _ => rfl) [[1,1,0,1,0]]).trans ?_; generalize laws_eqChangeS_A D = J; revert J; refine id ?_; intro J; kernel_rfl
end
section
variable (n0 : Nat) (i1 i5 : Int) (vx36 vb0 : List (SV false))
def laws_markChangeS_r0_A (x : PS) : Ret false := atF Try.prog D Hs F.laws_markChangeS x.1 1 x.2
def laws_markChangeS_r0_0 : PS := ([1,0,1,0],St.mk ([.bsl 36 3 0 n0,vint i1,.any,.any,.any,vint i5] ++ anyS 30) (noB 36 ++ [some vx36]))
theorem laws_markChangeS_r0_0_eq : laws_markChangeS_r0_A D (laws_markChangeS_r0_0 n0 i1 i5 vx36) = branch (decide (i5 < (↑n0 : Int))) (guarded (decide (0 ≤ i5) && decide (i5 < (↑n0 : Int))) (guarded (decide ((0 + i5.toNat) * 3 + #[Go.Field.mk "Code" 3 0 false "" "" 0,Go.Field.mk "Name" 9 1 false "" "" 8,Go.Field.mk "Part" 9 2 false "" "" 24][0].offset + 1 ≤ vx36.length)) ((D F.laws_markText [.leaf (.int .i64 (IntKind.i64.wrap (i1 + 1)))] []).bind fun r => svLeafK r.fst fun l => strK l fun s => guarded (decide (0 ≤ i5) && decide (i5 < (↑n0 : Int))) (guarded (decide ((0 + i5.toNat) * 3 + #[Go.Field.mk "Code" 3 0 false "" "" 0,Go.Field.mk "Name" 9 1 false "" "" 8,Go.Field.mk "Part" 9 2 false "" "" 24][1].offset + 1 ≤ (putAt vx36 ((0 + i5.toNat) * 3 + #[Go.Field.mk "Code" 3 0 false "" "" 0,Go.Field.mk "Name" 9 1 false "" "" 8,Go.Field.mk "Part" 9 2 false "" "" 24][0].offset) [vint i1]).length)) ((D F.laws_markText [.leaf (.int .i64 (IntKind.i64.wrap (IntKind.i64.wrap (i1 + 1) + 1)))] []).bind fun r => svLeafK r.fst fun l => strK l fun s_1 => guarded (decide (0 ≤ i5) && decide (i5 < (↑n0 : Int))) (guarded (decide ((0 + i5.toNat) * 3 + #[Go.Field.mk "Code" 3 0 false "" "" 0,Go.Field.mk "Name" 9 1 false "" "" 8,Go.Field.mk "Part" 9 2 false "" "" 24][2].offset + 1 ≤ (putAt (putAt vx36 ((0 + i5.toNat) * 3 + #[Go.Field.mk "Code" 3 0 false "" "" 0,Go.Field.mk "Name" 9 1 false "" "" 8,Go.Field.mk "Part" 9 2 false "" "" 24][0].offset) [vint i1]) ((0 + i5.toNat) * 3 + #[Go.Field.mk "Code" 3 0 false "" "" 0,Go.Field.mk "Name" 9 1 false "" "" 8,Go.Field.mk "Part" 9 2 false "" "" 24][1].offset) [.leaf (.str s)]).length)) (laws_markChangeS_r0_A D (laws_markChangeS_r0_0 n0 (IntKind.i64.wrap (IntKind.i64.wrap (IntKind.i64.wrap (i1 + 1) + 1) + 1)) (IntKind.i64.wrap (i5 + 1)) (putAt (putAt (putAt vx36 ((0 + i5.toNat) * 3 + #[Go.Field.mk "Code" 3 0 false "" "" 0,Go.Field.mk "Name" 9 1 false "" "" 8,Go.Field.mk "Part" 9 2 false "" "" 24][0].offset) [vint i1]) ((0 + i5.toNat) * 3 + #[Go.Field.mk "Code" 3 0 false "" "" 0,Go.Field.mk "Name" 9 1 false "" "" 8,Go.Field.mk "Part" 9 2 false "" "" 24][1].offset) [.leaf (.str s)]) ((0 + i5.toNat) * 3 + #[Go.Field.mk "Code" 3 0 false "" "" 0,Go.Field.mk "Name" 9 1 false "" "" 8,Go.Field.mk "Part" 9 2 false "" "" 24][2].offset) [.leaf (.str s_1)]))))))))) (guarded ([vx36].all fun x => x.all SV.flat) (some (vint i1,[vx36]))) := by refine (nameF_eq (J := laws_markChangeS_r0_A D) (fun _ _ => rfl) [[1,0,1,0]] _).trans ?_; generalize laws_markChangeS_r0_A D = J; revert J; refine id ?_; intro J; kernel_rfl
theorem run_laws_markChangeS_r0 : run2V Try.prog D Hs limR F.laws_markChangeS [.bsl 0 3 0 n0,vint i1] [vb0] = laws_markChangeS_r0_A D (laws_markChangeS_r0_0 n0 i1 0 vb0) := by refine (run_names (J := laws_markChangeS_r0_A D) (by kernel_rfl) (fun _ _ => rfl) [[1,0,1,0]]).trans ?_; generalize laws_markChangeS_r0_A D = J; revert J; refine id ?_; intro J; kernel_rfl
end
section
variable (e0 : LE) (i1 : Int)
def laws_markChangeS_A := atA D F.laws_markChangeS
def laws_markChangeS_0 : PS := ([1,0,1,0],St.mk ([vsl e0,vint i1,.any,.any,.any,vint 0] ++ anyS 30) (noB 36))
theorem laws_markChangeS_0_eq : laws_markChangeS_A D (laws_markChangeS_0 e0 i1) = branch (decide (0 < (↑e0.length : Int))) (guarded (decide (0 < (↑e0.length : Int)) && sized 3 e0) none) (some (vint i1,[])) := by refine (nameF_eq (J := laws_markChangeS_A D) (fun _ _ => rfl) [[1,0,1,0]] _).trans ?_; generalize laws_markChangeS_A D = J; revert J; refine id ?_; intro J; kernel_rfl
theorem run_laws_markChangeS : run2V Try.prog D Hs limR F.laws_markChangeS [vsl e0,vint i1] [] = laws_markChangeS_A D (laws_markChangeS_0 e0 i1) := by refine (run_names (J := laws_markChangeS_A D) (by kernel_rfl) (fun _ _ => rfl) [[1,0,1,0]]).trans ?_; generalize laws_markChangeS_A D = J; revert J; refine id ?_; intro J; kernel_rfl
end
section
variable (n0 : Nat) (i1 i5 : Int) (vx42 vb0 : List (SV false))
def laws_heldChangeS_r0_A (x : PS) : Ret false := atF Try.prog D Hs F.laws_heldChangeS x.1 1 x.2
def laws_heldChangeS_r0_0 : PS := ([1,0,1,0],St.mk ([.bsl 42 3 0 n0,vint i1,.any,.any,.any,vint i5] ++ anyS 36) (noB 42 ++ [some vx42]))
theorem laws_heldChangeS_r0_0_eq : laws_heldChangeS_r0_A D (laws_heldChangeS_r0_0 n0 i1 i5 vx42) = branch (decide (i5 < (↑n0 : Int))) (guarded (decide (0 ≤ i5) && decide (i5 < (↑n0 : Int))) (atSV vx42 ((0 + i5.toNat) * 3 + #[Go.Field.mk "Code" 3 0 false "" "" 0,Go.Field.mk "Name" 9 1 false "" "" 8,Go.Field.mk "Part" 9 2 false "" "" 24][0].offset) fun c => svLeafK c.drop fun l => intK .i64 l fun n => branch (n != i1) (guarded ([vx42].all fun x => x.all SV.flat) (some (vint (-1),[vx42]))) (guarded (decide (0 ≤ i5) && decide (i5 < (↑n0 : Int))) (atSV vx42 ((0 + i5.toNat) * 3 + #[Go.Field.mk "Code" 3 0 false "" "" 0,Go.Field.mk "Name" 9 1 false "" "" 8,Go.Field.mk "Part" 9 2 false "" "" 24][1].offset) fun c => svLeafK c.drop fun l => strK l fun s => (D F.laws_markText [.leaf (.int .i64 (IntKind.i64.wrap (i1 + 1)))] []).bind fun r => svLeafK r.fst fun l => strK l fun s_1 => branch (!s.toList == s_1.toList) (guarded ([vx42].all fun x => x.all SV.flat) (some (vint (-1),[vx42]))) (guarded (decide (0 ≤ i5) && decide (i5 < (↑n0 : Int))) (atSV vx42 ((0 + i5.toNat) * 3 + #[Go.Field.mk "Code" 3 0 false "" "" 0,Go.Field.mk "Name" 9 1 false "" "" 8,Go.Field.mk "Part" 9 2 false "" "" 24][2].offset) fun c => svLeafK c.drop fun l => strK l fun s => (D F.laws_markText [.leaf (.int .i64 (IntKind.i64.wrap (IntKind.i64.wrap (i1 + 1) + 1)))] []).bind fun r => svLeafK r.fst fun l => strK l fun s_2 => branch (!s.toList == s_2.toList) (guarded ([vx42].all fun x => x.all SV.flat) (some (vint (-1),[vx42]))) (laws_heldChangeS_r0_A D (laws_heldChangeS_r0_0 n0 (IntKind.i64.wrap (IntKind.i64.wrap (IntKind.i64.wrap (i1 + 1) + 1) + 1)) (IntKind.i64.wrap (i5 + 1)) vx42)))))))) (guarded ([vx42].all fun x => x.all SV.flat) (some (vint i1,[vx42]))) := by refine (nameF_eq (J := laws_heldChangeS_r0_A D) (fun _ _ => rfl) [[1,0,1,0]] _).trans ?_; generalize laws_heldChangeS_r0_A D = J; revert J; refine id ?_; intro J; kernel_rfl
theorem run_laws_heldChangeS_r0 : run2V Try.prog D Hs limR F.laws_heldChangeS [.bsl 0 3 0 n0,vint i1] [vb0] = laws_heldChangeS_r0_A D (laws_heldChangeS_r0_0 n0 i1 0 vb0) := by refine (run_names (J := laws_heldChangeS_r0_A D) (by kernel_rfl) (fun _ _ => rfl) [[1,0,1,0]]).trans ?_; generalize laws_heldChangeS_r0_A D = J; revert J; refine id ?_; intro J; kernel_rfl
end
section
variable (e0 : LE) (i1 i5 : Int)
def laws_heldChangeS_A := atA D F.laws_heldChangeS
def laws_heldChangeS_0 : PS := ([1,0,1,0],St.mk ([vsl e0,vint i1,.any,.any,.any,vint i5] ++ anyS 36) (noB 42))
theorem laws_heldChangeS_0_eq : laws_heldChangeS_A D (laws_heldChangeS_0 e0 i1 i5) = branch (decide (i5 < (↑e0.length : Int))) (guarded (decide (0 ≤ i5) && decide (i5 < (↑e0.length : Int)) && sized 3 e0) (atK (e0.getD i5.toNat []) 0 fun l => intK .i64 l fun n => branch (n != i1) (some (vint (-1),[])) (guarded (decide (0 ≤ i5) && decide (i5 < (↑e0.length : Int)) && sized 3 e0) (atK (e0.getD i5.toNat []) 1 fun l => strK l fun s => (D F.laws_markText [.leaf (.int .i64 (IntKind.i64.wrap (i1 + 1)))] []).bind fun r => svLeafK r.fst fun l => strK l fun s_1 => branch (!s.toList == s_1.toList) (some (vint (-1),[])) (guarded (decide (0 ≤ i5) && decide (i5 < (↑e0.length : Int)) && sized 3 e0) (atK (e0.getD i5.toNat []) 2 fun l => strK l fun s => (D F.laws_markText [.leaf (.int .i64 (IntKind.i64.wrap (IntKind.i64.wrap (i1 + 1) + 1)))] []).bind fun r => svLeafK r.fst fun l => strK l fun s_2 => branch (!s.toList == s_2.toList) (some (vint (-1),[])) (laws_heldChangeS_A D (laws_heldChangeS_0 e0 (IntKind.i64.wrap (IntKind.i64.wrap (IntKind.i64.wrap (i1 + 1) + 1) + 1)) (IntKind.i64.wrap (i5 + 1)))))))))) (some (vint i1,[])) := by refine (nameF_eq (J := laws_heldChangeS_A D) (fun _ _ => rfl) [[1,0,1,0]] _).trans ?_; generalize laws_heldChangeS_A D = J; revert J; refine id ?_; intro J; kernel_rfl
theorem run_laws_heldChangeS : run2V Try.prog D Hs limR F.laws_heldChangeS [vsl e0,vint i1] [] = laws_heldChangeS_A D (laws_heldChangeS_0 e0 i1 0) := by refine (run_names (J := laws_heldChangeS_A D) (by kernel_rfl) (fun _ _ => rfl) [[1,0,1,0]]).trans ?_; generalize laws_heldChangeS_A D = J; revert J; refine id ?_; intro J; kernel_rfl
end
section
variable (i0 : Int) (s3 : ByteArray)
def laws_markText_A := atA D F.laws_markText
def laws_markText_0 : PS := ([1,1,1,0,0],St.mk ([vint i0,.any,.any,.leaf (.str s3)] ++ anyS 16) (noB 20))
theorem laws_markText_0_eq : laws_markText_A D (laws_markText_0 i0 s3) = branch (decide (i0 > 0)) (guarded (decide ((ByteArray.mk (List.map (byteOf (m := false)) [[.int IntKind.u8 (IntKind.u8.wrap (IntKind.i64.wrap (48 + i0.tmod 10)))]]).toArray).size + s3.size ≤ 140737488355328)) (laws_markText_A D (laws_markText_0 (IntKind.i64.wrap (i0.tdiv 10)) (ByteArray.mk (List.map (byteOf (m := false)) [[.int IntKind.u8 (IntKind.u8.wrap (IntKind.i64.wrap (48 + i0.tmod 10)))]]).toArray ++ s3)))) (guarded (decide ((ByteArray.mk #[109]).size + s3.size ≤ 140737488355328)) (some (.leaf (.str (ByteArray.mk #[109] ++ s3)),[]))) := by refine (nameF_eq (J := laws_markText_A D) (fun _ _ => rfl) [[1,1,1,0,0]] _).trans ?_; generalize laws_markText_A D = J; revert J; refine id ?_; intro J; kernel_rfl
theorem run_laws_markText : run2V Try.prog D Hs limR F.laws_markText [vint i0] [] = branch (decide (i0 ≤ 0)) (some (.leaf (.str (ByteArray.mk #[109,48])),[])) (laws_markText_A D (laws_markText_0 i0 (ByteArray.mk #[]))) := by refine (run_names (J := laws_markText_A D) (by kernel_rfl) (fun _ _ => rfl) [[1,1,1,0,0]]).trans ?_; generalize laws_markText_A D = J; revert J; refine id ?_; intro J; kernel_rfl
end
def spec_ClassOf_A := atA D F.spec_ClassOf
theorem run_spec_ClassOf (i0 : Int) : run2V Try.prog D Hs limR F.spec_ClassOf [vint i0] [] = rBool (D F.spec_l01In [vint i0,vint 1,vint 28] []) fun b => branch (!b) (some (vint 0,[])) (branch (decide (i0 ≤ 15)) (some (vint 1,[])) (rBool (D F.spec_l01In [vint i0,vint 20,vint 24] []) fun b => branch b (some (vint 2,[])) (some (vint 3,[])))) := by refine (run_names (J := spec_ClassOf_A D) (by kernel_rfl) (fun _ _ => rfl) []).trans ?_; generalize spec_ClassOf_A D = J; revert J; refine id ?_; intro J; kernel_rfl
def impl_in_A := atA D F.impl_in
theorem run_impl_in (i0 i1 i2 : Int) : run2V Try.prog D Hs limR F.impl_in [vint i0,vint i1,vint i2] [] = branch (decide (i0 ≥ i1) == true) (some (.leaf (.bool (decide (i0 ≤ i2))),[])) (some (vbool false,[])) := by refine (run_names (J := impl_in_A D) (by kernel_rfl) (fun _ _ => rfl) []).trans ?_; generalize impl_in_A D = J; revert J; refine id ?_; intro J; kernel_rfl
def laws_szChange_A := atA D F.laws_szChange
theorem run_laws_szChange (i0_0 : Int) (s0_1 s0_2 : ByteArray) (i1 : Int) : run2V Try.prog D Hs limR F.laws_szChange [.agg [.int .i64 i0_0,.str s0_1,.str s0_2],vint i1] [] = branch (decide (IntKind.i64.wrap (i1 - (↑s0_1.size : Int)) < 0)) (some (vint (-1),[])) (branch (decide (IntKind.i64.wrap (IntKind.i64.wrap (i1 - (↑s0_1.size : Int)) - (↑s0_2.size : Int)) < 0)) (some (vint (-1),[])) (some (.leaf (.int .i64 (IntKind.i64.wrap (IntKind.i64.wrap (i1 - (↑s0_1.size : Int)) - (↑s0_2.size : Int)))),[]))) := by refine (run_names (J := laws_szChange_A D) (by kernel_rfl) (fun _ _ => rfl) []).trans ?_; generalize laws_szChange_A D = J; revert J; refine id ?_; intro J; kernel_rfl
def laws_eqChange_A := atA D F.laws_eqChange
theorem run_laws_eqChange (i0_0 : Int) (s0_1 s0_2 : ByteArray) (i1_0 : Int) (s1_1 s1_2 : ByteArray) : run2V Try.prog D Hs limR F.laws_eqChange [.agg [.int .i64 i0_0,.str s0_1,.str s0_2],.agg [.int .i64 i1_0,.str s1_1,.str s1_2]] [] = branch (i0_0 != i1_0) (some (vbool false,[])) (branch (!s0_1.toList == s1_1.toList) (some (vbool false,[])) (branch (!s0_2.toList == s1_2.toList) (some (vbool false,[])) (some (vbool true,[])))) := by refine (run_names (J := laws_eqChange_A D) (by kernel_rfl) (fun _ _ => rfl) []).trans ?_; generalize laws_eqChange_A D = J; revert J; refine id ?_; intro J; kernel_rfl
def spec_l01In_A := atA D F.spec_l01In
theorem run_spec_l01In (i0 i1 i2 : Int) : run2V Try.prog D Hs limR F.spec_l01In [vint i0,vint i1,vint i2] [] = branch (decide (i0 ≥ i1) == true) (some (.leaf (.bool (decide (i0 ≤ i2))),[])) (some (vbool false,[])) := by refine (run_names (J := spec_l01In_A D) (by kernel_rfl) (fun _ _ => rfl) []).trans ?_; generalize spec_l01In_A D = J; revert J; refine id ?_; intro J; kernel_rfl
end
end Go.Vs
end
section
open Go Go.Vs Go.Proofs
set_option linter.unusedVariables false
set_option linter.unusedSimpArgs false
namespace Go.Vs
abbrev tCh : TypeId := 24
noncomputable def iCh : TypeInfo := (Try.prog.info? T.impl_Change).getD default
noncomputable def told : Told false := fun f => if f = F.slices_Clone_S_impl_Change_impl_Change then some (cloneT Try.prog T.impl_Change iCh true) else none
theorem uCh : (Try.prog.underlying T.impl_Change).isSome = true := by kernel_rfl
theorem iChS : iCh.size = 3 := by kernel_rfl
theorem iChB : iCh.bytes = 40 := by kernel_rfl
theorem clone_is {N : Env} : DSound Try.prog N (fun g args boxes => if g = F.slices_Clone_S_impl_Change_impl_Change then cloneT (m := false) Try.prog T.impl_Change iCh true args boxes else none) := by
  intro g args boxes r hr hh hf
  replace hr : (if g = F.slices_Clone_S_impl_Change_impl_Change then cloneT (m := false) Try.prog T.impl_Change iCh true args boxes else none) = some r := hr
  split at hr
  · rename_i hg
    subst hg
    exact clone_sound (P := Try.prog) (t := tCh) (d0 := (Try.prog.underlying T.impl_Change).get uCh) (z := iCh.zero.getD undef) (by kernel_rfl : Try.prog.funcs[F.slices_Clone_S_impl_Change_impl_Change]? = some (fnOf Try.prog F.slices_Clone_S_impl_Change_impl_Change)) (by kernel_rfl) (by kernel_rfl) (by kernel_rfl) (by kernel_rfl)
      (Option.some_get uCh).symm (by kernel_rfl) (by kernel_rfl) (by kernel_rfl) (by kernel_rfl) (Nat.lt_of_lt_of_eq (by decide : 0 < 3) iChS.symm) (Nat.lt_of_lt_of_eq (by decide : 0 < 40) iChB.symm) true args boxes r hr hh hf
  · simp at hr
theorem told_sound {N : Env} : TSound Try.prog N told := by
  intro f t ht
  unfold told at ht
  split at ht
  · rename_i hff
    subst hff
    simp -implicitDefEqProofs only [Option.some.injEq] at ht
    subst ht
    exact clone_is
  · simp at ht
end Go.Vs
end
section
set_option linter.unusedVariables false
namespace Go.Vs
def key (e : El) : List UInt8 := (strAt e 0).toList
theorem leT {a b c : List UInt8} (h : a ≤ b) (k : b ≤ c) : a ≤ c := List.le_trans h k
theorem leR (a : List UInt8) : a ≤ a := List.le_refl a
theorem leN {a b : List UInt8} (h : ¬ a ≤ b) : b ≤ a := (List.le_total a b).resolve_left h
theorem leA {a b : List UInt8} (h : a ≤ b) (k : b ≤ a) : a = b := List.le_antisymm h k
theorem ltI {a b : List UInt8} : ¬ a < b ↔ b ≤ a := List.not_lt
def Rising (l : List El) : Prop := l.Pairwise fun a b => key a ≤ key b
def push (out : List El) (x : El) : List El := if (out.getLast?.map key) = some (key x) then out else out ++ [x]
theorem push_mem {out : List El} {x : El} {s : List UInt8} : (∃ e ∈ push out x, key e = s) ↔ (∃ e ∈ out, key e = s) ∨ key x = s := by
  unfold push
  split
  · rename_i h
    rw [Option.map_eq_some_iff] at h
    obtain ⟨l, hl, hk⟩ := h
    constructor
    · exact .inl
    · rintro (h | h)
      · exact h
      · exact ⟨l, List.mem_of_getLast? hl, hk.trans h⟩
  · constructor
    · rintro ⟨e, he, hs⟩
      rcases List.mem_append.1 he with he | he
      · exact .inl ⟨e, he, hs⟩
      · rw [List.mem_singleton.1 he] at hs; exact .inr hs
    · rintro (⟨e, he, hs⟩ | h)
      · exact ⟨e, List.mem_append_left _ he, hs⟩
      · exact ⟨x, by simp, h⟩
theorem push_sub {out : List El} {x e : El} (h : e ∈ push out x) : e ∈ out ∨ e = x := by
  unfold push at h
  split at h
  · exact .inl h
  · rcases List.mem_append.1 h with h | h
    · exact .inl h
    · exact .inr (List.mem_singleton.1 h)
theorem push_len (out : List El) (x : El) : (push out x).length ≤ out.length + 1 := by unfold push; split <;> simp
theorem push_rising {out : List El} {x : El} (h : Rising out) (hx : ∀ o ∈ out, key o ≤ key x) : Rising (push out x) := by
  unfold push
  split
  · exact h
  · exact List.pairwise_append.2 ⟨h, by simp, fun a ha b hb => by rw [List.mem_singleton.1 hb]; exact hx a ha⟩
def fin (xs ys out : List El) : List El := match xs, ys with
  | [], [] => out
  | x :: xs, [] => fin xs [] (push out x)
  | [], y :: ys => fin [] ys (push out y)
  | x :: xs, y :: ys => if key x ≤ key y then fin xs (y :: ys) (push out x) else fin (x :: xs) ys (push out y)
termination_by xs.length + ys.length
structure Joins (xs ys out r : List El) : Prop where
  up : Rising r
  mem : ∀ s, (∃ e ∈ r, key e = s) ↔ (∃ e ∈ out, key e = s) ∨ (∃ e ∈ xs, key e = s) ∨ ∃ e ∈ ys, key e = s
  len : r.length ≤ out.length + xs.length + ys.length
  sub : ∀ e ∈ r, e ∈ out ∨ e ∈ xs ∨ e ∈ ys
theorem fin_joins : ∀ (n : Nat) (xs ys out : List El), xs.length + ys.length = n → Rising xs → Rising ys → Rising out → (∀ o ∈ out, ∀ x ∈ xs, key o ≤ key x) → (∀ o ∈ out, ∀ y ∈ ys, key o ≤ key y) → Joins xs ys out (fin xs ys out) := by
  intro n
  induction n using Nat.strongRecOn with
  | ind n ih =>
    intro xs ys out hn hx hy ho h1 h2
    match xs, ys with
    | [], [] => unfold fin; exact ⟨ho, fun s => by simp, by simp, fun e he => .inl he⟩
    | x :: xs, [] =>
      unfold fin
      have hx' := List.pairwise_cons.1 hx
      have j := ih (xs.length + 0) (by simp at hn; omega) xs [] (push out x) rfl hx'.2 hy (push_rising ho fun o h => h1 o h x (by simp)) (fun o h z hz => by
        rcases push_sub h with h | rfl
        · exact h1 o h z (by simp [hz])
        · exact hx'.1 z hz) (fun o h z hz => by simp at hz)
      refine ⟨j.up, fun s => ?_, by have := j.len; have := push_len out x; simp at *; omega, fun e he => ?_⟩
      · rw [j.mem, push_mem]; simp [or_assoc]
      · rcases j.sub e he with h | h | h
        · rcases push_sub h with h | rfl
          · exact .inl h
          · exact .inr (.inl (by simp))
        · exact .inr (.inl (by simp [h]))
        · simp at h
    | [], y :: ys =>
      unfold fin
      have hy' := List.pairwise_cons.1 hy
      have j := ih (0 + ys.length) (by simp at hn; omega) [] ys (push out y) rfl hx hy'.2 (push_rising ho fun o h => h2 o h y (by simp)) (fun o h z hz => by simp at hz) (fun o h z hz => by
        rcases push_sub h with h | rfl
        · exact h2 o h z (by simp [hz])
        · exact hy'.1 z hz)
      refine ⟨j.up, fun s => ?_, by have := j.len; have := push_len out y; simp at *; omega, fun e he => ?_⟩
      · rw [j.mem, push_mem]; simp [or_assoc]
      · rcases j.sub e he with h | h | h
        · rcases push_sub h with h | rfl
          · exact .inl h
          · exact .inr (.inr (by simp))
        · simp at h
        · exact .inr (.inr (by simp [h]))
    | x :: xs, y :: ys =>
      have hx' := List.pairwise_cons.1 hx
      have hy' := List.pairwise_cons.1 hy
      unfold fin
      by_cases hc : key x ≤ key y
      · rw [if_pos hc]
        have j := ih (xs.length + (y :: ys).length) (by simp at hn ⊢; omega) xs (y :: ys) (push out x) rfl hx'.2 hy (push_rising ho fun o h => h1 o h x (by simp)) (fun o h z hz => by
          rcases push_sub h with h | rfl
          · exact h1 o h z (by simp [hz])
          · exact hx'.1 z hz) (fun o h z hz => by
          rcases push_sub h with h | rfl
          · exact h2 o h z hz
          · rcases List.mem_cons.1 hz with rfl | hz
            · exact hc
            · exact leT hc (hy'.1 z hz))
        refine ⟨j.up, fun s => ?_, by have := j.len; have := push_len out x; simp at *; omega, fun e he => ?_⟩
        · rw [j.mem, push_mem]; simp [or_assoc]
        · rcases j.sub e he with h | h | h
          · rcases push_sub h with h | rfl
            · exact .inl h
            · exact .inr (.inl (by simp))
          · exact .inr (.inl (by simp [h]))
          · exact .inr (.inr h)
      · rw [if_neg hc]
        have hc' := leN hc
        have j := ih ((x :: xs).length + ys.length) (by simp at hn ⊢; omega) (x :: xs) ys (push out y) rfl hx hy'.2 (push_rising ho fun o h => h2 o h y (by simp)) (fun o h z hz => by
          rcases push_sub h with h | rfl
          · exact h1 o h z hz
          · rcases List.mem_cons.1 hz with rfl | hz
            · exact hc'
            · exact leT hc' (hx'.1 z hz)) (fun o h z hz => by
          rcases push_sub h with h | rfl
          · exact h2 o h z (by simp [hz])
          · exact hy'.1 z hz)
        refine ⟨j.up, fun s => ?_, by have := j.len; have := push_len out y; simp at *; omega, fun e he => ?_⟩
        · rw [j.mem, push_mem]
          simp only [List.mem_cons, exists_eq_or_imp]
          constructor
          · rintro ((h | h) | h | h) <;> simp [h]
          · rintro (h | (h | h) | h | h) <;> simp [h]
        · rcases j.sub e he with h | h | h
          · rcases push_sub h with h | rfl
            · exact .inl h
            · exact .inr (.inr (by simp))
          · exact .inr (.inl h)
          · exact .inr (.inr (by simp [h]))
theorem halves {l : List El} (hr : Rising l) {s : List UInt8} {lo : Nat} (hlo : ∀ (j : Nat) (h : j < l.length), j < lo → key l[j] < s) (hhi : ∀ (j : Nat) (h : j < l.length), lo ≤ j → s ≤ key l[j]) :
    (∃ e ∈ l, key e = s) ↔ ∃ h : lo < l.length, key l[lo] = s := by
  constructor
  · rintro ⟨e, he, hs⟩
    obtain ⟨j, hj, rfl⟩ := List.getElem_of_mem he
    have hjl : lo ≤ j := by
      rcases Nat.lt_or_ge j lo with h | h
      · have := hlo j hj h
        rw [hs] at this
        exact absurd this (ltI.2 (leR s))
      · exact h
    have hlt : lo < l.length := Nat.lt_of_le_of_lt hjl hj
    refine ⟨hlt, leA ?_ (hhi lo hlt (Nat.le_refl _))⟩
    rw [← hs]
    rcases Nat.eq_or_lt_of_le hjl with h | h
    · subst h; exact leR _
    · exact (List.pairwise_iff_getElem.1 hr) lo j hlt hj h
  · rintro ⟨h, hs⟩; exact ⟨l[lo], List.getElem_mem h, hs⟩
theorem rising_at {l : List El} (hr : Rising l) {i j : Nat} (h : i ≤ j) (hj : j < l.length) : key l[i] ≤ key l[j] := by
  rcases Nat.eq_or_lt_of_le h with h | h
  · subst h; exact leR _
  · exact (List.pairwise_iff_getElem.1 hr) i j (by omega) hj h
end Go.Vs
end
section
set_option linter.unusedVariables false
namespace Go.Vs
mutual
def bdF (B : Nat) : Leaf false → Prop
  | .str s => s.size ≤ B
  | .sl _ es => es.length ≤ B ∧ bdE B es
  | _ => True
def bdL (B : Nat) : List (Leaf false) → Prop
  | [] => True
  | l :: r => bdF B l ∧ bdL B r
def bdE (B : Nat) : List (List (Leaf false)) → Prop
  | [] => True
  | e :: es => bdL B e ∧ bdE B es
end
theorem bdE_mem {B : Nat} : ∀ {es : List (List (Leaf false))}, bdE B es → ∀ e ∈ es, bdL B e
  | x :: r, h, e, he => by
    rw [bdE] at h
    rcases List.mem_cons.1 he with rfl | he
    · exact h.1
    · exact bdE_mem h.2 e he
mutual
theorem szF_bd {z B : Nat} (hB : (B : Int) ≤ cap) : ∀ (l : Leaf false) (n : Int), okF z l → 0 ≤ n → n ≤ B → 0 ≤ szF l n → bdF B l
  | .str s, n, ho, h0, hn, h => by
    have hm : maxLen = 9223372036854775807 := rfl
    simp only [okF] at ho
    simp only [szF, bdF, cap] at *
    rw [wrap64 (by omega) (by omega)] at h
    split at h <;> omega
  | .sl _ es, n, ho, h0, hn, h => by
    have hm : maxLen = 9223372036854775807 := rfl
    simp only [okF] at ho
    simp only [szF, bdF] at *
    rw [wrap64 (by simp only [cap] at hB; omega) (by simp only [cap] at hB; omega)] at h
    by_cases hl : n - (es.length : Int) < 0
    · simp [hl] at h
    · simp only [hl, if_false] at h
      exact ⟨by omega, szE_bd hB es _ ho.2 (by omega) (by omega) h⟩
  | .bool _, n, _, _, _, _ => by simp [bdF]
  | .int _ _, n, _, _, _, _ => by simp [bdF]
  | .unk, n, _, _, _, _ => by simp [bdF]
  | .nl _, n, _, _, _, _ => by simp [bdF]
theorem szL_bd {z B : Nat} (hB : (B : Int) ≤ cap) : ∀ (l : List (Leaf false)) (n : Int), okL z l → 0 ≤ n → n ≤ B → 0 ≤ szL l n → bdL B l
  | [], n, _, _, _, _ => by simp [bdL]
  | l :: r, n, ho, h0, hn, h => by
    simp only [okL] at ho
    simp only [szL, bdL] at *
    by_cases hl : szF l n < 0
    · simp [hl] at h
    · simp only [hl, if_false] at h
      have h1 := szF_t l n ho.1 h0 (by omega) (by omega)
      exact ⟨szF_bd hB l n ho.1 h0 hn (by omega), szL_bd hB r _ ho.2 (by omega) (by omega) h⟩
theorem szE_bd {z B : Nat} (hB : (B : Int) ≤ cap) : ∀ (l : List (List (Leaf false))) (n : Int), okE z l → 0 ≤ n → n ≤ B → 0 ≤ szE l n → bdE B l
  | [], n, _, _, _, _ => by simp [bdE]
  | e :: r, n, ho, h0, hn, h => by
    simp only [okE] at ho
    simp only [szE, bdE] at *
    by_cases hl : szL e n < 0
    · simp [hl] at h
    · simp only [hl, if_false] at h
      have h1 := szL_t e n ho.2.1 h0 (by omega) (by omega)
      exact ⟨szL_bd hB e n ho.2.1 h0 hn (by omega), szE_bd hB r _ ho.2.2 (by omega) (by omega) h⟩
end
end Go.Vs
end
section
set_option linter.unusedVariables false
namespace Go.Vs
abbrev nul : ByteArray := ByteArray.mk #[]
abbrev dot : ByteArray := ByteArray.mk #[46]
def noSl : Leaf false → Bool | .sl _ _ => false | .nl _ => false | _ => true
theorem reF_nosl {φ ψ : Fl false → Fl true} {l : Leaf false} (h : noSl l = true) : reF φ l = reF ψ l := by cases l <;> first | rfl | simp [noSl] at h
theorem reE_nosl {φ ψ : Fl false → Fl true} {l : List El} (h : ∀ e ∈ l, e.all noSl = true) : reE φ l = reE ψ l := by
  rw [reE_map, reE_map]
  refine List.map_congr_left fun e he => ?_
  rw [reL_map, reL_map]
  exact List.map_congr_left fun x hx => reF_nosl (List.all_eq_true.1 (h e he) x hx)
def idxP (p : El → Bool) : Int → List El → Int
  | _, [] => -1
  | i, e :: es => if p e = true then i else idxP p (i + 1) es
theorem idxP_lt (p : El → Bool) : ∀ (es : List El) (i : Int), 0 ≤ i → idxP p i es = -1 ∨ (i ≤ idxP p i es ∧ idxP p i es < i + es.length)
  | [], i, h => .inl rfl
  | e :: es, i, h => by
    unfold idxP
    split
    · right; simp; omega
    · rcases idxP_lt p es (i + 1) (by omega) with h1 | h1
      · exact .inl h1
      · right; simp only [List.length_cons]; push_cast; omega
theorem idxP_is (p : El → Bool) : ∀ (es : List El) (i j : Nat), idxP p (i : Int) es = (j : Int) → ∃ h : j - i < es.length, i ≤ j ∧ p es[j - i] = true
  | [], i, j, h => by simp [idxP] at h
  | e :: es, i, j, h => by
    unfold idxP at h
    split at h
    · rename_i hp
      have : i = j := by omega
      subst this
      refine ⟨by simp, Nat.le_refl _, ?_⟩
      simp only [Nat.sub_self, List.getElem_cons_zero]; exact hp
    · obtain ⟨h1, h2, h3⟩ := idxP_is p es (i + 1) j (by push_cast; exact h)
      have hj : j - i = (j - (i + 1)) + 1 := by omega
      refine ⟨by simp; omega, by omega, ?_⟩
      simp only [hj, List.getElem_cons_succ]
      exact h3
theorem idxP_get {p : El → Bool} {es : List El} (h : ¬ idxP p 0 es < 0) : ∃ (j : Nat) (hj : j < es.length), idxP p 0 es = (j : Int) ∧ p es[j] = true := by
  rcases idxP_lt p es 0 (by omega) with h1 | ⟨h1, h2⟩
  · omega
  · obtain ⟨j, hj⟩ : ∃ j : Nat, idxP p 0 es = (j : Int) := ⟨(idxP p 0 es).toNat, by omega⟩
    obtain ⟨a, _, b⟩ := idxP_is p es 0 j hj
    exact ⟨j, by simpa using a, hj, by simpa using b⟩
theorem idxP_any (p : El → Bool) : ∀ (es : List El) (i : Int), 0 ≤ i → decide (idxP p i es ≥ 0) = es.any p
  | [], i, h => by simp [idxP]
  | e :: es, i, h => by
    unfold idxP
    cases hp : p e with
    | true => simp [hp]; omega
    | false => simpa [hp] using idxP_any p es (i + 1) (by omega)
theorem idxP_neg (p : El → Bool) (es : List El) : decide (idxP p 0 es < 0) = !es.any p := by
  have := idxP_any p es 0 (by omega)
  rw [← this]
  by_cases h : idxP p 0 es < 0
  · simp [h]
  · simp [h]; omega
theorem idxP_congr {p q : El → Bool} : ∀ {es : List El} {i : Int}, (∀ e ∈ es, p e = q e) → idxP p i es = idxP q i es
  | [], i, h => rfl
  | e :: es, i, h => by
    unfold idxP
    rw [h e (by simp), idxP_congr (fun e he => h e (by simp [he]))]
abbrev at0 (s : ByteArray) (e : El) : Bool := (strAt e 0).toList == s.toList
abbrev at3 (s : ByteArray) (e : El) : Bool := (strAt e 3).toList == s.toList
theorem beq_sym (a b : List UInt8) : (a == b) = (b == a) := by rw [Bool.eq_iff_iff, beq_iff_eq, beq_iff_eq]; exact eq_comm
section
variable {β : Type} {es : List El}
theorem find_loop {p : El → Bool} {A : Int → Option β} {yes : Int → Option β} {no : Option β} (hend : A es.length = no)
    (hstep : ∀ (i : Nat) (hi : i < es.length), A i = branch (p es[i]) (yes i) (A ((i + 1 : Nat) : Int))) :
    ∀ i : Nat, i ≤ es.length → A i = if idxP p i (es.drop i) < 0 then no else yes (idxP p i (es.drop i)) := by
  refine upto_ind ?_ ?_
  · rw [hend]; simp [idxP]
  · intro i hi ih
    rw [hstep i hi, drop_at hi, ih, branch_ite, show idxP p (i : Int) (es[i] :: es.drop (i + 1)) = if p es[i] = true then (i : Int) else idxP p (i + 1) (es.drop (i + 1)) from rfl]
    by_cases hp : p es[i] = true
    · rw [if_pos hp, if_pos hp, if_neg (by omega)]
    · rw [if_neg hp, if_neg hp]; push_cast; rfl
theorem find_loop0 {p : El → Bool} {A : Int → Option β} {yes : Int → Option β} {no : Option β} (hend : A es.length = no)
    (hstep : ∀ (i : Nat) (hi : i < es.length), A i = branch (p es[i]) (yes i) (A ((i + 1 : Nat) : Int))) :
    A 0 = if idxP p 0 es < 0 then no else yes (idxP p 0 es) := by
  have := find_loop hend hstep 0 (Nat.zero_le _)
  simpa using this
theorem find_int {p : El → Bool} {A : Int → Ret false} {bs : List (List (SV false))} (hend : A es.length = some (vint (-1), bs))
    (hstep : ∀ (i : Nat) (hi : i < es.length), A i = branch (p es[i]) (some (vint i, bs)) (A ((i + 1 : Nat) : Int))) : A 0 = some (vint (idxP p 0 es), bs) := by
  rw [find_loop0 (yes := fun i => some (vint i, bs)) hend hstep]
  split
  · rename_i h
    rcases idxP_lt p es 0 (by omega) with h1 | h1
    · rw [h1]
    · omega
  · rfl
theorem any_bool {p : El → Bool} {A : Int → Ret false} {bs : List (List (SV false))} (hend : A es.length = some (vbool false, bs))
    (hstep : ∀ (i : Nat) (hi : i < es.length), A i = branch (p es[i]) (some (vbool true, bs)) (A ((i + 1 : Nat) : Int))) : A 0 = some (vbool (es.any p), bs) := by
  rw [show A 0 = _ from (by
    have h := find_loop0 (yes := fun _ => some (vbool true, bs)) hend hstep
    exact h), ← idxP_any p es 0 (by omega)]
  by_cases hc : idxP p 0 es < 0
  · rw [if_pos hc]; simp; omega
  · rw [if_neg hc]; simp; omega
theorem any_loop {p : El → Bool} {A : Int → Option β} {yes no : Option β} (hend : A es.length = no)
    (hstep : ∀ (i : Nat) (hi : i < es.length), A i = branch (p es[i]) yes (A ((i + 1 : Nat) : Int))) :
    A 0 = if es.any p = true then yes else no := by
  have h := find_loop0 (yes := fun _ => yes) hend hstep
  rw [h, ← idxP_any p es 0 (by omega)]
  by_cases hc : idxP p 0 es < 0
  · rw [if_pos hc, if_neg (by simp; omega)]
  · rw [if_neg hc, if_pos (by simp; omega)]
def flatI (g : Nat → El → List El) : Nat → List El → List El
  | _, [] => []
  | i, e :: r => g i e ++ flatI g (i + 1) r
theorem flatI_const (g : El → List El) : ∀ (l : List El) (i : Nat), flatI (fun _ => g) i l = l.flatMap g
  | [], _ => rfl
  | e :: r, i => by rw [flatI, flatI_const g r, List.flatMap_cons]
theorem flatI_congr {g h : Nat → El → List El} : ∀ {l : List El} {i : Nat}, (∀ (j : Nat) (hj : j < l.length), g (i + j) l[j] = h (i + j) l[j]) → flatI g i l = flatI h i l
  | [], _, _ => rfl
  | e :: r, i, hh => by
    rw [flatI, flatI, flatI_congr (l := r) (i := i + 1) (fun j hj => by have := hh (j + 1) (by simpa using hj); simpa [Nat.add_assoc, Nat.add_comm 1 j] using this)]
    have := hh 0 (by simp)
    simp at this
    rw [this]
theorem flatI_len {g : Nat → El → List El} {c : Nat} : ∀ (l : List El) (i : Nat), (∀ (j : Nat) (hj : j < l.length), (g (i + j) l[j]).length ≤ c) → (flatI g i l).length ≤ l.length * c
  | [], _, _ => by simp [flatI]
  | e :: r, i, h => by
    have h0 := h 0 (by simp)
    have h1 := flatI_len (g := g) (c := c) r (i + 1) (fun j hj => by have := h (j + 1) (by simpa using hj); simpa [Nat.add_assoc, Nat.add_comm 1 j] using this)
    simp at h0
    rw [flatI, List.length_append, List.length_cons, Nat.add_mul]; omega
theorem flatI_mem {g : Nat → El → List El} {x : El} : ∀ (l : List El) (i : Nat), x ∈ flatI g i l → ∃ (j : Nat) (hj : j < l.length), x ∈ g (i + j) l[j]
  | [], _, h => by simp [flatI] at h
  | e :: r, i, h => by
    rw [flatI] at h
    rcases List.mem_append.1 h with h | h
    · exact ⟨0, by simp, by simpa using h⟩
    · obtain ⟨j, hj, hx⟩ := flatI_mem r (i + 1) h
      exact ⟨j + 1, by simpa using hj, by simpa [Nat.add_assoc, Nat.add_comm 1 j] using hx⟩
theorem app_loop {g : Nat → El → List El} {A : List El → Int → Option β} {fin : List El → Option β} {c N : Nat} (hg : ∀ (j : Nat) (hj : j < es.length), (g j es[j]).length ≤ c)
    (hend : ∀ out, out.length ≤ N → A out es.length = fin out)
    (hstep : ∀ (i : Nat) (hi : i < es.length) (out : List El), out.length + c ≤ N → A out i = A (out ++ g i es[i]) ((i + 1 : Nat) : Int)) :
    ∀ i : Nat, i ≤ es.length → ∀ out : List El, out.length + (es.length - i) * c ≤ N → A out i = fin (out ++ flatI g i (es.drop i)) := by
  refine upto_ind ?_ ?_
  · intro out ho; rw [hend out (by simpa using ho)]; simp [flatI]
  · intro i hi ih out ho
    have e1 : (es.length - i) * c = (es.length - (i + 1)) * c + c := by rw [show es.length - i = (es.length - (i + 1)) + 1 by omega, Nat.add_mul, Nat.one_mul]
    rw [hstep i hi out (by omega), ih _ (by have := hg i hi; rw [List.length_append]; omega), drop_at hi, flatI, List.append_assoc]
theorem app_loop0 {g : Nat → El → List El} {A : List El → Int → Option β} {fin : List El → Option β} {c N : Nat} (hg : ∀ (j : Nat) (hj : j < es.length), (g j es[j]).length ≤ c)
    (hend : ∀ out, out.length ≤ N → A out es.length = fin out)
    (hstep : ∀ (i : Nat) (hi : i < es.length) (out : List El), out.length + c ≤ N → A out i = A (out ++ g i es[i]) ((i + 1 : Nat) : Int))
    {out : List El} (ho : out.length + es.length * c ≤ N) : A out 0 = fin (out ++ flatI g 0 es) := by
  have := app_loop hg hend hstep 0 (Nat.zero_le _) out (by simpa using ho)
  simpa using this
theorem app_loop1 {g : Nat → El → List El} {A : List El → Int → Option β} {fin : List El → Option β} {c N : Nat} (hg : ∀ (j : Nat) (hj : j < es.length), (g j es[j]).length ≤ c)
    (hend : ∀ out, out.length ≤ N → A out es.length = fin out)
    (hstep : ∀ (i : Nat) (hi : i < es.length) (out : List El), out.length + c ≤ N → A out i = A (out ++ g i es[i]) ((i + 1 : Nat) : Int))
    (ho : es.length * c ≤ N) : A [] 0 = fin (flatI g 0 es) :=
  app_loop0 hg hend hstep (out := []) (by simpa using ho)
end
def ifP (q : Bool) (x : El) : List El := if q = true then [x] else []
theorem ifP_len (q : Bool) (x : El) : (ifP q x).length ≤ 1 := by unfold ifP; split <;> simp
theorem ifP_mem {q : Bool} {x y : El} (h : y ∈ ifP q x) : q = true ∧ y = x := by unfold ifP at h; split at h <;> simp_all
@[simp] theorem ifP_true (x : El) : ifP true x = [x] := rfl
@[simp] theorem ifP_false (x : El) : ifP false x = [] := rfl
theorem room {n k z : Nat} (h : n + k ≤ 1000000000000) (hz : z ≤ 100) : decide ((n + k) * z ≤ maxBytes) = true := by
  have hb : maxBytes = 140737488355328 := rfl
  rw [decide_eq_true_eq]
  calc (n + k) * z ≤ 1000000000000 * 100 := Nat.mul_le_mul h hz
    _ ≤ maxBytes := by rw [hb]; decide
end Go.Vs
end
section
open Go Go.Vs Go.Proofs
set_option linter.unusedVariables false
set_option linter.unusedSimpArgs false
namespace Go.Vs
noncomputable abbrev Dn : Oracle false := den Go.Proofs.Try.prog told Hs
theorem den_of {f : FuncId} {a : List (SV false)} {b : List (List (SV false))} {r : SV false × List (List (SV false))} (h : run2V Go.Proofs.Try.prog Dn Hs limR f a b = some r) (hf : told f = none := by rfl) : Dn f a b = some r :=
  den_fast hf h
inductive IsChange : List (Leaf false) → Prop
  | mk (i0 : Int) (s1 : ByteArray) (s2 : ByteArray) (h1 : s1.size ≤ maxLen) (h2 : s2.size ≤ maxLen) : IsChange [.int .i64 i0, .str s1, .str s2]
theorem IsChange.ex {ls : List (Leaf false)} (h : IsChange ls) : ∃ (i0 : Int) (s1 : ByteArray) (s2 : ByteArray), ls = [.int .i64 i0, .str s1, .str s2] ∧ s1.size ≤ maxLen ∧ s2.size ≤ maxLen := by
  cases h with
  | mk i0 s1 s2 h1 h2 => exact ⟨i0, s1, s2, rfl, h1, h2⟩
theorem IsChange.len {ls : List (Leaf false)} (h : IsChange ls) : ls.length = 3 := by cases h; rfl
theorem IsChange.ok {ls : List (Leaf false)} (h : IsChange ls) : okL 16 ls := by
  cases h with
  | mk i0 s1 s2 h1 h2 => simp only [okL, okF]; exact ⟨trivial, h1, h2, trivial⟩
theorem IsChange.st {e : El} (h : IsChange e) : ∃ x : R_iss, e = x.l ∧ IsChange x.l := by
  cases h with
  | mk i0 s1 s2 h1 h2 => exact ⟨⟨i0, s1, s2⟩, rfl, .mk i0 s1 s2 h1 h2⟩
theorem IsChange.of {e : El} (h : IsChange e) : (R_iss.of e).l = e := by obtain ⟨x, rfl, _⟩ := h.st; rfl
theorem IsChange.nosl {e : El} (h : IsChange e) : e.all noSl = true := by obtain ⟨x, rfl, _⟩ := h.st; rfl
theorem IsChange.p {x : R_iss} (h : IsChange x.l) : (x.a1.size ≤ maxLen) ∧ (x.a2.size ≤ maxLen) := by
  obtain ⟨i0, s1, s2⟩ := x
  have h1 : IsChange [.int .i64 i0, .str s1, .str s2] := h
  cases h1 with
  | mk _ _ _ h1 h2 => exact ⟨h1, h2⟩
end Go.Vs
end
section
open Go Go.Vs Go.Proofs
set_option linter.unusedVariables false
set_option linter.unusedSimpArgs false
namespace Go.Vs
theorem laws_szChangeS_from {es : List (List (Leaf false))} (hl : es.length ≤ maxLen) (hq : ∀ e ∈ es, IsChange e) (hd : ∀ e ∈ es, ∀ n : Int, 0 ≤ n → Dn F.laws_szChange [.agg e, vint n] [] = some (vint (szL e n), [])) : ∀ i : Nat, i ≤ es.length → ∀ n : Int, 0 ≤ n →
    laws_szChangeS_A Dn (laws_szChangeS_0 es n i) = some (vint (szE (es.drop i) n), []) := by
  refine upto_ind ?_ ?_
  · intro n hn; rw [laws_szChangeS_0_eq]; simp [szE]
  · intro i hi ih n hn
    have hci := hd _ (List.getElem_mem hi) n hn
    obtain ⟨i0, s1, s2, he, h1, h2⟩ := (hq _ (List.getElem_mem hi)).ex
    rw [laws_szChangeS_0_eq, drop_at hi]
    simp only [Int.ofNat_lt, hi, decide_true, branch_true, Int.natCast_nonneg, Bool.and_true, Int.toNat_natCast, guarded_true, wrap_upL (Nat.lt_of_lt_of_le hi hl), sized_all (fun e he => (hq e he).len), getD_lt hi]
    rw [he] at hci ⊢
    simp only [bindE_eq, atK_zero, atK_succ, intK_int, strK_str, boolK_bool, slK_sl]
    exact sz_next hci fun k hk => ih k hk
theorem d_laws_szChangeS_of {es : List (List (Leaf false))} (hl : es.length ≤ maxLen) (hq : ∀ e ∈ es, IsChange e) (hd : ∀ e ∈ es, ∀ n : Int, 0 ≤ n → Dn F.laws_szChange [.agg e, vint n] [] = some (vint (szL e n), [])) {n : Int} (hn : 0 ≤ n) :
    Dn F.laws_szChangeS [vsl es, vint n] [] = some (vint (szF (.sl fP es) n), []) := by
  refine den_of ?_
  rw [run_laws_szChangeS]
  refine sz_len fun hk => ?_
  have := laws_szChangeS_from hl hq hd 0 (Nat.zero_le _) _ hk
  simpa using this
theorem d_laws_szChange {ls : List (Leaf false)} (h : IsChange ls) : ∀ {n : Int}, 0 ≤ n → Dn F.laws_szChange [.agg ls, vint n] [] = some (vint (szL ls n), []) := by
  cases h with
  | mk i0 s1 s2 h1 h2 =>
    intro n hn
    refine den_of ?_
    rw [run_laws_szChange]
    refine sz_int hn ?_
    refine sz_str fun hn => ?_
    refine sz_str fun hn => ?_
    rfl
theorem d_laws_szChangeS {es : List (List (Leaf false))} (hl : es.length ≤ maxLen) (hq : ∀ e ∈ es, IsChange e) {n : Int} (hn : 0 ≤ n) : Dn F.laws_szChangeS [vsl es, vint n] [] = some (vint (szF (.sl fP es) n), []) := d_laws_szChangeS_of hl hq (fun e he n hn => d_laws_szChange (hq e he) hn) hn
end Go.Vs
end
section
open Go Go.Vs Go.Proofs
set_option linter.unusedVariables false
set_option linter.unusedSimpArgs false
namespace Go.Vs
theorem laws_eqChangeS_from {es : List (List (Leaf false))} (hl : es.length ≤ maxLen) (hq : ∀ e ∈ es, IsChange e) (hd : ∀ e ∈ es, Dn F.laws_eqChange [.agg e, .agg e] [] = some (vbool true, [])) : ∀ i : Nat, i ≤ es.length →
    laws_eqChangeS_A Dn (laws_eqChangeS_0 es es i) = some (vbool true, []) := by
  refine upto_ind ?_ ?_
  · rw [laws_eqChangeS_0_eq]; simp
  · intro i hi ih
    have hci := hd _ (List.getElem_mem hi)
    obtain ⟨i0, s1, s2, he, h1, h2⟩ := (hq _ (List.getElem_mem hi)).ex
    rw [laws_eqChangeS_0_eq]
    simp only [Int.ofNat_lt, hi, decide_true, branch_true, Int.natCast_nonneg, Bool.and_true, Int.toNat_natCast, guarded_true, wrap_upL (Nat.lt_of_lt_of_le hi hl), sized_all (fun e he => (hq e he).len), getD_lt hi]
    rw [he] at hci ⊢
    simp only [bindE_eq, atK_zero, atK_succ, intK_int, strK_str, boolK_bool, slK_sl, hci, Option.bind_some, svLeafK_leaf, Bool.not_true, branch_false]
    exact ih
theorem d_laws_eqChangeS_of {es : List (List (Leaf false))} (hl : es.length ≤ maxLen) (hq : ∀ e ∈ es, IsChange e) (hd : ∀ e ∈ es, Dn F.laws_eqChange [.agg e, .agg e] [] = some (vbool true, [])) : Dn F.laws_eqChangeS [vsl es, vsl es] [] = some (vbool true, []) := by
  refine den_of ?_
  rw [run_laws_eqChangeS]
  have := laws_eqChangeS_from hl hq hd 0 (Nat.zero_le _)
  simpa using this
theorem d_laws_eqChange {ls : List (Leaf false)} (h : IsChange ls) : Dn F.laws_eqChange [.agg ls, .agg ls] [] = some (vbool true, []) := by
  cases h with
  | mk i0 s1 s2 h1 h2 =>
    refine den_of ?_
    rw [run_laws_eqChange]
    simp []
theorem d_laws_eqChangeS {es : List (List (Leaf false))} (hl : es.length ≤ maxLen) (hq : ∀ e ∈ es, IsChange e) : Dn F.laws_eqChangeS [vsl es, vsl es] [] = some (vbool true, []) := d_laws_eqChangeS_of hl hq fun e he => d_laws_eqChange (hq e he)
end Go.Vs
end
