/- What the program's functions compute, read off their text by the shadow runner (VsRow, VsRe, VsLift, VsPhase, VsTurn, VsLaw, VsCmb, VsStruct, VsDat, WSt, WL, VsTold, VsClone); no condition. -/
import Derived.ChangeArms
import Derived.DataReads
import Derived.Below
import Derived.Test.YtdbomanmhhhndaaGreatRows
import Derived.Lib.LazyBuf
import Derived.Test.YtdbomanmhhhndaaGreatVB3
section
namespace Go.Vs
variable {m : Bool} {P : Program} {N : Env} {H : Type} {enc : TypeId × Value → H}
def zA (p : TypeId → List (aA m) → Prop) : List TypeId → List (aA m) → Prop
  | [], ls => ls = []
  | t :: ts, ls => ∃ a b, ls = a ++ b ∧ p t a ∧ zA p ts b
def eZ (P : Program) (c : Fl m) : Nat → TypeId → List (aA m) → Prop
  | 0, _, _ => False
  | n + 1, t, ls => match P.underlying t with
    | some .bool => ∃ b, ls = [.bool b]
    | some (.int k) => ∃ z, ls = [.int k z] ∧ (Lit.int k z).wf = true
    | some .string => ∃ s : ByteArray, ls = [.str s] ∧ s.size ≤ maxLen
    | some (.slice e) => ∃ es, ls = [.sl c es] ∧ es.length ≤ maxLen ∧ ∀ x ∈ es, eZ P c n e x
    | some (.struct fs) => zA (eZ P c n) (fs.toList.map Field.type) ls
    | _ => False
def aSj (P : Program) (S : List TypeId) : Nat → List Field → Nat → Bool
  | o, [], z => o == z
  | o, f :: fs, z => f.offset == o && S.contains f.type && aSj P S (o + P.cellsOf f.type) fs z
def aTo (P : Program) (S : List TypeId) (t : TypeId) : Bool := match P.underlying t with
  | some .bool | some (.int _) | some .string => true
  | some (.slice e) => S.contains e && decide (0 < P.cellsOf e)
  | some (.struct fs) => aSj P S 0 fs.toList (P.cellsOf t)
  | _ => false
def tN (w : World) : Fr := fun g => match w.heap[g]? with | some (.cells c _ _) => c.size | _ => 0
theorem aOO {w : World} {g j : Nat} {v : Value} (h : w.cell? ⟨g, j, none⟩ = some v) : j < tN w g := by
  unfold World.cell? at h
  unfold tN
  simp only at h
  split at h
  · rename_i c e fr hc
    simp only [hc]
    exact (List.getElem?_eq_some_iff.1 (by simpa using h)).1
  · simp at h
theorem aRi {w : World} {base : Nat} {a : Addr} {n : Nat} {cs : List Value} (h : w.cells? base a n = some cs) : cs.length = n ∧ ∀ j v, cs[j]? = some v → w.cell? (a.add j) = some v := by
  unfold World.cells? at h
  split at h
  · refine ⟨by simpa using mapM_some_length h, fun j v hj => ?_⟩
    have hlen : cs.length = n := by simpa using mapM_some_length h
    have hj' : j < n := by rw [← hlen]; exact (List.getElem?_eq_some_iff.1 hj).1
    have := mapM_some_get h j j (by simp [hj'])
    rw [this, hj]
  · simp at h
theorem aRK {w : World} {F : Fr} {base : Nat} {sp : Nat → Bool} {held : Bool} {c : Fl m} {S : List TypeId} {n : Nat}
    (ih : ∀ t cs x, t ∈ S → DataW.trod enc P w base sp held n t cs = some x → ∃ ls : List (aA m), cS w F N ls cs ∧ eZ P c n t ls) (cs : List Value) :
    ∀ (fs : List Field) (o : Nat), aSj P S o fs cs.length = true → (∀ f ∈ fs, ∃ x, DataW.trod enc P w base sp held n f.type ((cs.drop f.offset).take (P.cellsOf f.type)) = some x) →
      ∃ ls : List (aA m), cS w F N ls (cs.drop o) ∧ zA (eZ P c n) (fs.map Field.type) ls
  | [], o, h, _ => by
    simp only [aSj, beq_iff_eq] at h
    refine ⟨[], ?_, rfl⟩
    rw [List.drop_of_length_le (by omega)]
    exact cS.nil _ _ _
  | f :: fs, o, h, hx => by
    simp only [aSj, Bool.and_eq_true, beq_iff_eq, List.contains_iff_mem] at h
    obtain ⟨⟨ho, hS⟩, h⟩ := h
    obtain ⟨x, hx0⟩ := hx f (by simp)
    obtain ⟨a, ha, sa⟩ := ih _ _ _ hS hx0
    obtain ⟨b, hb, sb⟩ := aRK ih cs fs _ h fun g hg => hx g (by simp [hg])
    refine ⟨a ++ b, ?_, a, b, rfl, sa, sb⟩
    have := ha.append hb
    rw [ho] at this
    rwa [← List.drop_drop, List.take_append_drop] at this
theorem aK0 {w : World} {F : Fr} {base : Nat} {sp : Nat → Bool} {held : Bool} {c : Fl m} (hc1 : ∀ g o, c.Holds N w g o) (hc2 : c.isSoft = false) (hF : ∀ g j v, w.cell? ⟨g, j, none⟩ = some v → j < F g) (hZ : ∀ g, N.Z g = false)
    {S : List TypeId} (hS : S.all (aTo P S) = true) : ∀ (fuel : Nat) (t : TypeId) (cs : List Value) (x : DataW H × List MemPlace), t ∈ S → DataW.trod enc P w base sp held fuel t cs = some x → ∃ ls : List (aA m), cS w F N ls cs ∧ eZ P c fuel t ls
  | 0, t, cs, x, _, h => by simp [DataW.trod] at h
  | n + 1, t, cs, x, ht, h => by
    have ih := aK0 (c := c) hc1 hc2 hF hZ hS n (w := w) (base := base) (sp := sp) (held := held)
    have hok := List.all_eq_true.1 hS t ht
    unfold aTo at hok
    split at hok
    · rename_i hu
      obtain ⟨b, rfl, _⟩ := DataW.trod_bool hu h
      exact ⟨[.bool b], cS.cons (.bool b) (cS.nil _ _ _), by unfold eZ; simp only [hu]; exact ⟨b, rfl⟩⟩
    · rename_i k hu
      obtain ⟨z, rfl, _, hw⟩ := DataW.trod_int hu h
      exact ⟨[.int k z], cS.cons (.int k z) (cS.nil _ _ _), by unfold eZ; simp only [hu]; exact ⟨z, rfl, hw⟩⟩
    · rename_i hu
      obtain ⟨s, rfl, _, hs⟩ := DataW.trod_string hu h
      exact ⟨[.str s], cS.cons (.str s) (cS.nil _ _ _), by unfold eZ; simp only [hu]; exact ⟨s, rfl, hs⟩⟩
    · rename_i e hu
      have hs : ∀ ls : List (aA m), eZ P c (n + 1) t ls ↔ ∃ es, ls = [.sl c es] ∧ es.length ≤ maxLen ∧ ∀ x ∈ es, eZ P c n e x := fun ls => by
        conv => lhs; unfold eZ
        simp only [hu]
      simp only [hs]
      simp only [Bool.and_eq_true, List.contains_iff_mem, decide_eq_true_eq] at hok
      obtain ⟨heS, hz⟩ := hok
      rcases DataW.trod_slice hu h with ⟨rfl, _⟩ | ⟨a, len, cap, elems, rest, n', hn, rfl, _, _, hlc, hcm, hel, hget, _, _⟩
      · exact ⟨[.sl c []], cS.cons (mL (es := []) (z := 0) (vals := []) (Nat.le_refl _) (by simp) (fun h => by simp at h) (cS.nil _ _ _)) (cS.nil _ _ _), [], rfl, by simp, by simp⟩
      · obtain rfl : n' = n := by omega
        have rows : ∀ k, k ≤ len → ∃ (es : List (List (aA m))) (vals : List Value), es.length = k ∧ (∀ x ∈ es, x.length = P.cellsOf e) ∧ (∀ j v, vals[j]? = some v → w.cell? (a.add j) = some v) ∧ cS w F N es.flatten vals ∧ vals.length = k * P.cellsOf e ∧ ∀ x ∈ es, eZ P c n' e x := by
          intro k
          induction k with
          | zero => intro _; exact ⟨[], [], rfl, by simp, by simp, cS.nil _ _ _, by simp, by simp⟩
          | succ k ihk =>
            intro hk
            obtain ⟨es, vals, h1, h2, h3, h4, h5, h6⟩ := ihk (by omega)
            have hg := hget k (by omega)
            have : k < elems.length := by omega
            rw [List.getElem?_eq_getElem this, Option.bind_eq_some_iff] at hg
            obtain ⟨ck, hck, htk⟩ := hg
            obtain ⟨ls, hls, hsh⟩ := ih _ _ _ heS htk
            obtain ⟨hcl, hcc⟩ := aRi hck
            refine ⟨es ++ [ls], vals ++ ck, by simp [h1], ?_, ?_, by simpa using h4.append hls, by rw [List.length_append, h5, hcl, Nat.add_mul]; omega, ?_⟩
            · intro x hx
              rcases List.mem_append.1 hx with hx | hx
              · exact h2 x hx
              · obtain rfl : x = ls := by simpa using hx
                rw [← hls.1, hcl]
            · intro j v hj
              rw [List.getElem?_append] at hj
              split at hj
              · exact h3 j v hj
              · rename_i hge
                have := hcc _ _ hj
                rw [← this]
                congr 1
                have e1 : k * P.cellsOf e + (j - vals.length) = j := by omega
                unfold Addr.add
                by_cases hk0 : k * P.cellsOf e = 0
                · simp only [hk0, if_true]
                  rw [show j - vals.length = j by omega]
                · by_cases hj0 : j - vals.length = 0
                  · simp only [hk0, if_false, hj0, if_true]
                    rw [if_neg (by omega)]
                    congr 1; omega
                  · simp only [hk0, if_false, hj0]
                    rw [if_neg (by omega)]
                    simp only [Addr.mk.injEq, and_true, true_and]; omega
            · intro x hx
              rcases List.mem_append.1 hx with hx | hx
              · exact h6 x hx
              · obtain rfl : x = ls := by simpa using hx
                exact hsh
        obtain ⟨es, vals, h1, h2, h3, h4, h5, h6⟩ := rows len (Nat.le_refl _)
        refine ⟨[.sl c es], cS.cons ?_ (cS.nil _ _ _), es, rfl, by omega, h6⟩
        subst h1
        refine mL hlc h2 (fun hpos => ?_) h4
        have hv0 : 0 < vals.length := by rw [h5]; exact Nat.mul_pos hpos hz
        obtain ⟨g, o, spot⟩ := a
        have hc0 := h3 0 _ (List.getElem?_eq_getElem hv0)
        have hsp : spot = none := by
          cases spot with
          | none => rfl
          | some s =>
            exfalso
            simp only [Addr.add, if_true, World.cell?] at hc0
            split at hc0 <;> simp at hc0
        subst hsp
        have hcell : ∀ j v, vals[j]? = some v → w.cell? ⟨g, o + j, none⟩ = some v := fun j v hj => by
          have := h3 j v hj
          unfold Addr.add at this
          split at this
          · rename_i hj0; rw [hj0]; exact this
          · exact this
        have hlast := hF _ _ _ (hcell (vals.length - 1) _ (List.getElem?_eq_getElem (by omega)))
        exact ⟨g, o, rfl, ⟨hv0, hc1 _ _⟩, by omega, ⟨fun h => by rw [hc2] at h; simp at h, fun h => by rw [hZ] at h; simp at h⟩, hcell⟩
    · rename_i fs hu
      have hs : ∀ ls : List (aA m), eZ P c (n + 1) t ls ↔ zA (eZ P c n) (fs.toList.map Field.type) ls := fun ls => by
        conv => lhs; unfold eZ
        simp only [hu]
      simp only [hs]
      obtain ⟨xs, n', hn, _, hl, hlen, hf⟩ := DataW.trod_struct hu h
      obtain rfl : n' = n := by omega
      rw [← hl] at hok
      have := aRK (c := c) ih cs fs.toList 0 hok fun f hfm => by
        obtain ⟨i, hi, rfl⟩ := List.getElem_of_mem hfm
        have hi' : i < fs.size := by simpa using hi
        have := hf i fs[i] (Array.getElem?_eq_getElem hi')
        rw [List.getElem?_eq_getElem (by omega)] at this
        exact ⟨_, by simpa using this⟩
      simpa using this
    · simp at hok
end Go.Vs
namespace Go.Vs
variable {m : Bool} {P : Program}
abbrev zS := List ((Nat × Nat) × Value)
def KOk (W : World) (K : zS) : Prop := ∀ k ∈ K, k.1.2 < tN W k.1.1 ∧ W.cell? ⟨k.1.1, k.1.2, none⟩ = some k.2
theorem KOk.nil {W : World} : KOk W [] := fun _ h => by cases h
theorem KOk.lt {W : World} {K : zS} (h : KOk W K) : ∀ k ∈ K, k.1.1 < W.heap.size := fun k hk => Nat.lt_of_not_le fun hn => by
  have := (h k hk).1
  unfold tN at this
  rw [Array.getElem?_eq_none hn] at this
  simp at this
def N0 (W : World) (K : zS := []) (B : List (Nat × Nat) := []) : Env := { n := W.heap.size, Z := fun _ => false, lt := fun g h => by simp at h, K := K, B := B }
theorem KOk.lowB {W : World} {K : zS} {B : List (Nat × Nat)} (h : KOk W K) (hB : ∀ p ∈ B, BSz W p.1 p.2) : Low (N0 W K B) W (tN W) := ⟨Nat.le_refl _, fun k hk => ⟨(h k hk).1, rfl, (h k hk).2⟩, hB⟩
theorem KOk.low {W : World} {K : zS} (h : KOk W K) : Low (N0 W K) W (tN W) := h.lowB (fun _ h => by cases h)
end Go.Vs
end
section
namespace Go.Vs
variable {m m' : Bool} {P : Program}
mutual
def reF (φ : Fl m → Fl m') : aA m → aA m'
  | .bool b => .bool b
  | .int k n => .int k n
  | .str s => .str s
  | .unk => .unk
  | .nl e => .nl e
  | .sl c es => .sl (φ c) (reE φ es)
def reL (φ : Fl m → Fl m') : List (aA m) → List (aA m')
  | [] => []
  | l :: r => reF φ l :: reL φ r
def reE (φ : Fl m → Fl m') : List (List (aA m)) → List (List (aA m'))
  | [] => []
  | e :: r => reL φ e :: reE φ r
end
variable {φ : Fl m → Fl m'}
theorem vJ : ∀ l : List (aA m), reL φ l = l.map (reF φ)
  | [] => rfl
  | l :: r => by rw [reL, List.map_cons, vJ r]
theorem zU : ∀ l : List (List (aA m)), reE φ l = l.map (reL φ)
  | [] => rfl
  | l :: r => by rw [reE, List.map_cons, zU r]
theorem aBN (l : List (aA m)) : (reL φ l).length = l.length := by rw [vJ, List.length_map]
theorem cH (l : List (List (aA m))) : (reE φ l).length = l.length := by rw [zU, List.length_map]
theorem zZ : ∀ l : List (List (aA m)), (reE φ l).flatten = reL φ l.flatten
  | [] => rfl
  | e :: r => by rw [reE, List.flatten_cons, List.flatten_cons, zZ r, vJ, vJ, vJ, List.map_append]
theorem aRA (l : aA m) : (reF φ l).soft = l.soft := by cases l <;> rfl
def aRV (φ : Fl m → Fl m') (w : World) (F : Fr) (N : Env) (F' : Fr) (N' : Env) : Prop :=
  ∀ (c : Fl m) (g o : Nat), g < w.heap.size → c.Holds N w g o → (φ c).Holds N' w g o ∧ F g ≤ F' g ∧ ((c.isSoft = true → N.Z g = true) → (φ c).isSoft = true → N'.Z g = true) ∧ (N'.Z g = true → N.Z g = true)
theorem aM7 {w : World} {g j : Nat} {v : Value} (h : w.cell? ⟨g, j, none⟩ = some v) : g < w.heap.size := by
  unfold World.cell? at h
  simp only at h
  split at h
  · rename_i c e fr hc
    exact (Array.getElem?_eq_some_iff.1 hc).1
  · simp at h
theorem dT.re {w : World} {F F' : Fr} {N N' : Env} (hok : aRV φ w F N F' N') {l : aA m} {v : Value} (h : dT w F N l v) : dT w F' N' (reF φ l) v := by
  induction h with
  | bool b => exact .bool b
  | int k n => exact .int k n
  | str s => exact .str s
  | unk v h => exact .unk v h
  | nl e => exact .nl e
  | sl c es A cap z vals hc hz hv hcell hr ih =>
    rw [show reF φ (.sl c es) = .sl (φ c) (reE φ es) by rw [reF]]
    have hl : (reE φ es).length = es.length := cH es
    rw [← hl]
    refine .sl (φ c) (reE φ es) A cap z vals (by rw [hl]; exact hc) (fun e he => ?_) (by rw [hl]; exact hv) (fun hpos => ?_) (fun j l v h1 h2 => ?_)
    · rw [zU] at he
      obtain ⟨e0, he0, rfl⟩ := List.mem_map.1 he
      rw [aBN]; exact hz e0 he0
    · rw [hl] at hpos
      obtain ⟨g, o, e, ⟨hv0, hn⟩, hle, hso, hcl⟩ := hcell hpos
      obtain ⟨h1, h2, h3, h4⟩ := hok c g o (aM7 (hcl 0 _ (List.getElem?_eq_getElem hv0))) hn
      refine ⟨g, o, e, ⟨hv0, h1⟩, Nat.le_trans hle h2, ⟨fun hs => h3 hso.1 hs, fun hz' l hl' => ?_⟩, hcl⟩
      rw [zZ, vJ] at hl'
      obtain ⟨l0, hl0, rfl⟩ := List.mem_map.1 hl'
      rw [aRA]
      exact hso.2 (h4 hz') l0 hl0
    · rw [zZ, vJ, List.getElem?_map, Option.map_eq_some_iff] at h1
      obtain ⟨l0, hl0, rfl⟩ := h1
      exact ih j l0 v hl0 h2
theorem cS.re {w : World} {F F' : Fr} {N N' : Env} (hok : aRV φ w F N F' N') {ls : List (aA m)} {vs : List Value} (h : cS w F N ls vs) : cS w F' N' (reL φ ls) vs := by
  refine ⟨by rw [aBN, h.1], fun j l v h1 h2 => ?_⟩
  rw [vJ, List.getElem?_map, Option.map_eq_some_iff] at h1
  obtain ⟨l0, hl0, rfl⟩ := h1
  exact (h.2 j l0 v hl0 h2).re hok
theorem aGc {w : World} {F : Fr} {N : Env} (hφ : ∀ c g o, (φ c).Holds N w g o) (hs : ∀ c, (φ c).isSoft = false) : aRV φ w F N F N :=
  fun c g o _ _ => ⟨hφ c g o, Nat.le_refl _, fun _ h => by rw [hs] at h; simp at h, id⟩
theorem aO2 (c : Fl false) {N : Env} {w : World} {g o : Nat} : c.Holds N w g o := by cases c; trivial
theorem aL7 {N : Env} {w : World} {g o : Nat} : Fl.Holds (m := true) pG.old N w g o := trivial
end Go.Vs
end
section
namespace Go.Vs
variable {m m' : Bool} {P : Program}
mutual
def reS (φ : Fl m → Fl m') : SV m → SV m'
  | .any => .any
  | .skip => .skip
  | .leaf l => .leaf (reF φ l)
  | .own e es => .own e (reE φ es)
  | .raw e es => .raw e (reE φ es)
  | .agg cs => .agg (reL φ cs)
  | .ptr b o => .ptr b o
  | .eptr _ _ _ => .any
  | .kfn f cs => .kfn f cs
  | .bsl b z lo n => .bsl b z lo n
  | .nilptr => .nilptr
  | .nilface => .nilface
  | .fn f caps => .fn f (aQx φ caps)
  | .tup vs => .tup (aQx φ vs)
def aQx (φ : Fl m → Fl m') : List (SV m) → List (SV m')
  | [] => []
  | v :: r => reS φ v :: aQx φ r
end
variable {φ : Fl m → Fl m'}
theorem aA1 : ∀ l : List (SV m), aQx φ l = l.map (reS φ)
  | [] => rfl
  | l :: r => by rw [aQx, List.map_cons, aA1 r]
theorem aHW (x : SV m) (h : x.flat = true) : (reS φ x).flat = true := by cases x <;> first | rfl | simp [SV.flat] at h
theorem aQ3 (x : SV m) (h : x.flatT = true) : (reS φ x).flatT = true := by
  cases x with
  | tup vs =>
    rw [reS, aA1]
    simp only [SV.flatT, List.all_map] at h ⊢
    exact List.all_eq_true.2 fun v hv => aHW v (List.all_eq_true.1 h v hv)
  | _ => first | rfl | simp [SV.flatT, SV.flat] at h
theorem aRw {n : Nat} (x : SV m) (h : x.backOk n = true) : (reS φ x).backOk n = true := by
  rcases aBC h with ⟨b, z, lo, k, rfl, hlt⟩ | h'
  · exact h
  · have := aQ3 (φ := φ) x h'
    cases x <;> first | exact this | simp [SV.flatT, SV.flat] at h'
theorem aPQ (x : SV m) (h : x.handed = true) : (reS φ x).handed = true := by
  cases x with
  | fn f caps =>
    rw [reS, aA1]
    simp only [SV.handed, List.all_map] at h ⊢
    refine List.all_eq_true.2 fun v hv => ?_
    have := List.all_eq_true.1 h v hv
    cases v <;> first | rfl | simp at this
  | _ => first | rfl | simp [SV.handed, SV.data] at h
def aO5 (φ : Fl m → Fl m') (s : St m) : St m' := { tmps := s.tmps.map (reS φ), boxes := s.boxes.map (Option.map (List.map (reS φ))) }
theorem aKE (bs : gI m) (b : Nat) : bA (bs.map (Option.map (List.map (reS φ)))) b = (bA bs b).map (List.map (reS φ)) := by
  unfold bA
  rw [List.getD_eq_getElem?_getD, List.getD_eq_getElem?_getD, List.getElem?_map]
  cases bs[b]? <;> rfl
section
variable {w : World} {F : Fr} {N : Env} (hok : aRV φ w F N F N)
include hok
theorem dC.re {bm : Nat → Nat} {al : Nat → Bool} {x : SV m} {v : Value} (h : dC w F N bm al x v) : dC w F N bm al (reS φ x) v := by
  cases x with
  | leaf l => exact dT.re hok h
  | agg cs => obtain ⟨vs, e, hr⟩ := h; exact ⟨vs, e, hr.re hok⟩
  | eptr c e o => trivial
  | own e es => exact absurd h id
  | raw e es => exact absurd h id
  | fn f caps => exact absurd h id
  | tup vs => exact absurd h id
  | _ => exact h
theorem lI.re {Ow : Own} {loc : Loc} {q : Bool} {eo : Option TypeId} {es : List (List (aA m))} {v : Value} (h : lI P w F N Ow loc q eo es v) : lI P w F N Ow loc q eo (reE φ es) v := by
  rcases h with ⟨rfl, rfl⟩ | ⟨g, cap, cur, e, i, vals, hn, he, hi, hz, rfl, hg, hc, hm, hs, hx, ho, hf, ht, hr⟩
  · exact .inl ⟨rfl, rfl⟩
  · refine .inr ⟨g, cap, cur, e, i, vals, hn, he, hi, hz, by rw [cH], hg, by rw [cH]; exact hc, hm, hs, fun x hx' => ?_, ho, by rw [cH]; exact hf, by rw [cH]; exact ht, by rw [zZ]; exact hr.re hok⟩
    rw [zU] at hx'
    obtain ⟨x0, hx0, rfl⟩ := List.mem_map.1 hx'
    rw [aBN]; exact hx x0 hx0
theorem aW.re {Ow : Own} {bm : Nat → Nat} {al : Nat → Bool} {loc : Loc} {x : SV m} {v : Value} (h : aW P w F N Ow bm al loc x v) : aW P w F N Ow bm al loc (reS φ x) v := by
  have caps : ∀ (cs : List (SV m)) (vs : Array Value), (∀ (j : Nat) (c : SV m) (u : Value), cs[j]? = some c → vs[j]? = some u → dC w F N bm al c u) →
      ∀ (j : Nat) (c : SV m') (u : Value), (aQx φ cs)[j]? = some c → vs[j]? = some u → dC w F N bm al c u := by
    intro cs vs hc j c u h1 h2
    rw [aA1, List.getElem?_map, Option.map_eq_some_iff] at h1
    obtain ⟨c0, h0, rfl⟩ := h1
    exact (hc j c0 u h0 h2).re hok
  cases x with
  | own eo es => exact lI.re hok h
  | raw eo es => exact lI.re hok h
  | fn f cs => obtain ⟨vs, e, hs, hc⟩ := h; exact ⟨vs, e, by rw [hs, aA1, List.length_map], caps cs vs hc⟩
  | tup cs => obtain ⟨vs, e, hs, hc⟩ := h; exact ⟨vs, e, by rw [hs, aA1, List.length_map], caps cs vs hc⟩
  | any => trivial
  | eptr c e o => trivial
  | _ =>
    simp only [aW] at h
    have := dC.re (bm := bm) (al := al) hok h
    simpa only [reS, aW] using this
theorem Inv.re {s : St m} {tmps : Array Value} {Ow : Own} {bm : Nat → Nat} (h : Inv P s tmps w F N Ow bm) : Inv P (aO5 φ s) tmps w F N Ow bm := by
  have hal : (fun b => (bA (aO5 φ s).boxes b).isSome) = fun b => (bA s.boxes b).isSome := by
    funext b; show (bA (s.boxes.map _) b).isSome = _; rw [aKE]; cases bA s.boxes b <;> rfl
  refine ⟨by show (s.tmps.map _).length = _; rw [List.length_map]; exact h.len, fun t => ?_, fun b cs hb => ?_, h.low, h.new, fun b cs hb => ?_, h.zow⟩
  · rw [hal]
    have := aW.re hok (h.slot t)
    have e : (aO5 φ s).tmps.getD t SV.any = reS φ (s.tmps.getD t SV.any) := by
      show (s.tmps.map (reS φ)).getD t SV.any = _
      rw [List.getD_eq_getElem?_getD, List.getD_eq_getElem?_getD, List.getElem?_map]
      cases s.tmps[t]? <;> rfl
    rw [e]; exact this
  · have hb' : (bA s.boxes b).map (List.map (reS φ)) = some cs := by rw [← aKE]; exact hb
    rw [Option.map_eq_some_iff] at hb'
    obtain ⟨cs0, h0, rfl⟩ := hb'
    rcases h.box b cs0 h0 with q0 | ⟨cur, e, g1, g2, g3, g4, g5⟩
    · subst q0; exact .inl rfl
    refine .inr ⟨cur, e, g1, by rw [List.length_map]; exact g2, g3, g4, fun j c u h1 h2 => ?_⟩
    rw [hal]
    rw [List.getElem?_map, Option.map_eq_some_iff] at h1
    obtain ⟨c0, hc0, rfl⟩ := h1
    exact aW.re hok (g5 j c0 u hc0 h2)
  · have hb' : (bA s.boxes b).map (List.map (reS φ)) = some cs := by rw [← aKE]; exact hb
    rw [Option.map_eq_some_iff] at hb'
    obtain ⟨cs0, h0, _⟩ := hb'
    exact h.bmn b cs0 h0
end
abbrev er : Fl true → Fl false := fun _ => ()
abbrev li : Fl false → Fl true := fun _ => pG.old
def aF6 (D : aO false) (f : FuncId) (args : List (SV true)) (boxes : List (List (SV true))) : Option (SV true × List (List (SV true))) :=
  (D f (args.map (reS er)) (boxes.map (List.map (reS er)))).map fun r => (reS li r.1, r.2.map (List.map (reS li)))
theorem aNI {N : Env} {D : aO false} (hD : lD P N D) : lD P N (aF6 D) := by
  intro f args boxes r hr hh hf
  unfold aF6 at hr
  rw [Option.map_eq_some_iff] at hr
  obtain ⟨r0, hr0, rfl⟩ := hr
  obtain ⟨a1, a2, a3, a4, a5⟩ := hD f _ _ r0 hr0 (by
    rw [List.all_map]
    exact List.all_eq_true.2 fun v hv => aPQ v (List.all_eq_true.1 hh v hv)) (fun c hc x hx => by
    obtain ⟨c0, hc0, rfl⟩ := List.mem_map.1 hc
    obtain ⟨x0, hx0, rfl⟩ := List.mem_map.1 hx
    exact aHW x0 (hf c0 hc0 x0 hx0))
  refine ⟨by rw [List.length_map, a1, List.length_map], aRw _ (by rw [List.length_map] at a2; exact a2), fun cs hcs c hc => ?_, a4, fun w F Ow bm vals h => ?_⟩
  · obtain ⟨c0, hc0, rfl⟩ := List.mem_map.1 hcs
    obtain ⟨x0, hx0, rfl⟩ := List.mem_map.1 hc
    exact aHW x0 (a3 c0 hc0 x0 hx0)
  · have e : aO5 er { tmps := args, boxes := boxes.map some } = { tmps := args.map (reS er), boxes := (boxes.map (List.map (reS er))).map some } := by
      unfold aO5
      simp only [List.map_map]
      rfl
    refine (a5 w F Ow bm vals (e ▸ Inv.re (aGc (fun c g o => aO2 _) (fun c => rfl)) h)).mono fun ex w' ⟨v, F', Ow', h1, h2, h3⟩ => ⟨v, F', Ow', h1, ?_, h3⟩
    have e2 : aO5 li { tmps := [r0.1], boxes := r0.2.map some } = { tmps := [reS li r0.1], boxes := (r0.2.map (List.map (reS li))).map some } := by
      unfold aO5
      simp only [List.map_map]
      rfl
    exact e2 ▸ Inv.re (aGc (fun c g o => aL7) (fun c => rfl)) h2
def aLf (D : aO false) (aBz : FuncId → Bool) : aJP true := fun f => match aBz f with | true => none | false => some fun a b => aF6 D f a b
theorem aOt {N : Env} {D : aO false} (hD : lD P N D) (aBz : FuncId → Bool) : aNm P N (aLf D aBz) := by
  intro f t ht
  unfold aLf at ht
  cases hk : aBz f with
  | true => simp [hk] at ht
  | false =>
    simp only [hk, Option.some.injEq] at ht
    subst ht
    intro g args boxes r hr
    simp only at hr
    split at hr
    · rename_i hg; subst hg; exact aNI hD g args boxes r hr
    · simp at hr
theorem aQW {D : aO false} {aBz : FuncId → Bool} {H : FuncId → fH} {f : FuncId} (hk : aBz f = false) {a : List (SV true)} {b : List (List (SV true))} {a' : List (SV false)} {b' : List (List (SV false))} {r' : SV false × List (List (SV false))} {r : SV true × List (List (SV true))}
    (h : D f a' b' = some r') (ha : a.map (reS er) = a') (hb : b.map (List.map (reS er)) = b') (hr : (reS li r'.1, r'.2.map (List.map (reS li))) = r) : den P (aLf D aBz) H f a b = some r := by
  subst ha hb hr
  refine aHM (T := aLf D aBz) (t := fun a b => aF6 D f a b) (by simp [aLf, hk]) ?_
  simp [aF6, h]
end Go.Vs
end
section
namespace Go.Vs
variable {m : Bool} {P : Program}
def uO : Code → Bool
  | .seq a b => uO a && uO b
  | .cond _ a b => uO a && uO b
  | .block _ a => uO a
  | .loop _ => false
  | _ => true
def jV : Nat → Code → Bool
  | 0, _ => true
  | n + 1, .seq a b => uO a && jV n b
  | _ + 1, _ => false
abbrev way (n : Nat) : List Nat := List.replicate n 1
section
variable {β : Type} {D : aO m} {H : fH} {nm : List (List Nat)} {J : List Nat × St m → Option β}
theorem nQ : ∀ (c : Code) (r : List Nat) (blk : Nat) (s : St m) (k : Out m → Option β), uO c = true → (∀ q : List Nat, nm.contains (q ++ r).reverse = false) → qO P D H nm J r blk c s k = dS P D H cB blk c s k
  | .seq a b, r, blk, s, k, hn, hr => by
    simp only [uO, Bool.and_eq_true] at hn
    have h0 : ∀ q : List Nat, nm.contains (q ++ (0 :: r)).reverse = false := fun q => by have := hr (q ++ [0]); rwa [List.append_assoc] at this
    have h1 : ∀ q : List Nat, nm.contains (q ++ (1 :: r)).reverse = false := fun q => by have := hr (q ++ [1]); rwa [List.append_assoc] at this
    have c0 : nm.contains (0 :: r).reverse = false := h0 []
    have c1 : nm.contains (1 :: r).reverse = false := h1 []
    simp only [qO, dS, c0, c1, Bool.false_eq_true, if_false]
    rw [nQ a _ _ _ _ hn.1 h0]
    congr 1
    funext o
    cases o <;> simp only [aK9]
    exact nQ b _ _ _ _ hn.2 h1
  | .cond c a b, r, blk, s, k, hn, hr => by
    simp only [uO, Bool.and_eq_true] at hn
    have h0 : ∀ q : List Nat, nm.contains (q ++ (0 :: r)).reverse = false := fun q => by have := hr (q ++ [0]); rwa [List.append_assoc] at this
    have h1 : ∀ q : List Nat, nm.contains (q ++ (1 :: r)).reverse = false := fun q => by have := hr (q ++ [1]); rwa [List.append_assoc] at this
    have c0 : nm.contains (0 :: r).reverse = false := h0 []
    have c1 : nm.contains (1 :: r).reverse = false := h1 []
    simp only [qO, dS, c0, c1, Bool.false_eq_true, if_false, rX]
    congr 1
    funext t
    rw [nQ a _ _ _ _ hn.1 h0, nQ b _ _ _ _ hn.2 h1]
  | .block id a, r, blk, s, k, hn, hr => by
    simp only [uO] at hn
    have h0 : ∀ q : List Nat, nm.contains (q ++ (0 :: r)).reverse = false := fun q => by have := hr (q ++ [0]); rwa [List.append_assoc] at this
    have c0 : nm.contains (0 :: r).reverse = false := h0 []
    simp only [qO, dS, c0, Bool.false_eq_true, if_false]
    exact nQ a _ _ _ _ hn h0
  | .loop a, _, _, _, _, hn, _ => by simp [uO] at hn
  | .skip, _, _, _, _, _, _ => rfl
  | .region .., _, _, _, _, _, _ => rfl
  | .exit _, _, _, _, _, _, _ => rfl
  | .ret, _, _, _, _, _, _ => rfl
  | .rangeFunc .., _, _, _, _, _, _ => rfl
  | .scope _, _, _, _, _, _, _ => rfl
  | .label _, _, _, _, _, _, _ => rfl
  | .goto _, _, _, _, _, _, _ => rfl
  | .refuse _, _, _, _, _, _, _ => rfl
theorem aNE {j : Nat} (q : List Nat) (r : List Nat) : ([way j] : List (List Nat)).contains (q ++ (0 :: r)).reverse = false := by
  rw [Bool.eq_false_iff]
  intro h
  have := List.eq_of_mem_singleton (List.contains_iff_mem.1 h)
  have h0 : (0 : Nat) ∈ (q ++ (0 :: r)).reverse := by simp
  rw [this] at h0
  have := List.eq_of_mem_replicate h0
  omega
theorem aEz (j : Nat) : (way j).reverse = way j := List.reverse_replicate
theorem aNs (c : Code) : sub c [] = c := by cases c <;> rfl
theorem aEC : ∀ (j : Nat) (c : Code), jV j c = true → fQ 0 c (way j) = 0
  | 0, c, _ => by cases c <;> rfl
  | j + 1, .seq a b, h => by
    simp only [jV, Bool.and_eq_true] at h
    simp only [way, List.replicate_succ, fQ]
    exact aEC j b h.2
theorem aBx {kE : Out m → Option β} : ∀ (j : Nat) (r : List Nat) (c : Code), jV j c = true → xM P D H nm J r 0 c (way j) kE = kE
  | 0, r, c, _ => by cases c <;> rfl
  | j + 1, r, .seq a b, h => by
    simp only [jV, Bool.and_eq_true] at h
    simp only [way, List.replicate_succ, xM]
    exact aBx j _ b h.2
end
section
variable {D : aO m} {H : fH} {nt : Nat} {β : Type}
theorem aCY {N : Env} (hP : P.follows .mixedOrders = true) (hD : lD P N D) (hH : H.nt = nt) {L : Nat} (hL : nt ≤ L) {c : Code} {blk : Nat} {k : Out m → Option β} {y : β} {s : St m} {a : Act} {w : World} {F : Fr} {Ow : Own} {bm : Nat → Nat}
    {Q : Exit → Act → World → Prop} (hc : dS P D H cB blk c s k = some y) (h : Inv P s a.tmps w F N Ow bm) (hl : s.boxes.length = L)
    (hk : ∀ out ex a' w', k out = some y → aAE P N nt L a w F Ow bm out ex a' w' → Q ex a' w') : c.wp P Q a w := by
  have h1 := aMz (P := P) (D := D) (H := H) aQb c blk s k k y (fun _ h => h) hc
  rw [iH, Option.bind_eq_some_iff] at h1
  obtain ⟨o, ho, hko⟩ := h1
  obtain ⟨n, hn⟩ := aMk (Dn := fun _ => D) (D := D) ⟨fun _ _ _ _ _ _ _ h => h, fun f a b r h => ⟨0, h⟩⟩ c blk s o ho
  refine aKz hP hD hH n L hL c blk some o s a w F Ow bm Q (hn n (Nat.le_refl _)) h hl fun out ex a' w' he hend => ?_
  obtain rfl := Option.some.inj he
  exact hk _ _ _ _ hko hend
theorem aJA {N : Env} (hP : P.follows .mixedOrders = true) (hD : lD P N D) (hH : H.nt = nt) {L : Nat} (hL : nt ≤ L) {J : List Nat × St m → Option β} {k : Out m → Option β} {y : β} {Q : Exit → Act → World → Prop} :
    ∀ (n j : Nat) (c : Code) (s : St m) (a : Act) (w : World) (F : Fr) (Ow : Own) (bm : Nat → Nat), jV (n + 1) c = true → qO P D H [way (j + (n + 1))] J (way j) 0 c s k = some y → Inv P s a.tmps w F N Ow bm → s.boxes.length = L →
    (∀ out ex a' w', k out = some y → (∀ s', out ≠ .norm s') → aAE P N nt L a w F Ow bm out ex a' w' → Q ex a' w') →
    (∀ s' a' w', J (way (j + (n + 1)), s') = some y → kH P N nt s' a w F Ow bm a' w' → s'.boxes.length = L → (sub c (way (n + 1))).wp P Q a' w') → c.wp P Q a w := by
  intro n
  induction n with
  | zero =>
    intro j c s a w F Ow bm hs hc h hl hk hJ
    cases c with
    | seq x y' =>
      simp only [jV, Bool.and_eq_true] at hs
      have c0 : ([way (j + 1)] : List (List Nat)).contains (0 :: way j).reverse = false := aNE [] (way j)
      have c1 : ([way (j + 1)] : List (List Nat)).contains (1 :: way j).reverse = true := by
        rw [show (1 :: way j) = way (j + 1) from rfl, aEz]; simp
      have e1 : (1 :: way j).reverse = way (j + 1) := by rw [show (1 :: way j) = way (j + 1) from rfl, aEz]
      simp only [qO, Nat.zero_add, c0, c1, Bool.false_eq_true, if_false, if_true] at hc
      rw [nQ x _ _ _ _ hs.1 fun q => aNE q (way j)] at hc
      refine wp_seq (aCY hP hD hH hL hc h hl fun out ex a' w' ho he => ?_)
      cases out <;> cases ex <;> simp only [aAE] at he
      · simp only [aK9, e1] at ho
        have := hJ _ a' w' ho he.1 he.2
        rw [show sub (x.seq y') (way (0 + 1)) = sub y' [] from rfl, aNs] at this
        exact this
      · exact hk _ _ _ _ ho (fun s' h => by cases h) he
      · exact hk _ _ _ _ ho (fun s' h => by cases h) he
    | _ => simp [jV] at hs
  | succ n ih =>
    intro j c s a w F Ow bm hs hc h hl hk hJ
    cases c with
    | seq x y' =>
      rw [jV, Bool.and_eq_true] at hs
      have c0 : ([way (j + (n + 1 + 1))] : List (List Nat)).contains (0 :: way j).reverse = false := aNE [] (way j)
      have c1 : ([way (j + (n + 1 + 1))] : List (List Nat)).contains (1 :: way j).reverse = false := by
        rw [show (1 :: way j) = way (j + 1) from rfl, aEz, Bool.eq_false_iff]
        intro hh
        have := congrArg List.length (List.eq_of_mem_singleton (List.contains_iff_mem.1 hh))
        simp at this
      simp only [qO, c0, c1, Bool.false_eq_true, if_false] at hc
      rw [nQ x _ _ _ _ hs.1 fun q => aNE q (way j)] at hc
      refine wp_seq (aCY hP hD hH hL hc h hl fun out ex a' w' ho he => ?_)
      cases out <;> cases ex <;> simp only [aAE] at he
      · simp only [aK9] at ho
        obtain ⟨hst, hl'⟩ := he
        obtain ⟨F1, O1, b1, h1, htr⟩ := aAE.trans (L := L) hst
        obtain ⟨F2, O2, b2, h2, htr2⟩ := hst.inv
        refine ih (j + 1) y' _ a' w' F2 O2 b2 hs.2 (by rw [show j + 1 + (n + 1) = j + (n + 1 + 1) by omega]; exact ho) h2 hl' (fun out ex a2 w2 ho2 hne he2 => hk out ex a2 w2 ho2 hne ?_) fun s2 a2 w2 hJ2 hst2 hl2 => ?_
        · cases out <;> cases ex <;> simp only [aAE] at he2 ⊢
          · exact ⟨htr2 _ _ _ he2.1, he2.2⟩
          · exact ⟨he2.1, htr2 _ _ _ he2.2.1, he2.2.2⟩
          · exact ⟨htr2 _ _ _ he2.1, he2.2⟩
        · have := hJ s2 a2 w2 (by rw [show j + (n + 1 + 1) = j + 1 + (n + 1) by omega]; exact hJ2) (htr2 _ _ _ hst2) hl2
          exact this
      · exact hk _ _ _ _ ho (fun s' h => by cases h) he
      · exact hk _ _ _ _ ho (fun s' h => by cases h) he
    | _ => simp [jV] at hs
end
end Go.Vs
namespace Go.Vs
variable {m : Bool} {P : Program}
theorem aDy : ∀ (j n : Nat) (c : Code), jV (j + n) c = true → jV j c = true ∧ jV n (sub c (way j)) = true
  | 0, n, c, h => ⟨rfl, by rw [show way 0 = [] from rfl, aNs]; simpa using h⟩
  | j + 1, n, .seq a b, h => by
    rw [show j + 1 + n = (j + n) + 1 by omega, jV, Bool.and_eq_true] at h
    obtain ⟨h1, h2⟩ := aDy j n b h.2
    exact ⟨by rw [jV, h.1, h1]; rfl, h2⟩
  | j + 1, n, .skip, h => by rw [show j + 1 + n = (j + n) + 1 by omega] at h; simp [jV] at h
  | j + 1, n, .region .., h => by rw [show j + 1 + n = (j + n) + 1 by omega] at h; simp [jV] at h
  | j + 1, n, .cond .., h => by rw [show j + 1 + n = (j + n) + 1 by omega] at h; simp [jV] at h
  | j + 1, n, .block .., h => by rw [show j + 1 + n = (j + n) + 1 by omega] at h; simp [jV] at h
  | j + 1, n, .loop _, h => by rw [show j + 1 + n = (j + n) + 1 by omega] at h; simp [jV] at h
  | j + 1, n, .rangeFunc .., h => by rw [show j + 1 + n = (j + n) + 1 by omega] at h; simp [jV] at h
  | j + 1, n, .exit _, h => by rw [show j + 1 + n = (j + n) + 1 by omega] at h; simp [jV] at h
  | j + 1, n, .ret, h => by rw [show j + 1 + n = (j + n) + 1 by omega] at h; simp [jV] at h
  | j + 1, n, .scope _, h => by rw [show j + 1 + n = (j + n) + 1 by omega] at h; simp [jV] at h
  | j + 1, n, .label _, h => by rw [show j + 1 + n = (j + n) + 1 by omega] at h; simp [jV] at h
  | j + 1, n, .goto _, h => by rw [show j + 1 + n = (j + n) + 1 by omega] at h; simp [jV] at h
  | j + 1, n, .refuse _, h => by rw [show j + 1 + n = (j + n) + 1 by omega] at h; simp [jV] at h
theorem aSv : ∀ (j n : Nat) (c : Code), sub c (way (j + n)) = sub (sub c (way j)) (way n) := fun j n c => by
  rw [show way (j + n) = way j ++ way n from (List.replicate_append_replicate (n := j) (m := n) (a := 1)).symm, kA]
structure kM (P : Program) (fn : Func) (W : World) (N : Env) (s : St m) (a : Act) (w : World) (F : Fr) (Ow : Own) (bm : Nat → Nat) : Prop where
  inv : Inv P s a.tmps w F N Ow bm
  len : s.boxes.length = fn.ntmps
  defers : a.defers = []
  bel : Go.RowKit.Below W.heap.size W w
  own : ∀ g, g < W.heap.size → Ow g = none
  z : ∀ g, g < W.heap.size → N.Z g = false
abbrev aID (W : World) : Ending → World → Prop := fun e w' => e = .returned (.bool true) ∧ Go.RowKit.Below W.heap.size W w'
abbrev yes : SV m × List (List (SV m)) := (.leaf (.bool true), [])
section
variable {D : aO m} {H : FuncId → fH} {f : FuncId} {fn : Func} {c0 : Code} {W : World} {N : Env} {s : St m} {a : Act} {w : World} {F : Fr} {Ow : Own} {bm : Nat → Nat}
theorem kM.step {s' : St m} {a' : Act} {w' : World} (h : kM P fn W N s a w F Ow bm) (hst : kH P N fn.ntmps s' a w F Ow bm a' w') (hl : s'.boxes.length = fn.ntmps) :
    ∃ F' Ow' bm', kM P fn W N s' a' w' F' Ow' bm' ∧ Far N w F Ow w' F' Ow' := by
  obtain ⟨F1, O1, b1, k1, k2, k3, k4⟩ := hst
  refine ⟨F1, O1, b1, ⟨k1, hl, k4.trans h.defers, h.bel.trans ⟨k2.os, k2.tape, k2.output, k2.size, fun g hg => ?_⟩, fun g hg => ?_, h.z⟩, k2⟩
  · exact (k2.old g (Nat.lt_of_lt_of_le hg h.bel.size) (h.own g hg)).1 (h.z g hg)
  · exact (k2.old g (Nat.lt_of_lt_of_le hg h.bel.size) (h.own g hg)).2.2
theorem kM.back {a' : Act} {w' : World} {ex : Exit} {out : Out m} (h : kM P fn W N s a w F Ow bm) (ho : aMJ P fn 0 out = some yes) (he : aAE P N fn.ntmps fn.ntmps a w F Ow bm out ex a' w') : bodyPost P fn (aID W) ex a' w' := by
  replace ho := aMM ho
  have fin : ∀ s' : St m, uP P fn 0 s' = some yes → kH P N fn.ntmps s' a w F Ow bm a' w' → s'.boxes.length = fn.ntmps → a'.defers = [] ∧ ∃ v, (results fn a'.tmps).run P w' = .ok v w' ∧ aID W (.returned v) w' := by
    intro s' hl hst hlen
    obtain ⟨F1, O1, b1, k, _⟩ := h.step hst hlen
    obtain ⟨_, _, _, u, O2, F2, l4, l5, _⟩ := k.inv.leave hl
    refine ⟨k.defers, u, l4, ?_, k.bel⟩
    have := l5.slot 0
    have hv := qA (b := true) (w := w') (F := F2) (N := N) (by simpa [aW, dC] using this)
    rw [hv]
  cases out <;> cases ex <;> simp only [aAE] at he
  · exact fin _ ho he.1 he.2
  · simp [aRx] at ho
  · exact fin _ ho he.1 he.2
variable (hP : P.follows .mixedOrders = true) (hD : lD P N D) (hfn : P.funcs[f]? = some fn) (hc0 : fn.body = some c0)
include hP hD hfn hc0
omit hP hD in
theorem aIy : wW P f = c0 ∧ uJ P f = fn := by
  unfold wW uJ; rw [hfn]; simp [hc0]
theorem aKl {j n : Nat} (hsp : jV (j + (n + 1)) c0 = true) (h : kM P fn W N s a w F Ow bm) {s1 : St m}
    (hrun : ∀ J : List Nat × St m → Option (SV m × List (List (SV m))), yX P D H f [way (j + (n + 1))] 0 J (way j, s) = J (way (j + (n + 1)), s1))
    (next : ∀ a' w' F' Ow' bm', kM P fn W N s1 a' w' F' Ow' bm' → Far N w F Ow w' F' Ow' → (sub c0 (way (j + (n + 1)))).wp P (bodyPost P fn (aID W)) a' w') :
    (sub c0 (way j)).wp P (bodyPost P fn (aID W)) a w := by
  classical
  obtain ⟨e1, e2⟩ := aIy hfn hc0
  obtain ⟨hs1, hs2⟩ := aDy j (n + 1) c0 hsp
  have hr := hrun fun x => if x.2 = s1 then some yes else none
  simp only [if_true] at hr
  unfold yX at hr
  simp only [e1, e2, aEz] at hr
  rw [aBx j [] c0 hs1, aEC j c0 hs1] at hr
  refine aJA (L := fn.ntmps) hP hD rfl (Nat.le_refl _) n j _ s a w F Ow bm hs2 hr h.inv h.len (fun out ex a' w' ho _ he => h.back ho he) fun s' a' w' hJ hst hl => ?_
  have : s' = s1 := by
    by_cases hx : s' = s1
    · exact hx
    · simp [hx] at hJ
  subst this
  obtain ⟨F1, O1, b1, k, kf⟩ := h.step hst hl
  rw [← aSv]
  exact next a' w' F1 O1 b1 k kf
theorem aHR {j n : Nat} (hsp : jV (j + (n + 1)) c0 = true) (h : kM P fn W N s a w F Ow bm)
    (hrun : ∀ J : List Nat × St m → Option (SV m × List (List (SV m))), yX P D H f [way (j + (n + 1))] 0 J (way j, s) = some yes) :
    (sub c0 (way j)).wp P (bodyPost P fn (aID W)) a w := by
  obtain ⟨e1, e2⟩ := aIy hfn hc0
  obtain ⟨hs1, hs2⟩ := aDy j (n + 1) c0 hsp
  have hr := hrun fun x => none
  unfold yX at hr
  simp only [e1, e2, aEz] at hr
  rw [aBx j [] c0 hs1, aEC j c0 hs1] at hr
  exact aJA (L := fn.ntmps) hP hD rfl (Nat.le_refl _) n j _ s a w F Ow bm hs2 hr h.inv h.len (fun out ex a' w' ho _ he => h.back ho he) fun s' a' w' hJ _ _ => by simp at hJ
theorem aG3 {j : Nat} (hsp : jV j c0 = true) (hnl : uO (sub c0 (way j)) = true) (h : kM P fn W N s a w F Ow bm)
    (hrun : ∀ J : List Nat × St m → Option (SV m × List (List (SV m))), yX P D H f [] 0 J (way j, s) = some yes) :
    (sub c0 (way j)).wp P (bodyPost P fn (aID W)) a w := by
  obtain ⟨e1, e2⟩ := aIy hfn hc0
  have hr := hrun fun x => none
  unfold yX at hr
  simp only [e1, e2, aEz] at hr
  rw [aBx j [] c0 hsp, aEC j c0 hsp, nQ _ _ _ _ _ hnl (fun q => by simp)] at hr
  exact aCY (L := fn.ntmps) hP hD rfl (Nat.le_refl _) hr h.inv h.len fun out ex a' w' ho he => h.back ho he
end
end Go.Vs
end
section
namespace Go.Vs
variable {P : Program}
mutual
def tuF (φ : Fl true → Fl true) (σ : Fl true → Bool) : Bool → aA true → aA true
  | i, .bool b => if i then .unk else .bool b
  | i, .int k n => if i then .unk else .int k n
  | i, .str s => if i then .unk else .str s
  | _, .unk => .unk
  | i, .nl e => if i then .sl eQ [] else .nl e
  | _, .sl c es => .sl (if σ c then eQ else φ c) (tuE φ σ (σ c) es)
def tuL (φ : Fl true → Fl true) (σ : Fl true → Bool) : Bool → List (aA true) → List (aA true)
  | _, [] => []
  | i, l :: r => tuF φ σ i l :: tuL φ σ i r
def tuE (φ : Fl true → Fl true) (σ : Fl true → Bool) : Bool → List (List (aA true)) → List (List (aA true))
  | _, [] => []
  | i, e :: r => tuL φ σ i e :: tuE φ σ i r
end
variable {φ : Fl true → Fl true} {σ : Fl true → Bool}
theorem zT (i : Bool) : ∀ l : List (aA true), tuL φ σ i l = l.map (tuF φ σ i)
  | [] => by rw [tuL]; rfl
  | l :: r => by rw [tuL, List.map_cons, zT i r]
theorem aNg (i : Bool) : ∀ l : List (List (aA true)), tuE φ σ i l = l.map (tuL φ σ i)
  | [] => by rw [tuE]; rfl
  | l :: r => by rw [tuE, List.map_cons, aNg i r]
theorem aBT (i : Bool) (l : List (aA true)) : (tuL φ σ i l).length = l.length := by rw [zT, List.length_map]
theorem aPz (i : Bool) (l : List (List (aA true))) : (tuE φ σ i l).length = l.length := by rw [aNg, List.length_map]
theorem aD1 (i : Bool) : ∀ l : List (List (aA true)), (tuE φ σ i l).flatten = tuL φ σ i l.flatten
  | [] => by rw [tuE]; rfl
  | e :: r => by rw [tuE, List.flatten_cons, List.flatten_cons, aD1 i r, zT, zT, zT, List.map_append]
theorem aRz (l : aA true) : (tuF φ σ true l).soft = true := by cases l <;> rfl
mutual
def aFs (p : Fl true → Bool) : aA true → Bool
  | .sl c es => p c && aKJ p es
  | _ => true
def aBR (p : Fl true → Bool) : List (aA true) → Bool
  | [] => true
  | l :: r => aFs p l && aBR p r
def aKJ (p : Fl true → Bool) : List (List (aA true)) → Bool
  | [] => true
  | e :: r => aBR p e && aKJ p r
end
mutual
theorem aMS : ∀ l : aA true, aFs (fun _ => true) l = true
  | .sl c es => by rw [aFs, aIh es]; rfl
  | .bool _ | .int _ _ | .str _ | .unk | .nl _ => by simp [aFs]
theorem aIB : ∀ l : List (aA true), aBR (fun _ => true) l = true
  | [] => by rw [aBR]
  | l :: r => by rw [aBR, aMS l, aIB r]; rfl
theorem aIh : ∀ l : List (List (aA true)), aKJ (fun _ => true) l = true
  | [] => by rw [aKJ]
  | l :: r => by rw [aKJ, aIB l, aIh r]; rfl
end
mutual
theorem aSB {m : Bool} {p : Fl true → Bool} {c : Fl true} (h : p c = true) : ∀ l : aA m, aFs p (reF (fun _ => c) l) = true
  | .sl _ es => by rw [reF, aFs, h, aAc h es]; rfl
  | .bool _ | .int _ _ | .str _ | .unk | .nl _ => by simp [reF, aFs]
theorem aQe {m : Bool} {p : Fl true → Bool} {c : Fl true} (h : p c = true) : ∀ l : List (aA m), aBR p (reL (fun _ => c) l) = true
  | [] => by rw [reL, aBR]
  | l :: r => by rw [reL, aBR, aSB h l, aQe h r]; rfl
theorem aAc {m : Bool} {p : Fl true → Bool} {c : Fl true} (h : p c = true) : ∀ l : List (List (aA m)), aKJ p (reE (fun _ => c) l) = true
  | [] => by rw [reE, aKJ]
  | l :: r => by rw [reE, aKJ, aQe h l, aAc h r]; rfl
end
theorem aLs {p : Fl true → Bool} : ∀ {l : List (aA true)}, aBR p l = true → ∀ x ∈ l, aFs p x = true
  | y :: r, h, x, hx => by
    rw [aBR, Bool.and_eq_true] at h
    rcases List.mem_cons.1 hx with rfl | hx
    · exact h.1
    · exact aLs h.2 x hx
theorem aOl {p : Fl true → Bool} : ∀ {l : List (List (aA true))}, aKJ p l = true → ∀ x ∈ l.flatten, aFs p x = true
  | e :: r, h, x, hx => by
    rw [aKJ, Bool.and_eq_true] at h
    rw [List.flatten_cons] at hx
    rcases List.mem_append.1 hx with hx | hx
    · exact aLs h.1 x hx
    · exact aOl h.2 x hx
abbrev fl (c : Fl true) : Fl false → Fl true := fun _ => c
mutual
def soF : aA false → aA true
  | .bool _ => .unk
  | .int _ _ => .unk
  | .str _ => .unk
  | .unk => .unk
  | .nl _ => .sl eQ []
  | .sl _ es => .sl eQ (soE es)
def soL : List (aA false) → List (aA true)
  | [] => []
  | l :: r => soF l :: soL r
def soE : List (List (aA false)) → List (List (aA true))
  | [] => []
  | e :: r => soL e :: soE r
end
mutual
theorem aSX {c : Fl true} (h : σ c = false) : ∀ l : aA false, tuF φ σ false (reF (fl c) l) = reF (fl (φ c)) l
  | .sl _ es => by rw [reF, tuF, h, aDe h es, reF]; rfl
  | .bool _ | .int _ _ | .str _ | .unk | .nl _ => by simp [reF, tuF]
theorem aRW {c : Fl true} (h : σ c = false) : ∀ l : List (aA false), tuL φ σ false (reL (fl c) l) = reL (fl (φ c)) l
  | [] => by rw [reL, tuL, reL]
  | l :: r => by rw [reL, tuL, aSX h l, aRW h r, reL]
theorem aDe {c : Fl true} (h : σ c = false) : ∀ l : List (List (aA false)), tuE φ σ false (reE (fl c) l) = reE (fl (φ c)) l
  | [] => by rw [reE, tuE, reE]
  | l :: r => by rw [reE, tuE, aRW h l, aDe h r, reE]
end
mutual
theorem aTf {c : Fl true} (h : σ c = true) : ∀ l : aA false, tuF φ σ true (reF (fl c) l) = soF l
  | .sl _ es => by rw [reF, tuF, h, aPG h es, soF]; rfl
  | .bool _ | .int _ _ | .str _ | .unk | .nl _ => by simp [reF, tuF, soF]
theorem aRQ {c : Fl true} (h : σ c = true) : ∀ l : List (aA false), tuL φ σ true (reL (fl c) l) = soL l
  | [] => by rw [reL, tuL, soL]
  | l :: r => by rw [reL, tuL, aTf h l, aRQ h r, soL]
theorem aPG {c : Fl true} (h : σ c = true) : ∀ l : List (List (aA false)), tuE φ σ true (reE (fl c) l) = soE l
  | [] => by rw [reE, tuE, soE]
  | l :: r => by rw [reE, tuE, aRQ h l, aPG h r, soE]
end
mutual
def saL : List (aA false) → List (aA true)
  | [] => []
  | l :: r => saF l :: saL r
def saF : aA false → aA true
  | .bool b => .bool b
  | .int k n => .int k n
  | .str s => .str s
  | .unk => .unk
  | .nl e => .nl e
  | .sl _ es => .sl eQ (soE es)
end
def aQ4 (p : Fl true → Bool) (φ : Fl true → Fl true) (σ : Fl true → Bool) (w : World) (F : Fr) (N : Env) (F' : Fr) (N' : Env) : Prop :=
  ∀ (c : Fl true) (g o : Nat), p c = true → g < w.heap.size → 0 < F g → c.Holds N w g o → F g ≤ F' g ∧ ((σ c = true ∧ N'.Z g = true) ∨ (σ c = false ∧ (φ c).Holds N' w g o ∧ (φ c).isSoft = false ∧ N'.Z g = false))
theorem dT.tu {p : Fl true → Bool} {w : World} {F F' : Fr} {N N' : Env} (hok : aQ4 p φ σ w F N F' N') {l : aA true} {v : Value} (h : dT w F N l v) : aFs p l = true → ∀ i, dT w F' N' (tuF φ σ i l) v := by
  induction h with
  | bool b => intro _ i; cases i <;> simp only [tuF] <;> first | exact .bool b | exact .unk _ rfl
  | int k n => intro _ i; cases i <;> simp only [tuF] <;> first | exact .int k n | exact .unk _ rfl
  | str s => intro _ i; cases i <;> simp only [tuF] <;> first | exact .str s | exact .unk _ rfl
  | unk v h => intro _ i; rw [tuF]; exact .unk v h
  | nl e =>
    intro _ i
    cases i <;> simp only [tuF]
    · exact .nl e
    · exact mL (es := []) (z := 0) (vals := []) (Nat.le_refl _) (by simp) (fun h => by simp at h) (cS.nil _ _ _)
  | sl c es A cap z vals hc hz hv hcell hr ih =>
    intro hp i
    rw [aFs, Bool.and_eq_true] at hp
    rw [tuF]
    have hl : (tuE φ σ (σ c) es).length = es.length := aPz _ es
    rw [← hl]
    refine .sl _ _ A cap z vals (by rw [hl]; exact hc) (fun e he => ?_) (by rw [hl]; exact hv) (fun hpos => ?_) (fun j l v h1 h2 => ?_)
    · rw [aNg] at he
      obtain ⟨e0, he0, rfl⟩ := List.mem_map.1 he
      rw [aBT]; exact hz e0 he0
    · rw [hl] at hpos
      obtain ⟨g, o, e, ⟨hv0, hn⟩, hle, hso, hcl⟩ := hcell hpos
      obtain ⟨h1, h2⟩ := hok c g o hp.1 (aM7 (hcl 0 _ (List.getElem?_eq_getElem hv0))) (by omega) hn
      rcases h2 with ⟨hs, hZ⟩ | ⟨hs, hH, hS, hZ⟩
      · refine ⟨g, o, e, ⟨hv0, by rw [hs]; trivial⟩, Nat.le_trans hle h1, ⟨fun _ => hZ, fun _ l hl' => ?_⟩, hcl⟩
        rw [aD1, zT, hs] at hl'
        obtain ⟨l0, _, rfl⟩ := List.mem_map.1 hl'
        exact aRz l0
      · refine ⟨g, o, e, ⟨hv0, by rw [hs]; exact hH⟩, Nat.le_trans hle h1, ⟨fun h => ?_, fun h => by rw [hZ] at h; simp at h⟩, hcl⟩
        rw [hs] at h
        simp only [Bool.false_eq_true, if_false] at h
        rw [hS] at h; simp at h
    · rw [aD1, zT, List.getElem?_map, Option.map_eq_some_iff] at h1
      obtain ⟨l0, hl0, rfl⟩ := h1
      exact ih j l0 v hl0 h2 (aOl hp.2 l0 (List.mem_of_getElem? hl0)) _
theorem cS.tu {p : Fl true → Bool} {w : World} {F F' : Fr} {N N' : Env} (hok : aQ4 p φ σ w F N F' N') {ls : List (aA true)} {vs : List Value} (h : cS w F N ls vs) (hp : aBR p ls = true) (i : Bool) : cS w F' N' (tuL φ σ i ls) vs := by
  refine ⟨by rw [aBT, h.1], fun j l v h1 h2 => ?_⟩
  rw [zT, List.getElem?_map, Option.map_eq_some_iff] at h1
  obtain ⟨l0, hl0, rfl⟩ := h1
  exact dT.tu hok (h.2 j l0 v hl0 h2) (aLs hp l0 (List.mem_of_getElem? hl0)) i
def tuS (φ : Fl true → Fl true) (σ : Fl true → Bool) : SV true → SV true
  | .leaf l => .leaf (tuF φ σ false l)
  | .own _ es => .leaf (tuF φ σ false (.sl (Fl.new true) es))
  | .agg cs => .agg (tuL φ σ false cs)
  | _ => .any
def aGU (p : Fl true → Bool) : SV true → Bool
  | .leaf l => aFs p l
  | .own _ es => p (Fl.new true) && aKJ p es
  | .agg cs => aBR p cs
  | _ => true
theorem aSI {p : Fl true → Bool} {w : World} {F F' : Fr} {N N' : Env} (hok : aQ4 p φ σ w F N F' N') {Ow Ow' : Own} {bm bm' : Nat → Nat} {al al' : Nat → Bool} {loc loc' : Loc} {x : SV true} {v : Value} (hx : aGU p x = true) (h : aW P w F N Ow bm al loc x v) :
    aW P w F' N' Ow' bm' al' loc' (tuS φ σ x) v := by
  cases x with
  | leaf l => exact aW.leaf (dT.tu hok (show dT w F N l v by simpa [aW, dC] using h) hx false)
  | own e es => exact aW.leaf (dT.tu hok (lI.leaf h) (by rw [aFs]; exact hx) false)
  | agg cs =>
    obtain ⟨vs, e, hr⟩ : ∃ vs, v = .agg vs ∧ cS w F N cs vs.toList := by simpa [aW, dC] using h
    have h2 : ∃ vs, v = .agg vs ∧ cS w F' N' (tuL φ σ false cs) vs.toList := ⟨vs, e, cS.tu hok hr hx false⟩
    simpa [tuS, aW, dC] using h2
  | _ => exact aW.any
abbrev tQ : Fl true := pG.tag 3 false
def aRd : Fl true → Bool := fun c => match c with | pG.tag 3 _ => true | _ => false
def tuB (φ : Fl true → Fl true) (σ : Fl true → Bool) (bs : gI true) : SV true → SV true
  | .ptr b o => match (bA bs b).bind cN with
    | some (l :: ls) => .eptr tQ (tuL φ σ false (l :: ls)) o
    | _ => .any
  | .eptr c e o => if aRd c then .eptr tQ (tuL φ σ false e) o else .any
  | x => tuS φ σ x
def rI (p : Fl true → Bool) (bs : gI true) : SV true → Bool
  | .ptr b _ => match (bA bs b).bind cN with
    | some ls => aBR p ls
    | none => true
  | .eptr c e _ => !(aRd c) || aBR p e
  | x => aGU p x
theorem aRT {bs : gI true} {b : Nat} {o : Nat} {ls : List (aA true)} (h : (bA bs b).bind cN = some ls) (hne : ls ≠ []) : tuB φ σ bs (.ptr b o) = .eptr tQ (tuL φ σ false ls) o := by
  cases ls with
  | nil => exact absurd rfl hne
  | cons l ls => simp only [tuB, h]
theorem aQB {bs : gI true} {b : Nat} {o : Nat} (h : (bA bs b).bind cN = some []) : tuB φ σ bs (.ptr b o) = .any := by
  simp only [tuB, h]
theorem aRq {bs : gI true} {b : Nat} {o : Nat} (h : (bA bs b).bind cN = none) : tuB φ σ bs (.ptr b o) = .any := by
  simp only [tuB, h]
theorem aMZ {p : Fl true → Bool} {bs : gI true} {b : Nat} {o : Nat} {ls : List (aA true)} (h : (bA bs b).bind cN = some ls) : rI p bs (.ptr b o) = aBR p ls := by
  simp only [rI, h]
def aB3 (F : Fr) (w : World) : Fr := fun g => max (F g) (tN w g)
theorem pN (F : Fr) (w : World) (g : Nat) : F g ≤ aB3 F w g := Nat.le_max_left _ _
theorem aEv {F : Fr} {w : World} {g : Nat} (h : F g = 0) (hg : w.heap.size ≤ g) : aB3 F w g = 0 := by
  unfold aB3 tN
  rw [h, Array.getElem?_eq_none hg]; rfl
theorem aQu {F : Fr} {w : World} {g : Nat} {cur : Array Value} {e : TypeId} {k : Nat × Nat} (h : w.heap[g]? = some (.cells cur e k)) : cur.size ≤ aB3 F w g := by
  unfold aB3 tN
  rw [h]; exact Nat.le_max_right _ _
structure aRy (bs : gI true) (bm : Nat → Nat) (F : Fr) (N : Env) (F' : Fr) (N' : Env) : Prop where
  box : ∀ b cs, bA bs b = some cs → cs ≠ [] → cs.length ≤ F' (bm b) ∧ N'.T 3 (bm b) = true ∧ N'.Z (bm b) = false
  row : ∀ g, N.T 3 g = true → F g ≤ F' g ∧ N'.T 3 g = true ∧ N'.Z g = false
theorem aP9 {fn : Func} {W : World} {N N' : Env} {s : St true} {a : Act} {w : World} {F F' : Fr} {Ow : Own} {bm : Nat → Nat} (h : kM P fn W N s a w F Ow bm) {p : Fl true → Bool} (hok : aQ4 p φ σ w F N F' N') (hb : aRy s.boxes bm F N F' N') {Ow' : Own} {bm' : Nat → Nat} {al' : Nat → Bool} {loc loc' : Loc} {x : SV true} {v : Value}
    (hx : rI p s.boxes x = true) (hr : aW P w F N Ow bm (fun b => (bA s.boxes b).isSome) loc x v) : aW P w F' N' Ow' bm' al' loc' (tuB φ σ s.boxes x) v := by
  cases x with
  | ptr b o =>
    cases hl : (bA s.boxes b).bind cN with
    | none => rw [aRq hl]; exact aW.any
    | some ls =>
      by_cases hl0 : ls = []
      · subst hl0; rw [aQB hl]; exact aW.any
      rw [aRT hl hl0]
      rw [aMZ hl] at hx
      obtain ⟨cs, hcs, hls⟩ := Option.bind_eq_some_iff.1 hl
      have hne : cs ≠ [] := by rintro rfl; simp [cN] at hls; exact hl0 hls
      have hv : v = .pointer (some ⟨bm b, o, none⟩) ∧ (bA s.boxes b).isSome = true := by simpa only [aW, dC] using hr
      obtain ⟨vals, h0, h1, hrr⟩ : ∃ vals : List Value, vals.length = cs.length ∧ (∀ (j : Nat) (u : Value), vals[j]? = some u → w.cell? ⟨bm b, j, none⟩ = some u) ∧ cS w F N ls vals := by
        rcases h.inv.box b cs hcs with rfl | ⟨cur, et, h1, h2, h3, h4, h5⟩
        · simp [cN] at hls; subst hls; exact ⟨[], rfl, by simp, cS.nil _ _ _⟩
        · have hcl := Array.length_toList (xs := cur)
          refine ⟨cur.toList.take cs.length, by rw [List.length_take]; omega, fun j u hj => ?_, yC (P := P) (Ow := Ow) (bm := bm) (al := fun b => (bA s.boxes b).isSome) cs _ ls (fun j => .box b j) hls (by rw [List.length_take]; omega) fun j c u hc hu => ?_⟩
          · rw [List.getElem?_take] at hj
            split at hj
            · rw [rK h1]; simpa using hj
            · simp at hj
          · rw [List.getElem?_take] at hu
            split at hu
            · exact h5 j c u hc (by simpa using hu)
            · simp at hu
      obtain ⟨q1, q2, q3⟩ := hb.box b cs hcs hne
      have hr2 := cS.tu hok hrr hx false
      have goal : dC (m := true) w F' N' bm' al' (.eptr tQ (tuL φ σ false ls) o) v := by
        refine ⟨bm b, 0, vals, by rw [hv.1, Nat.zero_add], ?_, ⟨q2, fun hz => by rw [q3] at hz; simp at hz⟩, hr2, fun j u hj => ?_⟩
        · have := hrr.1; rw [aBT, Nat.zero_add]; omega
        · rw [Nat.zero_add]; exact h1 j u hj
      simpa only [aW] using goal
  | eptr c e o =>
    cases hte : aRd c with
    | false =>
      rw [show tuB φ σ s.boxes (.eptr c e o) = .any by simp only [tuB, hte]; rfl]
      exact aW.any
    | true =>
      rw [show tuB φ σ s.boxes (.eptr c e o) = .eptr tQ (tuL φ σ false e) o by simp only [tuB, hte]; rfl]
      have hp : aBR p e = true := by simpa [rI, hte] using hx
      obtain ⟨g, q, vals, hz, hle, hso, hrr, hc⟩ : ∃ g q vals, v = .pointer (some ⟨g, q + o, none⟩) ∧ q + e.length ≤ F g ∧ (c.At N g ∧ (N.Z g = true → ∀ l ∈ e, l.soft = true)) ∧ cS w F N e vals ∧ ∀ (j : Nat) (u : Value), vals[j]? = some u → w.cell? ⟨g, q + j, none⟩ = some u := by simpa only [aW, dC] using hr
      have ht : N.T 3 g = true := by
        cases c with
        | tag k f =>
          have hk : k = 3 := by
            rcases k with _ | _ | _ | _ | k <;> first | rfl | cases hte
          subst hk; exact hso.1
        | _ => cases hte
      obtain ⟨q1, q2, q3⟩ := hb.row g ht
      have goal : dC (m := true) w F' N' bm' al' (.eptr tQ (tuL φ σ false e) o) v := by
        refine ⟨g, q, vals, hz, ?_, ⟨q2, fun hz => by rw [q3] at hz; simp at hz⟩, cS.tu hok hrr hp false, hc⟩
        rw [aBT]; omega
      simpa only [aW] using goal
  | _ => first | exact aW.any | (simp only [tuB]; exact aSI hok (by simpa only [rI] using hx) hr)
def tuT (φ : Fl true → Fl true) (σ : Fl true → Bool) (bs : gI true) (ds : List Nat) : Nat → List (SV true) → List (SV true)
  | _, [] => []
  | i, x :: r => (if ds.contains i then .any else tuB φ σ bs x) :: tuT φ σ bs ds (i + 1) r
theorem aBM {bs : gI true} (ds : List Nat) : ∀ (i : Nat) (l : List (SV true)), (tuT φ σ bs ds i l).length = l.length
  | _, [] => rfl
  | i, x :: r => by rw [tuT, List.length_cons, List.length_cons, aBM ds (i + 1) r]
theorem aNH {bs : gI true} (ds : List Nat) : ∀ (i : Nat) (l : List (SV true)) (t : Nat), (tuT φ σ bs ds i l).getD t .any = .any ∨ (ds.contains (i + t) = false ∧ (tuT φ σ bs ds i l).getD t .any = tuB φ σ bs (l.getD t .any))
  | i, [], t => by left; simp [tuT]
  | i, x :: r, 0 => by
    cases h : ds.contains i with
    | true => left; simp only [tuT, h, if_true]; rfl
    | false => right; exact ⟨rfl, by simp only [tuT, h]; rfl⟩
  | i, x :: r, t + 1 => by
    have := aNH (bs := bs) ds (i + 1) r t
    rw [show i + 1 + t = i + (t + 1) by omega] at this
    simpa [tuT] using this
def turn (φ : Fl true → Fl true) (σ : Fl true → Bool) (ds : List Nat) (s : St true) : St true := { tmps := tuT φ σ s.boxes ds 0 s.tmps, boxes := s.boxes.map fun _ => none }
def lW (p : Fl true → Bool) (bs : gI true) (ds : List Nat) : Nat → List (SV true) → Bool
  | _, [] => true
  | i, x :: r => (ds.contains i || rI p bs x) && lW p bs ds (i + 1) r
theorem aDY {p : Fl true → Bool} {bs : gI true} (ds : List Nat) : ∀ (i : Nat) (l : List (SV true)) (t : Nat), lW p bs ds i l = true → ds.contains (i + t) = false → rI p bs (l.getD t .any) = true
  | _, [], t, _, _ => by simp [rI, aGU]
  | i, x :: r, 0, h, hd => by
    simp only [lW, Bool.and_eq_true] at h
    rw [Nat.add_zero] at hd
    have := h.1; rw [hd] at this; simpa using this
  | i, x :: r, t + 1, h, hd => by
    simp only [lW, Bool.and_eq_true] at h
    have := aDY ds (i + 1) r t h.2 (by rw [show i + 1 + t = i + (t + 1) by omega]; exact hd)
    simpa using this
theorem aGg (bs : gI true) (b : Nat) : bA (m := true) (bs.map fun _ => none) b = none := by
  unfold bA
  rw [List.getD_eq_getElem?_getD, List.getElem?_map]
  cases bs[b]? <;> rfl
section
variable {fn : Func} {W : World} {N N' : Env} {s : St true} {a : Act} {w : World} {F F' : Fr} {Ow : Own} {bm : Nat → Nat}
theorem kM.turn (h : kM P fn W N s a w F Ow bm) (φ : Fl true → Fl true) (σ : Fl true → Bool) (ds : List Nat) (p : Fl true → Bool) (hsl : lW p s.boxes ds 0 s.tmps = true) (hok : aQ4 p φ σ w F N F' N') (hbx : aRy s.boxes bm F N F' N') (hn : N'.n ≤ w.heap.size) (hF : ∀ g, w.heap.size ≤ g → F' g = 0) (hKK : N'.K = N.K) (hle : ∀ g, F g ≤ F' g) (hKZ : ∀ k ∈ N.K, N'.Z k.1.1 = false)
    (hz : ∀ g, N'.Z g = true → W.heap.size ≤ g ∧ lQ w g) (hBB : N'.B = [] := by rfl) : kM P fn W N' (turn φ σ ds s) a w F' (fun _ => none) (fun _ => w.heap.size) := by
  refine ⟨⟨by show (tuT φ σ s.boxes ds 0 s.tmps).length = _; rw [aBM]; exact h.inv.len, fun t => ?_, fun b cs hb => ?_, ⟨hn, fun k hk => by
    rw [hKK] at hk
    obtain ⟨h1, h2, h3⟩ := h.inv.low.know k hk
    exact ⟨Nat.lt_of_lt_of_le h1 (hle _), hKZ k hk, h3⟩, fun k hk => by rw [hBB] at hk; cases hk⟩, fun g hg => ⟨hF g hg, rfl⟩, fun b cs hb => ?_, fun g hg => ⟨rfl, (hz g hg).2⟩⟩, by show (s.boxes.map _).length = _; rw [List.length_map]; exact h.len, h.defers, h.bel, fun _ _ => rfl, fun g hg => ?_⟩
  · show aW P w F' N' _ _ _ _ ((tuT φ σ s.boxes ds 0 s.tmps).getD t .any) _
    rcases aNH (φ := φ) (σ := σ) ds 0 s.tmps t with h1 | ⟨h0, h1⟩
    · rw [h1]; exact aW.any
    · rw [h1]
      exact aP9 h hok hbx (aDY ds 0 s.tmps t hsl h0) (h.inv.slot t)
  · rw [show (Vs.turn φ σ ds s).boxes = s.boxes.map fun _ => none from rfl, aGg] at hb; simp at hb
  · rw [show (Vs.turn φ σ ds s).boxes = s.boxes.map fun _ => none from rfl, aGg] at hb; simp at hb
  · cases hZ : N'.Z g with
    | false => rfl
    | true => have := (hz g hZ).1; omega
def aNW (s : St true) (t z n k : Nat) : St true := { tmps := s.tmps.set t (.bsl t z 0 n), boxes := s.boxes.set t (some (List.replicate k .any)) }
theorem kM.row (h : kM P fn W N s a w F Ow bm) (φ : Fl true → Fl true) (ds : List Nat) (p : Fl true → Bool) {t : Nat} (ht : t < s.tmps.length) (ht2 : t < fn.ntmps) {c : Fl true} {es : List (List (aA true))} {z : Nat}
    (hslot : s.tmps.getD t .any = .leaf (.sl c es)) (hpos : 0 < es.length) (hez : ∀ e ∈ es, e.length = z) (hsl : lW p s.boxes ds 0 s.tmps = true)
    (hc : ∀ g o, g < w.heap.size → c.Holds N w g o → o = 0 ∧ lQ w g ∧ N'.n ≤ g ∧ W.heap.size ≤ g ∧ ∀ c' o', p c' = true → ¬ c'.Holds N w g o')
    (hp : ∀ c g o, p c = true → c.Holds N w g o → (φ c).Holds N' w g o ∧ (φ c).isSoft = false)
    (hbx : ∀ g, g < w.heap.size → 0 < F g → c.Holds N w g 0 → aRy s.boxes bm F N (fun x => if x = g then 0 else aB3 F w x) N') (hZ : ∀ g, N'.Z g = false) (hn : N'.n ≤ w.heap.size) (hKK : N'.K = N.K) (hKw : ∀ k ∈ N.K, k.1.1 < W.heap.size) (hBB : N'.B = [] := by rfl) :
    ∃ k F' Ow' bm', es.length * z ≤ k ∧ kM P fn W N' (aNW (Vs.turn φ (fun _ => false) ds s) t z es.length k) a w F' Ow' bm' := by
  have hs := h.inv.slot t
  rw [hslot] at hs
  obtain ⟨A, cap, z', vals, hv, hcap, hz', hvl, hcell, hr⟩ := aEA (show dT w F N (.sl c es) (a.tmps.getD t undef) by simpa [aW, dC] using hs)
  obtain ⟨g, o, rfl, ⟨hv0, hH⟩, hle, hso, hcl⟩ := hcell hpos
  have hzz : z' = z := by
    obtain ⟨e, he⟩ : ∃ e, e ∈ es := by cases es with | nil => simp at hpos | cons e r => exact ⟨e, by simp⟩
    rw [← hz' e he, hez e he]
  subst hzz
  have hg := aM7 (hcl 0 _ (List.getElem?_eq_getElem hv0))
  obtain ⟨rfl, ⟨cur, et, hcur⟩, hn1, hn2, hne⟩ := hc g o hg hH
  have hk : es.length * z' ≤ cur.size := by
    rw [← hvl]
    have := hcl (vals.length - 1) _ (List.getElem?_eq_getElem (by omega))
    simp only [World.cell?, hcur] at this
    have := (Array.getElem?_eq_some_iff.1 (by simpa using this)).1
    omega
  have hok : aQ4 p φ (fun _ => false) w F N (fun x => if x = g then 0 else aB3 F w x) N' := by
    intro c' g' o' hp' hg' _ hH'
    have hgg : g' ≠ g := fun e => (hne c' o' hp') (e ▸ hH')
    obtain ⟨h1, h2⟩ := hp c' g' o' hp' hH'
    exact ⟨by simp [hgg, pN], .inr ⟨rfl, h1, h2, hZ g'⟩⟩
  have hb : ∀ b cs, bA (aNW (Vs.turn φ (fun _ => false) ds s) t z' es.length cur.size).boxes b = some cs → b = t ∧ cs = List.replicate cur.size .any := by
    intro b cs hb
    have hb' : bA ((s.boxes.map fun _ => none).set t (some (List.replicate cur.size SV.any))) b = some cs := hb
    by_cases hbt : b = t
    · subst hbt
      rw [eE (by rw [List.length_map, h.len]; exact ht2)] at hb'
      exact ⟨rfl, (Option.some.inj hb').symm⟩
    · rw [iE hbt, aGg] at hb'; simp at hb'
  have hal : (bA (aNW (Vs.turn φ (fun _ => false) ds s) t z' es.length cur.size).boxes t).isSome = true := by
    show (bA ((s.boxes.map fun _ => none).set t (some (List.replicate cur.size SV.any))) t).isSome = true
    rw [eE (by rw [List.length_map, h.len]; exact ht2)]; rfl
  refine ⟨cur.size, fun x => if x = g then 0 else aB3 F w x, fun x => if x = g then some (.blk t) else none, fun _ => g, hk, ⟨⟨?_, fun u => ?_, fun b cs hbc => ?_, ⟨hn, fun k hk => by
    rw [hKK] at hk
    obtain ⟨h1, h2, h3⟩ := h.inv.low.know k hk
    have hne : k.1.1 ≠ g := fun e => by have := hKw k hk; omega
    exact ⟨by simp only [if_neg hne]; exact Nat.lt_of_lt_of_le h1 (pN F w _), hZ _, h3⟩, fun k hk => by rw [hBB] at hk; cases hk⟩, fun x hx => ?_, fun b cs hbc => hn1, fun x hx => by rw [hZ] at hx; simp at hx⟩, ?_, h.defers, h.bel, fun x hx => ?_, fun x hx => hZ x⟩⟩
  · show ((tuT φ (fun _ => false) s.boxes ds 0 s.tmps).set t _).length = _
    rw [List.length_set, aBM]; exact h.inv.len
  · show aW P w _ N' _ _ _ _ (((tuT φ (fun _ => false) s.boxes ds 0 s.tmps).set t (.bsl t z' 0 es.length)).getD u .any) _
    by_cases hut : u = t
    · subst hut
      rw [List.getD_eq_getElem?_getD, List.getElem?_set_self (by rw [aBM]; exact ht), Option.getD_some, hv]
      simp only [aW, dC]
      exact ⟨.inr ⟨cap, by simp, hcap⟩, hal⟩
    · rw [List.getD_eq_getElem?_getD, List.getElem?_set_ne (fun e => hut e.symm), ← List.getD_eq_getElem?_getD]
      rcases aNH (φ := φ) (σ := fun _ => false) ds 0 s.tmps u with h1 | ⟨h0, h1⟩
      · rw [h1]; exact aW.any
      · rw [h1]
        exact aP9 h hok (hbx g hg (by omega) hH) (aDY ds 0 s.tmps u hsl h0) (h.inv.slot u)
  · obtain ⟨rfl, rfl⟩ := hb b cs hbc
    refine .inr ⟨cur, et, hcur, by rw [List.length_replicate]; exact Nat.le_refl _, by simp, by simp, fun j c u h1 _ => ?_⟩
    have : c = .any := by
      rw [List.getElem?_replicate] at h1
      split at h1 <;> simp at h1
      exact h1.symm
    subst this
    exact aW.any
  · have hx' : x ≠ g := fun e => by subst e; omega
    simp [hx', aEv (h.inv.new x hx).1 hx]
  · show ((s.boxes.map _).set t _).length = _
    rw [List.length_set, List.length_map]; exact h.len
  · have : x ≠ g := fun e => by subst e; omega
    simp [this]
end
end Go.Vs
end
section
set_option linter.unusedVariables false
namespace Go.Vs
variable {m : Bool} {P : Program} {f : FuncId} {fn : Func} {c0 : Code}
theorem aS1 (hfn : P.funcs[f]? = some fn) (hc0 : fn.body = some c0) {args : List (SV m)} {W : World} {vals : Array Value} {K : zS} (hl : args.length = vals.size) (hh : args.all SV.handed = true)
    (hr : ∀ j a v, args[j]? = some a → vals[j]? = some v → aW P W (tN W) (N0 W K) (fun _ => none) (fun _ => W.heap.size) (fun _ => false) (.tmp j) a v)
    (next : ∀ a : Act, kM P fn W (N0 W K) (aAs fn args []) a W (tN W) (fun _ => none) (fun _ => W.heap.size) → (sub c0 (way 0)).wp P (bodyPost P fn (aID W)) a W) (hK : KOk W K := by exact KOk.nil) : Calls P f vals W (aID W) := by
  refine calls_of_wp hfn hc0 ?_
  have hinv : Inv P { tmps := args, boxes := ([] : List (List (SV m))).map some } vals W (tN W) (N0 W K) (fun _ => none) (fun _ => W.heap.size) := by
    refine ⟨hl, fun t => ?_, fun b cs hb => ?_, hK.low, fun g hg => ⟨?_, rfl⟩, fun b cs hb => ?_, fun g hg => ?_⟩
    · by_cases ht : t < args.length
      · have := hr t _ _ (List.getElem?_eq_getElem ht) (Array.getElem?_eq_getElem (by omega))
        simp only [List.getD, List.getElem?_eq_getElem ht, Option.getD_some, Array.getD, show t < vals.size by omega, dif_pos]
        exact this.keeps (eC.refl _ _) (fun b hb => by simp at hb) (fun g hg => by simp at hg)
      · simp only [List.getD, List.getElem?_eq_none (Nat.not_lt.1 ht), Option.getD_none]
        exact aW.any
    · simp [bA] at hb
    · unfold tN
      rw [Array.getElem?_eq_none hg]
    · simp [bA] at hb
    · simp [N0] at hg
  have h1 := hinv.frame fn hh (by simp)
  have := next { tmps := vals ++ Array.replicate (fn.ntmps - vals.size) undef, defers := [] } ⟨by simpa using h1, by simp [aAs], rfl, Go.RowKit.Below.refl _ _, fun _ _ => rfl, fun _ _ => rfl⟩
  rw [show way 0 = [] from rfl, aNs] at this
  exact this
def N1 (A : Nat) (K : zS := []) : Env := { K := K, n := A, Z := fun _ => false, lt := fun g h => by simp at h, T := fun k g => (k == 0 || k == 3) && decide (g < A) }
def N2 (A B : Nat) (F2 : Fr) (K : zS := []) : Env := { K := K, n := B, Z := fun _ => false, lt := fun g h => by simp at h, T := fun k g => (k == 0 && decide (g < A)) || (k == 1 && decide (A ≤ g ∧ g < B ∧ 0 < F2 g)) || (k == 3 && decide (g < B ∧ ¬ (A ≤ g ∧ 0 < F2 g))) }
open Classical in
noncomputable def N3 (w : World) (A B : Nat) (F2 F3 : Fr) (hB : B ≤ w.heap.size) (K : zS := []) : Env := { K := K, n := w.heap.size, Z := fun g => decide (A ≤ g ∧ g < B ∧ 0 < F2 g ∧ lQ w g), lt := fun g h => by have := of_decide_eq_true h; omega, T := fun k g => (k == 0 && decide (g < A)) || (k == 2 && decide (B ≤ g ∧ 0 < F3 g)) || (k == 3 && decide (g < w.heap.size ∧ ¬ (B ≤ g ∧ 0 < F3 g) ∧ ¬ (A ≤ g ∧ g < B ∧ 0 < F2 g))) }
def N4 (A B : Nat) (R : Nat → Bool) (K : zS := []) : Env := { K := K, n := B, Z := fun _ => false, lt := fun g h => by simp at h, T := fun k g => (k == 0 && decide (g < A)) || (k == 3 && R g) }
abbrev tA : Fl true := pG.tag 0 false
abbrev tX : Fl true := pG.tag 1 true
abbrev tG : Fl true := pG.tag 2 true
def φ1 : Fl true → Fl true := fun _ => tA
def φ2 : Fl true → Fl true := fun c => match c with | pG.new => tX | _ => tA
def φ3 : Fl true → Fl true := fun c => match c with | pG.new => tG | _ => tA
def σ3 : Fl true → Bool := fun c => match c with | pG.tag 1 _ => true | _ => false
def φ4 : Fl true → Fl true := fun _ => tA
def p4 : Fl true → Bool := fun c => match c with | pG.tag 0 _ => true | _ => false
def p2 : Fl true → Bool := fun c => match c with | pG.new => true | pG.tag 0 _ => true | _ => false
def p3 : Fl true → Bool := fun c => match c with | pG.new => true | pG.tag 0 _ => true | pG.tag 1 f => f | _ => false
theorem aH0 (bs : gI true) (ds : List Nat) : ∀ (i : Nat) (l : List (SV true)), lW (fun _ => true) bs ds i l = true
  | _, [] => rfl
  | i, x :: r => by
    rw [lW, aH0 bs ds (i + 1) r]
    cases x <;> simp only [rI, aGU, aMS, aIh, aIB, Bool.or_true, Bool.and_true]
    · split <;> simp
section
variable {W w : World} {N : Env} {s : St true} {a : Act} {F : Fr} {Ow : Own} {bm : Nat → Nat}
theorem kM.box_lt (h : kM P fn W N s a w F Ow bm) {b : Nat} {cs : List (SV true)} (hb : bA s.boxes b = some cs) (hne : cs ≠ []) : bm b < w.heap.size ∧ F (bm b) = 0 ∧ N.n ≤ bm b ∧ cs.length ≤ aB3 F w (bm b) := by
  obtain ⟨cur, et, h1, h2, h3, _⟩ := (h.inv.box b cs hb).resolve_left hne
  exact ⟨(Array.getElem?_eq_some_iff.1 h1).1, h3, h.inv.bmn b cs hb, Nat.le_trans h2 (aQu h1)⟩
theorem aTI {K : zS} (h : kM P fn W N s a w F Ow bm) (hN : ∀ g, N.T 3 g = false) (ds : List Nat) (hNK : N.K = K := by rfl) : kM P fn W (N1 w.heap.size K) (Vs.turn φ1 (fun _ => false) ds s) a w (aB3 F w) (fun _ => none) (fun _ => w.heap.size) :=
  h.turn φ1 (fun _ => false) ds (fun _ => true) (aH0 _ _ _ _) (fun c g o _ hg _ _ => ⟨pN F w g, .inr ⟨rfl, ⟨by simp [N1, hg], fun h => by cases h⟩, rfl, rfl⟩⟩)
    ⟨fun b cs hb hne => ⟨(h.box_lt hb hne).2.2.2, by simp [N1, (h.box_lt hb hne).1], rfl⟩, fun g hg => by rw [hN] at hg; cases hg⟩
    (Nat.le_refl _) (fun g hg => aEv (h.inv.new g hg).1 hg) hNK.symm (pN F w) (fun _ _ => rfl) (fun g hg => by simp [N1] at hg)
theorem aTL {K : zS} {A : Nat} (h : kM P fn W (N1 A K) s a w F Ow bm) (ds : List Nat) (hsl : lW p2 s.boxes ds 0 s.tmps = true) : kM P fn W (N2 A w.heap.size F K) (Vs.turn φ2 (fun _ => false) ds s) a w (aB3 F w) (fun _ => none) (fun _ => w.heap.size) :=
  h.turn φ2 (fun _ => false) ds p2 hsl (fun c g o hc hg hF hH => by
    refine ⟨pN F w g, .inr ⟨rfl, ?_, ?_, rfl⟩⟩
    · cases c with
      | new => obtain ⟨h1, h2, h3⟩ := hH; exact ⟨by simp only [N2]; simp [hg, hF]; exact h1, fun _ => ⟨h2, h3⟩⟩
      | tag k f =>
        rcases k with _ | k
        · exact ⟨by have := hH.1; simp only [N1, N2] at this ⊢; simp at this ⊢; exact this, fun h => by cases h⟩
        · cases (show false = true from hc)
      | _ => cases (show false = true from hc)
    · cases c <;> rfl)
    ⟨fun b cs hb hne => ⟨(h.box_lt hb hne).2.2.2, by simp [N2, h.box_lt hb hne], rfl⟩, fun g hg => by
      have h0 : A ≤ w.heap.size := h.inv.low.le
      simp [N1] at hg
      exact ⟨pN F w g, by simp only [N2]; simp; omega, rfl⟩⟩
    (Nat.le_refl _) (fun g hg => aEv (h.inv.new g hg).1 hg) rfl (pN F w) (fun _ _ => rfl) (fun g hg => by simp [N2] at hg)
open Classical in
theorem aTD {K : zS} {A B : Nat} {F2 : Fr} (h : kM P fn W (N2 A B F2 K) s a w F Ow bm) (hA : W.heap.size ≤ A) (hB : B ≤ w.heap.size) (hAB : A ≤ B) (ds : List Nat) (hsl : lW p3 s.boxes ds 0 s.tmps = true) (hK : ∀ k ∈ K, k.1.1 < W.heap.size := by intro _ h; cases h) : kM P fn W (N3 w A B F2 F hB K) (Vs.turn φ3 σ3 ds s) a w (aB3 F w) (fun _ => none) (fun _ => w.heap.size) :=
  h.turn φ3 σ3 ds p3 hsl (fun c g o hc hg hF hH => by
    refine ⟨pN F w g, ?_⟩
    cases c with
    | new =>
      obtain ⟨h1, h2, h3⟩ := hH
      have h1' : B ≤ g := h1
      exact .inr ⟨rfl, ⟨by simp only [N3]; simp [h1', hF], fun _ => ⟨h2, h3⟩⟩, rfl, by simp only [N3]; exact decide_eq_false (fun h => by omega)⟩
    | tag k f =>
      rcases k with _ | _ | k
      · have h0 := hH.1
        simp only [N2] at h0
        simp at h0
        exact .inr ⟨rfl, ⟨by simp only [N3]; simp [h0], fun h => by cases h⟩, rfl, by simp only [N3]; exact decide_eq_false (fun h => by omega)⟩
      · have h0 := hH.1
        simp only [N2] at h0
        simp at h0
        cases f with
        | true => exact .inl ⟨rfl, by simp only [N3]; exact decide_eq_true ⟨h0.1, h0.2.1, h0.2.2, (hH.2 rfl).2⟩⟩
        | false => cases (show false = true from hc)
      · cases (show false = true from hc)
    | _ => cases (show false = true from hc))
    ⟨fun b cs hb hne => by
      obtain ⟨b1, b2, b3, b4⟩ := h.box_lt hb hne
      have b3' : B ≤ bm b := b3
      exact ⟨b4, by simp only [N3]; simp; omega, by simp only [N3]; exact decide_eq_false (fun h => by omega)⟩, fun g hg => by
      simp [N2] at hg
      exact ⟨pN F w g, by simp only [N3]; simp; omega, by simp only [N3]; exact decide_eq_false (fun h => by omega)⟩⟩
    (Nat.le_refl _) (fun g hg => aEv (h.inv.new g hg).1 hg) rfl (pN F w) (fun k hk => by have := hK k hk; simp only [N3]; exact decide_eq_false (fun h => by omega)) (fun g hg => by
      simp only [N3] at hg
      have := of_decide_eq_true hg
      exact ⟨by omega, this.2.2.2⟩)
open Classical in
theorem aTJ {K : zS} {A B : Nat} {w0 : World} {F2 F3 : Fr} {hB0 : B ≤ w0.heap.size} (h : kM P fn W (N3 w0 A B F2 F3 hB0 K) s a w F Ow bm) (hA : W.heap.size ≤ A) (hB : B ≤ w.heap.size) (hAB : A ≤ B) (ds : List Nat) {t : Nat} (ht : t < s.tmps.length) (ht2 : t < fn.ntmps) {es : List (List (aA true))} {z : Nat}
    (hslot : s.tmps.getD t .any = .leaf (.sl tG es)) (hpos : 0 < es.length) (hez : ∀ e ∈ es, e.length = z) (hsl : lW p4 s.boxes ds 0 s.tmps = true) (hK : ∀ k ∈ K, k.1.1 < W.heap.size := by intro _ h; cases h) :
    ∃ k F' Ow' bm' R, es.length * z ≤ k ∧ kM P fn W (N4 A B R K) (aNW (Vs.turn φ4 (fun _ => false) ds s) t z es.length k) a w F' Ow' bm' := by
  obtain ⟨k, F', Ow', bm', h1, h2⟩ := h.row (N' := N4 A B (fun g => (N3 w0 A B F2 F3 hB0 K).T 3 g || decide (w0.heap.size ≤ g)) K) φ4 ds p4 ht ht2 hslot hpos hez hsl (fun g o hg hH => by
    have h0 := hH.1
    simp only [N3] at h0
    simp at h0
    refine ⟨(hH.2 rfl).1, (hH.2 rfl).2, h0.1, by omega, fun c' o' hc' hH' => ?_⟩
    cases c' with
    | tag k f =>
      rcases k with _ | k
      · have h1 := hH'.1
        simp only [N3] at h1
        simp at h1
        omega
      · cases (show false = true from hc')
    | _ => cases (show false = true from hc')) (fun c g o hc hH => by
    refine ⟨?_, rfl⟩
    cases c with
    | tag k f =>
      rcases k with _ | k
      · have h1 := hH.1
        simp only [N3] at h1
        simp at h1
        exact ⟨by simp only [N4]; simp [h1], fun h => by cases h⟩
      · cases (show false = true from hc)
    | _ => cases (show false = true from hc)) (fun g hg hF hH => by
    have h0 := hH.1
    simp only [N3] at h0
    simp at h0
    refine ⟨fun b cs hb hne0 => ?_, fun x hx => ?_⟩
    · obtain ⟨b1, b2, b3, b4⟩ := h.box_lt hb hne0
      have b3' : w0.heap.size ≤ bm b := b3
      have hne : bm b ≠ g := fun e => by rw [e] at b2; omega
      exact ⟨by simpa [hne] using b4, by simp only [N4]; simp [b3'], rfl⟩
    · have hx' := hx
      simp only [N3] at hx'
      simp at hx'
      have hne : x ≠ g := fun e => by subst e; omega
      exact ⟨by simp [hne, pN], by simp only [N4]; simp [hx], rfl⟩) (fun _ => rfl) hB rfl hK
  exact ⟨k, F', Ow', bm', _, h1, h2⟩
end
end Go.Vs
end
section
namespace Go.Vs
variable {m : Bool} {β : Type}
abbrev El := List (aA false)
def slAt (e : El) (p : Nat) : List El := match e[p]? with | some (.sl _ es) => es | _ => []
def intAt (e : El) (p : Nat) : Int := match e[p]? with | some (.int _ n) => n | _ => 0
def wV (e : El) (p : Nat) : Bool := match e[p]? with | some (.bool b) => b | _ => false
def bC (e : El) (p : Nat) : ByteArray := match e[p]? with | some (.str s) => s | _ => ⟨#[]⟩
theorem bT (b : Bool) : (b == true) = b := by cases b <;> rfl
theorem bF (b : Bool) : (b == false) = !b := by cases b <;> rfl
theorem aBP (b : Bool) (x y : Option β) : aC (!b) x y = aC b y x := by cases b <;> rfl
theorem aJt (b : Bool) (x : Option β) : aC b x x = x := by cases b <;> rfl
def aCc (v : SV m) (k : Bool → Option β) : Option β := aM v fun l => cL l k
def aSt (v : SV m) (k : Int → Option β) : Option β := aM v fun l => dF .i64 l k
def aSA (v : SV m) (k : ByteArray → Option β) : Option β := aM v fun l => bO l k
def vSl (v : SV m) (k : List (List (aA m)) → Option β) : Option β := oK v fun _ es => k es
abbrev Ret (m : Bool) := Option (SV m × List (List (SV m)))
abbrev LE := List El
abbrev LT := List (List (aA true))
abbrev PS := List Nat × St false
abbrev PT := List Nat × St true
def aAN (r : Ret m) (k : Bool → Option β) : Option β := r.bind fun r => aCc r.1 k
def aKN (r : Ret m) (k : Int → Option β) : Option β := r.bind fun r => aSt r.1 k
def aJU (r : Ret m) (k : ByteArray → Option β) : Option β := r.bind fun r => aSA r.1 k
def rSl (r : Ret m) (k : List (List (aA m)) → Option β) : Option β := r.bind fun r => vSl r.1 k
def zN (t : TypeId) (r : Ret m) (k : List (List (aA m)) → Option β) : Option β := r.bind fun r => fR t r.1 k
def aGQ (r : Ret m) (k : Bool → Option β) : Option β := r.bind fun r => lF r.2 (aCc r.1 k)
def aQi (r : Ret m) (k : Int → Option β) : Option β := r.bind fun r => lF r.2 (aSt r.1 k)
def aPy (r : Ret m) (k : ByteArray → Bool → Option β) : Option β := r.bind fun r => tK r.2 fun d r1 => gA d fun d r2 => aSA d fun s => jM r2 (lF r1 (aCc r.1 fun b => k s b))
def aRH (r : Ret m) (k : ByteArray → Int → Option β) : Option β := r.bind fun r => tK r.2 fun d r1 => gA d fun d r2 => aSA d fun s => jM r2 (lF r1 (aSt r.1 fun b => k s b))
def mP (t : TypeId) (r : Ret m) (k : List (List (aA m)) → Option β) : Option β := r.bind fun r => tK r.2 fun d r1 => gA d fun d r2 => fR t d fun es => jM r2 (lF r1 (jZ r.1 fun vs => jM vs (k es)))
def aHP (e : List (aA m)) (p : Nat) (k : Bool → Option β) : Option β := atK e p fun l => cL l k
def aEU (e : List (aA m)) (p : Nat) (k : Int → Option β) : Option β := atK e p fun l => dF .i64 l k
def gP (e : List (aA m)) (p : Nat) (k : ByteArray → Option β) : Option β := atK e p fun l => bO l k
def aSl (e : List (aA m)) (p : Nat) (k : List (List (aA m)) → Option β) : Option β := atK e p fun l => slK l fun _ es => k es
section
variable {b : Bool} {n : Int} {s : ByteArray} {es : List (List (aA m))} {c : Fl m} {bs : List (List (SV m))} {t : TypeId}
theorem aAG (k : Bool → Option β) : aCc (.leaf (.bool b) : SV m) k = k b := rfl
theorem qV (k : Bool → Option β) : aAN (some ((.leaf (.bool b) : SV m), bs)) k = k b := rfl
theorem yD (k : Int → Option β) : aKN (some ((.leaf (.int .i64 n) : SV m), bs)) k = k n := rfl
theorem aHU (k : ByteArray → Option β) : aJU (some ((.leaf (.str s) : SV m), bs)) k = k s := rfl
theorem aTb (k : List (List (aA m)) → Option β) : rSl (some ((.leaf (.sl c es)), bs)) k = k es := rfl
theorem mW (k : List (List (aA m)) → Option β) : zN t (some ((.own (some t) es), bs)) k = k es := by show fR t (.own (some t) es) k = k es; simp
theorem aED (k : Bool → Option β) : aGQ (some ((.leaf (.bool b) : SV m), [])) k = k b := rfl
theorem aOi (k : Int → Option β) : aQi (some ((.leaf (.int .i64 n) : SV m), [])) k = k n := rfl
theorem aMI (k : ByteArray → Bool → Option β) : aPy (some ((.leaf (.bool b) : SV m), [[.leaf (.str s)]])) k = k s b := rfl
theorem aN1 (k : ByteArray → Int → Option β) : aRH (some ((.leaf (.int .i64 n) : SV m), [[.leaf (.str s)]])) k = k s n := rfl
theorem gQ (k : List (List (aA m)) → Option β) : mP t (some (.tup [], [[.own (some t) es]])) k = k es := by show fR t (.own (some t) es) _ = k es; simp
section
variable {r : List (aA m)}
theorem aPU (k : ByteArray → Option β) : gP (.str s :: r) 0 k = k s := rfl
end
theorem aTx {l : aA m} {r : List (aA m)} {p : Nat} : (∀ k : Bool → Option β, aHP (l :: r) (p + 1) k = aHP r p k) ∧ (∀ k : Int → Option β, aEU (l :: r) (p + 1) k = aEU r p k) ∧ (∀ k : ByteArray → Option β, gP (l :: r) (p + 1) k = gP r p k) ∧
    (∀ k : List (List (aA m)) → Option β, aSl (l :: r) (p + 1) k = aSl r p k) := ⟨fun _ => rfl, fun _ => rfl, fun _ => rfl, fun _ => rfl⟩
end
theorem rdR : (∀ (m : Bool) (β : Type) (b : Bool) (k : Bool → Option β), aCc (.leaf (.bool b) : SV m) k = k b) ∧
    (∀ (m : Bool) (β : Type) (n : Int) (k : Int → Option β), aSt (.leaf (.int .i64 n) : SV m) k = k n) ∧
    (∀ (m : Bool) (β : Type) (s : ByteArray) (k : ByteArray → Option β), aSA (.leaf (.str s) : SV m) k = k s) ∧
    (∀ (m : Bool) (β : Type) (c : Fl m) (es : List (List (aA m))) (k : List (List (aA m)) → Option β), vSl (.leaf (.sl c es)) k = k es) ∧
    (∀ (m : Bool) (β : Type) (b : Bool) (bs : List (List (SV m))) (k : Bool → Option β), aAN (some ((.leaf (.bool b) : SV m), bs)) k = k b) ∧
    (∀ (m : Bool) (β : Type) (n : Int) (bs : List (List (SV m))) (k : Int → Option β), aKN (some ((.leaf (.int .i64 n) : SV m), bs)) k = k n) ∧
    (∀ (m : Bool) (β : Type) (s : ByteArray) (bs : List (List (SV m))) (k : ByteArray → Option β), aJU (some ((.leaf (.str s) : SV m), bs)) k = k s) ∧
    (∀ (m : Bool) (β : Type) (c : Fl m) (es : List (List (aA m))) (bs : List (List (SV m))) (k : List (List (aA m)) → Option β), rSl (some ((.leaf (.sl c es)), bs)) k = k es) ∧
    (∀ (m : Bool) (β : Type) (t : TypeId) (es : List (List (aA m))) (bs : List (List (SV m))) (k : List (List (aA m)) → Option β), zN t (some ((.own (some t) es), bs)) k = k es) ∧
    (∀ (m : Bool) (β : Type) (b : Bool) (k : Bool → Option β), aGQ (some ((.leaf (.bool b) : SV m), [])) k = k b) ∧
    (∀ (m : Bool) (β : Type) (n : Int) (k : Int → Option β), aQi (some ((.leaf (.int .i64 n) : SV m), [])) k = k n) ∧
    (∀ (m : Bool) (β : Type) (b : Bool) (s : ByteArray) (k : ByteArray → Bool → Option β), aPy (some ((.leaf (.bool b) : SV m), [[.leaf (.str s)]])) k = k s b) ∧
    (∀ (m : Bool) (β : Type) (n : Int) (s : ByteArray) (k : ByteArray → Int → Option β), aRH (some ((.leaf (.int .i64 n) : SV m), [[.leaf (.str s)]])) k = k s n) ∧
    (∀ (m : Bool) (β : Type) (t : TypeId) (es : List (List (aA m))) (k : List (List (aA m)) → Option β), mP t (some (.tup [], [[.own (some t) es]])) k = k es) ∧
    (∀ (m : Bool) (β : Type) (b : Bool) (r : List (aA m)) (k : Bool → Option β), aHP (.bool b :: r) 0 k = k b) ∧
    (∀ (m : Bool) (β : Type) (n : Int) (r : List (aA m)) (k : Int → Option β), aEU (.int .i64 n :: r) 0 k = k n) ∧
    (∀ (m : Bool) (β : Type) (s : ByteArray) (r : List (aA m)) (k : ByteArray → Option β), gP (.str s :: r) 0 k = k s) ∧
    (∀ (m : Bool) (β : Type) (c : Fl m) (es : List (List (aA m))) (r : List (aA m)) (k : List (List (aA m)) → Option β), aSl (.sl c es :: r) 0 k = k es) ∧
    (∀ (β : Type) (α : Type) (x : α) (f : α → Option β), (some x).bind f = f x) ∧
    (∀ (m : Bool) (β : Type) (vs : List (SV m)) (k : List (SV m) → Option β), jZ (.tup vs) k = k vs) ∧
    (∀ (m : Bool) (β : Type) (v : SV m) (r : List (SV m)) (k : SV m → List (SV m) → Option β), gA (v :: r) k = k v r) ∧
    (∀ (m : Bool) (β : Type) (v : List (SV m)) (r : List (List (SV m))) (k : List (SV m) → List (List (SV m)) → Option β), tK (v :: r) k = k v r) ∧
    (∀ (m : Bool) (β : Type) (k : Option β), jM ([] : List (SV m)) k = k) ∧
    (∀ (m : Bool) (β : Type) (k : Option β), lF ([] : List (List (SV m))) k = k) ∧
    (∀ (m : Bool) (β : Type) (cs : List (aA m)) (k : List (aA m) → Option β), dU (.agg cs) k = k cs) ∧
    (∀ (m : Bool) (β : Type) (e : TypeId) (es : List (List (aA m))) (k : List (List (aA m)) → Option β), fR e (.own (some e) es) k = k es) ∧
    (∀ (β : Type) (x y : Option β), aC true x y = x) ∧
    (∀ (β : Type) (x y : Option β), aC false x y = y) ∧
    (∀ (β : Type) (x : Option β), aB true x = x) :=
  ⟨fun _ _ _ _ => rfl, fun _ _ _ _ => rfl, fun _ _ _ _ => rfl, fun _ _ _ _ _ => rfl, fun _ _ _ _ _ => rfl, fun _ _ _ _ _ => rfl, fun _ _ _ _ _ => rfl, fun _ _ _ _ _ _ => rfl, fun _ _ _ _ _ k => mW k, fun _ _ _ _ => rfl, fun _ _ _ _ => rfl, fun _ _ _ _ _ => rfl, fun _ _ _ _ _ => rfl, fun _ _ _ _ k => gQ k, fun _ _ _ _ _ => rfl, fun _ _ _ _ _ => rfl, fun _ _ _ _ _ => rfl, fun _ _ _ _ _ _ => rfl, fun _ _ _ _ => rfl, fun _ _ _ _ => rfl, fun _ _ _ _ _ => rfl, fun _ _ _ _ _ => rfl, fun _ _ _ => rfl, fun _ _ _ => rfl, fun _ _ _ _ => rfl, fun _ _ => dQ, fun _ _ _ => rfl, fun _ _ _ => rfl, fun _ _ => rfl⟩
theorem inI : (∀ a b : Nat, ((a : Int) < (b : Int)) = (a < b)) ∧ (∀ n : Nat, (0 ≤ (n : Int)) = True) ∧ (∀ n : Nat, ((n : Int)).toNat = n) ∧ decide True = true ∧ (∀ b : Bool, (b && true) = b) ∧ (∀ b : Bool, (true && b) = b) ∧ (∀ (β : Type) (x y : Option β), aC true x y = x) ∧ (∀ (β : Type) (x : Option β), aB true x = x) :=
  ⟨fun _ _ => propext Int.ofNat_lt, fun _ => eq_true (Int.natCast_nonneg _), Int.toNat_natCast, by decide, Bool.and_true, Bool.true_and, fun _ _ _ => rfl, fun _ _ => rfl⟩
end Go.Vs
end
section
namespace Go.Vs
variable {β : Type}
structure oM where
  mk ::
  (a0 a1 : ByteArray)
def oM.l (x : oM) : El := [.str x.a0, .str x.a1]
def oM.b (x : oM) : List (SV false) := [.leaf (.str x.a0), .leaf (.str x.a1)]
def oM.rd (e : El) (k : oM → Option β) : Option β := gP e 0 fun a0 => gP e 1 fun a1 => k ⟨a0, a1⟩
def oM.va (v : SV false) (k : oM → Option β) : Option β := dU v fun e => aB (e.length == 2) (oM.rd e k)
theorem oM.rd_l (x : oM) (k : oM → Option β) : oM.rd x.l k = k x := rfl
theorem oM.va_l (x : oM) (k : oM → Option β) : oM.va (.agg x.l) k = k x := rfl
def oM.of (e : El) : oM := ⟨bC e 0, bC e 1⟩
theorem oM.of_l (x : oM) : oM.of x.l = x := rfl
theorem oM.len (x : oM) : x.l.length = 2 := rfl
structure fX where
  mk ::
  (a0 : Int) (a1 : ByteArray) (a2 a3 : List El)
def fX.l (x : fX) : El := [.int .i64 x.a0, .str x.a1, .sl fP x.a2, .sl fP x.a3]
def fX.b (x : fX) : List (SV false) := [.leaf (.int .i64 x.a0), .leaf (.str x.a1), .leaf (.sl fP x.a2), .leaf (.sl fP x.a3)]
def fX.rd (e : El) (k : fX → Option β) : Option β := aEU e 0 fun a0 => gP e 1 fun a1 => aSl e 2 fun a2 => aSl e 3 fun a3 => k ⟨a0, a1, a2, a3⟩
def fX.va (v : SV false) (k : fX → Option β) : Option β := dU v fun e => aB (e.length == 4) (fX.rd e k)
theorem fX.rd_l (x : fX) (k : fX → Option β) : fX.rd x.l k = k x := rfl
theorem fX.va_l (x : fX) (k : fX → Option β) : fX.va (.agg x.l) k = k x := rfl
def fX.of (e : El) : fX := ⟨intAt e 0, bC e 1, slAt e 2, slAt e 3⟩
theorem fX.of_l (x : fX) : fX.of x.l = x := rfl
theorem fX.len (x : fX) : x.l.length = 4 := rfl
structure fD where
  mk ::
  (a0 : ByteArray) (a1 : Int) (a2 : ByteArray) (a3 a4 : List El)
def fD.l (x : fD) : El := [.str x.a0, .int .i64 x.a1, .str x.a2, .sl fP x.a3, .sl fP x.a4]
def fD.b (x : fD) : List (SV false) := [.leaf (.str x.a0), .leaf (.int .i64 x.a1), .leaf (.str x.a2), .leaf (.sl fP x.a3), .leaf (.sl fP x.a4)]
def fD.rd (e : El) (k : fD → Option β) : Option β := gP e 0 fun a0 => aEU e 1 fun a1 => gP e 2 fun a2 => aSl e 3 fun a3 => aSl e 4 fun a4 => k ⟨a0, a1, a2, a3, a4⟩
def fD.va (v : SV false) (k : fD → Option β) : Option β := dU v fun e => aB (e.length == 5) (fD.rd e k)
theorem fD.rd_l (x : fD) (k : fD → Option β) : fD.rd x.l k = k x := rfl
theorem fD.va_l (x : fD) (k : fD → Option β) : fD.va (.agg x.l) k = k x := rfl
def fD.of (e : El) : fD := ⟨bC e 0, intAt e 1, bC e 2, slAt e 3, slAt e 4⟩
theorem fD.of_l (x : fD) : fD.of x.l = x := rfl
theorem fD.len (x : fD) : x.l.length = 5 := rfl
structure tW where
  mk ::
  (a0 : ByteArray) (a1 : List El)
def tW.l (x : tW) : El := [.str x.a0, .sl fP x.a1]
def tW.b (x : tW) : List (SV false) := [.leaf (.str x.a0), .leaf (.sl fP x.a1)]
def tW.rd (e : El) (k : tW → Option β) : Option β := gP e 0 fun a0 => aSl e 1 fun a1 => k ⟨a0, a1⟩
def tW.va (v : SV false) (k : tW → Option β) : Option β := dU v fun e => aB (e.length == 2) (tW.rd e k)
theorem tW.rd_l (x : tW) (k : tW → Option β) : tW.rd x.l k = k x := rfl
theorem tW.va_l (x : tW) (k : tW → Option β) : tW.va (.agg x.l) k = k x := rfl
def tW.of (e : El) : tW := ⟨bC e 0, slAt e 1⟩
theorem tW.of_l (x : tW) : tW.of x.l = x := rfl
theorem tW.len (x : tW) : x.l.length = 2 := rfl
structure bV where
  mk ::
  (a0 a1 a2 a3 : ByteArray) (a4 : Bool) (a5 : Int) (a6 : ByteArray) (a7 a8 a9 : List El)
def bV.l (x : bV) : El := [.str x.a0, .str x.a1, .str x.a2, .str x.a3, .bool x.a4, .int .i64 x.a5, .str x.a6, .sl fP x.a7, .sl fP x.a8, .sl fP x.a9]
def bV.b (x : bV) : List (SV false) := [.leaf (.str x.a0), .leaf (.str x.a1), .leaf (.str x.a2), .leaf (.str x.a3), .leaf (.bool x.a4), .leaf (.int .i64 x.a5), .leaf (.str x.a6), .leaf (.sl fP x.a7), .leaf (.sl fP x.a8), .leaf (.sl fP x.a9)]
def bV.rd (e : El) (k : bV → Option β) : Option β := gP e 0 fun a0 => gP e 1 fun a1 => gP e 2 fun a2 => gP e 3 fun a3 => aHP e 4 fun a4 => aEU e 5 fun a5 => gP e 6 fun a6 => aSl e 7 fun a7 => aSl e 8 fun a8 => aSl e 9 fun a9 => k ⟨a0, a1, a2, a3, a4, a5, a6, a7, a8, a9⟩
def bV.va (v : SV false) (k : bV → Option β) : Option β := dU v fun e => aB (e.length == 10) (bV.rd e k)
theorem bV.rd_l (x : bV) (k : bV → Option β) : bV.rd x.l k = k x := rfl
theorem bV.va_l (x : bV) (k : bV → Option β) : bV.va (.agg x.l) k = k x := rfl
def bV.of (e : El) : bV := ⟨bC e 0, bC e 1, bC e 2, bC e 3, wV e 4, intAt e 5, bC e 6, slAt e 7, slAt e 8, slAt e 9⟩
theorem bV.of_l (x : bV) : bV.of x.l = x := rfl
theorem bV.len (x : bV) : x.l.length = 10 := rfl
structure cQ where
  mk ::
  (a0 a1 : ByteArray) (a2 : List El) (a3 a4 : ByteArray) (a5 : List El)
def cQ.l (x : cQ) : El := [.str x.a0, .str x.a1, .sl fP x.a2, .str x.a3, .str x.a4, .sl fP x.a5]
def cQ.b (x : cQ) : List (SV false) := [.leaf (.str x.a0), .leaf (.str x.a1), .leaf (.sl fP x.a2), .leaf (.str x.a3), .leaf (.str x.a4), .leaf (.sl fP x.a5)]
def cQ.rd (e : El) (k : cQ → Option β) : Option β := gP e 0 fun a0 => gP e 1 fun a1 => aSl e 2 fun a2 => gP e 3 fun a3 => gP e 4 fun a4 => aSl e 5 fun a5 => k ⟨a0, a1, a2, a3, a4, a5⟩
def cQ.va (v : SV false) (k : cQ → Option β) : Option β := dU v fun e => aB (e.length == 6) (cQ.rd e k)
theorem cQ.rd_l (x : cQ) (k : cQ → Option β) : cQ.rd x.l k = k x := rfl
theorem cQ.va_l (x : cQ) (k : cQ → Option β) : cQ.va (.agg x.l) k = k x := rfl
def cQ.of (e : El) : cQ := ⟨bC e 0, bC e 1, slAt e 2, bC e 3, bC e 4, slAt e 5⟩
theorem cQ.of_l (x : cQ) : cQ.of x.l = x := rfl
theorem cQ.len (x : cQ) : x.l.length = 6 := rfl
structure mO where
  mk ::
  (a0 a1 : ByteArray) (a2 : List El)
def mO.l (x : mO) : El := [.str x.a0, .str x.a1, .sl fP x.a2]
def mO.b (x : mO) : List (SV false) := [.leaf (.str x.a0), .leaf (.str x.a1), .leaf (.sl fP x.a2)]
def mO.rd (e : El) (k : mO → Option β) : Option β := gP e 0 fun a0 => gP e 1 fun a1 => aSl e 2 fun a2 => k ⟨a0, a1, a2⟩
def mO.va (v : SV false) (k : mO → Option β) : Option β := dU v fun e => aB (e.length == 3) (mO.rd e k)
theorem mO.rd_l (x : mO) (k : mO → Option β) : mO.rd x.l k = k x := rfl
theorem mO.va_l (x : mO) (k : mO → Option β) : mO.va (.agg x.l) k = k x := rfl
def mO.of (e : El) : mO := ⟨bC e 0, bC e 1, slAt e 2⟩
theorem mO.of_l (x : mO) : mO.of x.l = x := rfl
theorem mO.len (x : mO) : x.l.length = 3 := rfl
structure sR where
  mk ::
  (a0 : Int) (a1 : ByteArray)
def sR.l (x : sR) : El := [.int .i64 x.a0, .str x.a1]
def sR.b (x : sR) : List (SV false) := [.leaf (.int .i64 x.a0), .leaf (.str x.a1)]
def sR.rd (e : El) (k : sR → Option β) : Option β := aEU e 0 fun a0 => gP e 1 fun a1 => k ⟨a0, a1⟩
def sR.va (v : SV false) (k : sR → Option β) : Option β := dU v fun e => aB (e.length == 2) (sR.rd e k)
theorem sR.rd_l (x : sR) (k : sR → Option β) : sR.rd x.l k = k x := rfl
theorem sR.va_l (x : sR) (k : sR → Option β) : sR.va (.agg x.l) k = k x := rfl
def sR.of (e : El) : sR := ⟨intAt e 0, bC e 1⟩
theorem sR.of_l (x : sR) : sR.of x.l = x := rfl
theorem sR.len (x : sR) : x.l.length = 2 := rfl
structure aE where
  mk ::
  (a0 : Int) (a1 : Bool) (a2 a3 : ByteArray) (a4 a5 a6 a7 a8 : List El) (a9 : Bool) (a10 : List El)
def aE.l (x : aE) : El := [.int .i64 x.a0, .bool x.a1, .str x.a2, .str x.a3, .sl fP x.a4, .sl fP x.a5, .sl fP x.a6, .sl fP x.a7, .sl fP x.a8, .bool x.a9, .sl fP x.a10]
def aE.b (x : aE) : List (SV false) := [.leaf (.int .i64 x.a0), .leaf (.bool x.a1), .leaf (.str x.a2), .leaf (.str x.a3), .leaf (.sl fP x.a4), .leaf (.sl fP x.a5), .leaf (.sl fP x.a6), .leaf (.sl fP x.a7), .leaf (.sl fP x.a8), .leaf (.bool x.a9), .leaf (.sl fP x.a10)]
def aE.rd (e : El) (k : aE → Option β) : Option β := aEU e 0 fun a0 => aHP e 1 fun a1 => gP e 2 fun a2 => gP e 3 fun a3 => aSl e 4 fun a4 => aSl e 5 fun a5 => aSl e 6 fun a6 => aSl e 7 fun a7 => aSl e 8 fun a8 => aHP e 9 fun a9 => aSl e 10 fun a10 => k ⟨a0, a1, a2, a3, a4, a5, a6, a7, a8, a9, a10⟩
def aE.va (v : SV false) (k : aE → Option β) : Option β := dU v fun e => aB (e.length == 11) (aE.rd e k)
theorem aE.rd_l (x : aE) (k : aE → Option β) : aE.rd x.l k = k x := rfl
theorem aE.va_l (x : aE) (k : aE → Option β) : aE.va (.agg x.l) k = k x := rfl
def aE.of (e : El) : aE := ⟨intAt e 0, wV e 1, bC e 2, bC e 3, slAt e 4, slAt e 5, slAt e 6, slAt e 7, slAt e 8, wV e 9, slAt e 10⟩
theorem aE.of_l (x : aE) : aE.of x.l = x := rfl
theorem aE.len (x : aE) : x.l.length = 11 := rfl
structure cT where
  mk ::
  (a0 a1 a2 : List El)
def cT.l (x : cT) : El := [.sl fP x.a0, .sl fP x.a1, .sl fP x.a2]
def cT.b (x : cT) : List (SV false) := [.leaf (.sl fP x.a0), .leaf (.sl fP x.a1), .leaf (.sl fP x.a2)]
def cT.rd (e : El) (k : cT → Option β) : Option β := aSl e 0 fun a0 => aSl e 1 fun a1 => aSl e 2 fun a2 => k ⟨a0, a1, a2⟩
def cT.va (v : SV false) (k : cT → Option β) : Option β := dU v fun e => aB (e.length == 3) (cT.rd e k)
theorem cT.rd_l (x : cT) (k : cT → Option β) : cT.rd x.l k = k x := rfl
theorem cT.va_l (x : cT) (k : cT → Option β) : cT.va (.agg x.l) k = k x := rfl
def cT.of (e : El) : cT := ⟨slAt e 0, slAt e 1, slAt e 2⟩
theorem cT.of_l (x : cT) : cT.of x.l = x := rfl
theorem cT.len (x : cT) : x.l.length = 3 := rfl
structure nE where
  mk ::
  (a0 : Int) (a1 a2 : ByteArray)
def nE.l (x : nE) : El := [.int .i64 x.a0, .str x.a1, .str x.a2]
def nE.b (x : nE) : List (SV false) := [.leaf (.int .i64 x.a0), .leaf (.str x.a1), .leaf (.str x.a2)]
def nE.rd (e : El) (k : nE → Option β) : Option β := aEU e 0 fun a0 => gP e 1 fun a1 => gP e 2 fun a2 => k ⟨a0, a1, a2⟩
def nE.va (v : SV false) (k : nE → Option β) : Option β := dU v fun e => aB (e.length == 3) (nE.rd e k)
theorem nE.rd_l (x : nE) (k : nE → Option β) : nE.rd x.l k = k x := rfl
theorem nE.va_l (x : nE) (k : nE → Option β) : nE.va (.agg x.l) k = k x := rfl
def nE.of (e : El) : nE := ⟨intAt e 0, bC e 1, bC e 2⟩
theorem nE.of_l (x : nE) : nE.of x.l = x := rfl
theorem nE.len (x : nE) : x.l.length = 3 := rfl
theorem atP : (∀ (β : Type) (x : oM), (∀ k : ByteArray → Option β, gP x.l 0 k = k x.a0) ∧ (∀ k : ByteArray → Option β, gP x.l 1 k = k x.a1)) ∧ (∀ (β : Type) (x : fX), (∀ k : Int → Option β, aEU x.l 0 k = k x.a0) ∧ (∀ k : ByteArray → Option β, gP x.l 1 k = k x.a1) ∧ (∀ k : List El → Option β, aSl x.l 2 k = k x.a2) ∧ (∀ k : List El → Option β, aSl x.l 3 k = k x.a3)) ∧ (∀ (β : Type) (x : fD), (∀ k : ByteArray → Option β, gP x.l 0 k = k x.a0) ∧ (∀ k : Int → Option β, aEU x.l 1 k = k x.a1) ∧ (∀ k : ByteArray → Option β, gP x.l 2 k = k x.a2) ∧ (∀ k : List El → Option β, aSl x.l 3 k = k x.a3) ∧ (∀ k : List El → Option β, aSl x.l 4 k = k x.a4)) ∧ (∀ (β : Type) (x : tW), (∀ k : ByteArray → Option β, gP x.l 0 k = k x.a0) ∧ (∀ k : List El → Option β, aSl x.l 1 k = k x.a1)) ∧ (∀ (β : Type) (x : bV), (∀ k : ByteArray → Option β, gP x.l 0 k = k x.a0) ∧ (∀ k : ByteArray → Option β, gP x.l 1 k = k x.a1) ∧ (∀ k : ByteArray → Option β, gP x.l 2 k = k x.a2) ∧ (∀ k : ByteArray → Option β, gP x.l 3 k = k x.a3) ∧ (∀ k : Bool → Option β, aHP x.l 4 k = k x.a4) ∧ (∀ k : Int → Option β, aEU x.l 5 k = k x.a5) ∧ (∀ k : ByteArray → Option β, gP x.l 6 k = k x.a6) ∧ (∀ k : List El → Option β, aSl x.l 7 k = k x.a7) ∧ (∀ k : List El → Option β, aSl x.l 8 k = k x.a8) ∧ (∀ k : List El → Option β, aSl x.l 9 k = k x.a9)) ∧ (∀ (β : Type) (x : cQ), (∀ k : ByteArray → Option β, gP x.l 0 k = k x.a0) ∧ (∀ k : ByteArray → Option β, gP x.l 1 k = k x.a1) ∧ (∀ k : List El → Option β, aSl x.l 2 k = k x.a2) ∧ (∀ k : ByteArray → Option β, gP x.l 3 k = k x.a3) ∧ (∀ k : ByteArray → Option β, gP x.l 4 k = k x.a4) ∧ (∀ k : List El → Option β, aSl x.l 5 k = k x.a5)) ∧ (∀ (β : Type) (x : mO), (∀ k : ByteArray → Option β, gP x.l 0 k = k x.a0) ∧ (∀ k : ByteArray → Option β, gP x.l 1 k = k x.a1) ∧ (∀ k : List El → Option β, aSl x.l 2 k = k x.a2)) ∧ (∀ (β : Type) (x : sR), (∀ k : Int → Option β, aEU x.l 0 k = k x.a0) ∧ (∀ k : ByteArray → Option β, gP x.l 1 k = k x.a1)) ∧ (∀ (β : Type) (x : aE), (∀ k : Int → Option β, aEU x.l 0 k = k x.a0) ∧ (∀ k : Bool → Option β, aHP x.l 1 k = k x.a1) ∧ (∀ k : ByteArray → Option β, gP x.l 2 k = k x.a2) ∧ (∀ k : ByteArray → Option β, gP x.l 3 k = k x.a3) ∧ (∀ k : List El → Option β, aSl x.l 4 k = k x.a4) ∧ (∀ k : List El → Option β, aSl x.l 5 k = k x.a5) ∧ (∀ k : List El → Option β, aSl x.l 6 k = k x.a6) ∧ (∀ k : List El → Option β, aSl x.l 7 k = k x.a7) ∧ (∀ k : List El → Option β, aSl x.l 8 k = k x.a8) ∧ (∀ k : Bool → Option β, aHP x.l 9 k = k x.a9) ∧ (∀ k : List El → Option β, aSl x.l 10 k = k x.a10)) ∧ (∀ (β : Type) (x : cT), (∀ k : List El → Option β, aSl x.l 0 k = k x.a0) ∧ (∀ k : List El → Option β, aSl x.l 1 k = k x.a1) ∧ (∀ k : List El → Option β, aSl x.l 2 k = k x.a2)) ∧ (∀ (β : Type) (x : nE), (∀ k : Int → Option β, aEU x.l 0 k = k x.a0) ∧ (∀ k : ByteArray → Option β, gP x.l 1 k = k x.a1) ∧ (∀ k : ByteArray → Option β, gP x.l 2 k = k x.a2)) := ⟨fun _ _ => ⟨fun _ => rfl, fun _ => rfl⟩, fun _ _ => ⟨fun _ => rfl, fun _ => rfl, fun _ => rfl, fun _ => rfl⟩, fun _ _ => ⟨fun _ => rfl, fun _ => rfl, fun _ => rfl, fun _ => rfl, fun _ => rfl⟩, fun _ _ => ⟨fun _ => rfl, fun _ => rfl⟩, fun _ _ => ⟨fun _ => rfl, fun _ => rfl, fun _ => rfl, fun _ => rfl, fun _ => rfl, fun _ => rfl, fun _ => rfl, fun _ => rfl, fun _ => rfl, fun _ => rfl⟩, fun _ _ => ⟨fun _ => rfl, fun _ => rfl, fun _ => rfl, fun _ => rfl, fun _ => rfl, fun _ => rfl⟩, fun _ _ => ⟨fun _ => rfl, fun _ => rfl, fun _ => rfl⟩, fun _ _ => ⟨fun _ => rfl, fun _ => rfl⟩, fun _ _ => ⟨fun _ => rfl, fun _ => rfl, fun _ => rfl, fun _ => rfl, fun _ => rfl, fun _ => rfl, fun _ => rfl, fun _ => rfl, fun _ => rfl, fun _ => rfl, fun _ => rfl⟩, fun _ _ => ⟨fun _ => rfl, fun _ => rfl, fun _ => rfl⟩, fun _ _ => ⟨fun _ => rfl, fun _ => rfl, fun _ => rfl⟩⟩
end Go.Vs
end
section
set_option linter.unusedVariables false
namespace Go.Vs
theorem bB {i : Nat} (h : i < maxLen) : IntKind.i64.wrap ((i : Int) + 1) = ((i + 1 : Nat) : Int) := by
  have hm : maxLen = 9223372036854775807 := rfl
  rw [nZ (by omega) (by omega)]; rfl
mutual
def szF : aA false → Int → Int
  | .str s, n => if IntKind.i64.wrap (n - (s.size : Int)) < 0 then -1 else IntKind.i64.wrap (n - (s.size : Int))
  | .sl _ es, n => if IntKind.i64.wrap (n - (es.length : Int)) < 0 then -1 else szE es (IntKind.i64.wrap (n - (es.length : Int)))
  | .bool _, n => n
  | .int _ _, n => n
  | .unk, n => n
  | .nl _, n => n
def szL : List (aA false) → Int → Int
  | [], n => n
  | l :: r, n => if szF l n < 0 then -1 else szL r (szF l n)
def szE : List (List (aA false)) → Int → Int
  | [], n => n
  | e :: es, n => if szL e n < 0 then -1 else szE es (szL e n)
end
theorem aK3 : ∀ (a b : List (aA false)) (n : Int), 0 ≤ n → szL (a ++ b) n = if szL a n < 0 then -1 else szL b (szL a n)
  | [], b, n, h => by simp [szL, Int.not_lt.2 h]
  | l :: a, b, n, h => by
    simp only [List.cons_append, szL]
    by_cases h1 : szF l n < 0
    · simp [h1]
    · simp only [h1, if_false]
      exact aK3 a b _ (by omega)
section
variable {r : List (aA false)} {n : Int}
abbrev aJ (n : Int) : SV false := .leaf (.int .i64 n)
abbrev aP (b : Bool) : SV false := .leaf (.bool b)
abbrev vsl (es : List (List (aA false))) : SV false := .leaf (.sl fP es)
abbrev Res := Option (SV false × List (List (SV false)))
theorem tC {s : ByteArray} {Y : Res} (g : 0 ≤ IntKind.i64.wrap (n - (s.size : Int)) → Y = some (aJ (szL r (IntKind.i64.wrap (n - (s.size : Int)))), [])) :
    aC (decide (IntKind.i64.wrap (n - (s.size : Int)) < 0)) (some (SV.leaf (aA.int .i64 (-1)), [])) Y = some (aJ (szL (.str s :: r) n), []) := by
  rw [bZ]
  by_cases h : IntKind.i64.wrap (n - (s.size : Int)) < 0
  · simp [h, szL, szF]
  · simp only [h, decide_false, Bool.false_eq_true, if_false, szL, szF]
    exact g (by omega)
theorem aPd {k : IntKind} {z : Int} {Y : Res} (hn : 0 ≤ n) (g : Y = some (aJ (szL r n), [])) : Y = some (aJ (szL (.int k z :: r) n), []) := by
  rw [g]; simp [szL, szF, Int.not_lt.2 hn]
theorem aNO {b : Bool} {Y : Res} (hn : 0 ≤ n) (g : Y = some (aJ (szL r n), [])) : Y = some (aJ (szL (.bool b :: r) n), []) := by
  rw [g]; simp [szL, szF, Int.not_lt.2 hn]
theorem aKi {d : Res} {a : List (aA false)} {Y : Int → Res} (hd : d = some (aJ (szL a n), [])) (hn : 0 ≤ n) (g : ∀ k, 0 ≤ k → Y k = some (aJ (szL r k), [])) :
    (d.bind fun r => aM r.fst fun l => dF .i64 l fun n => aC (decide (n < 0)) (some (SV.leaf (aA.int .i64 (-1)), [])) (Y n)) = some (aJ (szL (a ++ r) n), []) := by
  rw [hd, aK3 _ _ _ hn]
  simp only [Option.bind_some, aV, cA, bZ]
  by_cases h : szL a n < 0
  · simp [h]
  · simp only [h, decide_false, Bool.false_eq_true, if_false]
    exact g _ (by omega)
theorem kD {d : Res} {es : List (List (aA false))} {Y : Int → Res} (hd : d = some (aJ (szF (.sl fP es) n), [])) (g : ∀ k, 0 ≤ k → Y k = some (aJ (szL r k), [])) :
    (d.bind fun r => aM r.fst fun l => dF .i64 l fun n => aC (decide (n < 0)) (some (SV.leaf (aA.int .i64 (-1)), [])) (Y n)) = some (aJ (szL (.sl fP es :: r) n), []) := by
  rw [hd]
  simp only [Option.bind_some, aV, cA, bZ, szL]
  by_cases h : szF (.sl fP es) n < 0
  · simp [h]
  · simp only [h, decide_false, Bool.false_eq_true, if_false]
    exact g _ (by omega)
theorem aBD {es : List (List (aA false))} {Y : Res} (g : 0 ≤ IntKind.i64.wrap (n - (es.length : Int)) → Y = some (aJ (szE es (IntKind.i64.wrap (n - (es.length : Int)))), [])) :
    aC (decide (IntKind.i64.wrap (n - (es.length : Int)) < 0)) (some (SV.leaf (aA.int .i64 (-1)), [])) Y = some (aJ (szF (.sl fP es) n), []) := by
  rw [bZ, szF]
  by_cases h : IntKind.i64.wrap (n - (es.length : Int)) < 0
  · simp [h]
  · simp only [h, decide_false, Bool.false_eq_true, if_false]
    exact g (by omega)
theorem aAa {e : List (aA false)} {es : List (List (aA false))} {d : Res} {Y : Int → Res} (hd : d = some (aJ (szL e n), [])) (g : ∀ k, 0 ≤ k → Y k = some (aJ (szE es k), [])) :
    (d.bind fun r => aM r.fst fun l => dF .i64 l fun n => aC (decide (n < 0)) (some (SV.leaf (aA.int .i64 (-1)), [])) (Y n)) = some (aJ (szE (e :: es) n), []) := by
  rw [hd]
  simp only [Option.bind_some, aV, cA, bZ, szE]
  by_cases h : szL e n < 0
  · simp [h]
  · simp only [h, decide_false, Bool.false_eq_true, if_false]
    exact g _ (by omega)
theorem aSa {s : ByteArray} {es : List (List (aA false))} {Y : Res} (g : 0 ≤ IntKind.i64.wrap (n - (s.size : Int)) → Y = some (aJ (szE es (IntKind.i64.wrap (n - (s.size : Int)))), [])) :
    aC (decide (IntKind.i64.wrap (n - (s.size : Int)) < 0)) (some (SV.leaf (aA.int .i64 (-1)), [])) Y = some (aJ (szE ([.str s] :: es) n), []) := by
  rw [bZ]
  by_cases h : IntKind.i64.wrap (n - (s.size : Int)) < 0
  · simp [h, szE, szL, szF]
  · simp only [h, decide_false, Bool.false_eq_true, if_false, szE, szL, szF]
    exact g (by omega)
end
mutual
def mkF : aA false → Int → Int
  | .str _, k => IntKind.i64.wrap (k + 1)
  | .bool _, k => IntKind.i64.wrap (k + 1)
  | .int _ _, k => IntKind.i64.wrap (k + 1)
  | .sl _ es, k => mkE es k
  | .unk, k => k
  | .nl _, k => k
def mkL : List (aA false) → Int → Int
  | [], k => k
  | l :: r, k => mkL r (mkF l k)
def mkE : List (List (aA false)) → Int → Int
  | [], k => k
  | e :: es, k => mkE es (mkL e k)
end
mutual
def tF : aA false → Nat
  | .sl _ es => es.length + tE es
  | _ => 0
def tL : List (aA false) → Nat
  | [] => 0
  | l :: r => tF l + tL r
def tE : List (List (aA false)) → Nat
  | [] => 0
  | e :: es => tL e + tE es
end
mutual
def okF (z : Nat) : aA false → Prop
  | .str s => s.size ≤ maxLen
  | .sl _ es => es.length ≤ maxLen ∧ okE z es
  | _ => True
def okL (z : Nat) : List (aA false) → Prop
  | [] => True
  | l :: r => okF z l ∧ okL z r
def okE (z : Nat) : List (List (aA false)) → Prop
  | [] => True
  | e :: es => e.length ≤ z ∧ okL z e ∧ okE z es
end
def cap : Int := 4611686018427387904
mutual
theorem aSS {z : Nat} : ∀ (l : aA false) (n : Int), okF z l → 0 ≤ n → n ≤ cap → 0 ≤ szF l n → szF l n ≤ n ∧ (tF l : Int) ≤ n - szF l n
  | .str s, n, ho, h0, hn, h => by
    have hm : maxLen = 9223372036854775807 := rfl
    simp only [okF] at ho
    simp only [szF, tF, cap] at *
    rw [nZ (by omega) (by omega)] at h ⊢
    split at h <;> simp_all <;> omega
  | .sl _ es, n, ho, h0, hn, h => by
    have hm : maxLen = 9223372036854775807 := rfl
    simp only [okF] at ho
    simp only [szF, tF] at *
    rw [nZ (by simp only [cap] at hn; omega) (by simp only [cap] at hn; omega)] at h ⊢
    by_cases hl : n - (es.length : Int) < 0
    · simp [hl] at h
    · simp only [hl, if_false] at h ⊢
      have := aSN es (n - es.length) ho.2 (by omega) (by omega) h
      omega
  | .bool _, n, _, _, _, _ => by simp [szF, tF]
  | .int _ _, n, _, _, _, _ => by simp [szF, tF]
  | .unk, n, _, _, _, _ => by simp [szF, tF]
  | .nl _, n, _, _, _, _ => by simp [szF, tF]
theorem aOb {z : Nat} : ∀ (l : List (aA false)) (n : Int), okL z l → 0 ≤ n → n ≤ cap → 0 ≤ szL l n → szL l n ≤ n ∧ (tL l : Int) ≤ n - szL l n
  | [], n, _, _, _, _ => by simp [szL, tL]
  | l :: r, n, ho, h0, hn, h => by
    simp only [okL] at ho
    simp only [szL, tL] at *
    by_cases hl : szF l n < 0
    · simp [hl] at h
    · simp only [hl, if_false] at h ⊢
      have h1 := aSS l n ho.1 h0 hn (by omega)
      have h2 := aOb r _ ho.2 (by omega) (by omega) h
      omega
theorem aSN {z : Nat} : ∀ (l : List (List (aA false))) (n : Int), okE z l → 0 ≤ n → n ≤ cap → 0 ≤ szE l n → szE l n ≤ n ∧ (tE l : Int) ≤ n - szE l n
  | [], n, _, _, _, _ => by simp [szE, tE]
  | e :: r, n, ho, h0, hn, h => by
    simp only [okE] at ho
    simp only [szE, tE] at *
    by_cases hl : szL e n < 0
    · simp [hl] at h
    · simp only [hl, if_false] at h ⊢
      have h1 := aOb e n ho.2.1 h0 hn (by omega)
      have h2 := aSN r _ ho.2.2 (by omega) (by omega) h
      omega
end
mutual
theorem aTH {z : Nat} : ∀ (l : aA false) (k : Int), okF z l → 0 ≤ k → k + 1 + z * tF l ≤ cap → k ≤ mkF l k ∧ mkF l k ≤ k + 1 + z * tF l
  | .str s, k, _, h0, hn => by simp only [mkF, tF, cap] at *; rw [nZ (by omega) (by omega)]; omega
  | .bool s, k, _, h0, hn => by simp only [mkF, tF, cap] at *; rw [nZ (by omega) (by omega)]; omega
  | .int _ s, k, _, h0, hn => by simp only [mkF, tF, cap] at *; rw [nZ (by omega) (by omega)]; omega
  | .unk, k, _, h0, hn => by simp only [mkF, tF]; omega
  | .nl _, k, _, h0, hn => by simp only [mkF, tF]; omega
  | .sl _ es, k, ho, h0, hn => by
    simp only [okF] at ho
    simp only [mkF, tF] at *
    have e : (z : Int) * ((es.length + tE es : Nat) : Int) = z * es.length + z * tE es := by push_cast; rw [Int.mul_add]
    rw [e] at hn ⊢
    have := aRO es k ho.2 h0 (by omega)
    omega
theorem aSQ {z : Nat} : ∀ (l : List (aA false)) (k : Int), okL z l → 0 ≤ k → k + l.length + z * tL l ≤ cap → k ≤ mkL l k ∧ mkL l k ≤ k + l.length + z * tL l
  | [], k, _, _, _ => by simp [mkL, tL]
  | l :: r, k, ho, h0, hn => by
    simp only [okL] at ho
    have e : (z : Int) * ((tF l + tL r : Nat) : Int) = z * tF l + z * tL r := by push_cast; rw [Int.mul_add]
    have e2 : (((l :: r).length : Nat) : Int) = r.length + 1 := by simp
    rw [show tL (l :: r) = tF l + tL r by simp [tL], e, e2] at hn ⊢
    rw [show mkL (l :: r) k = mkL r (mkF l k) by simp [mkL]]
    have p1 : 0 ≤ (z : Int) * tF l := Int.mul_nonneg (by omega) (by omega)
    have p2 : 0 ≤ (z : Int) * tL r := Int.mul_nonneg (by omega) (by omega)
    have h1 := aTH l k ho.1 h0 (by omega)
    have h2 := aSQ r (mkF l k) ho.2 (by omega) (by omega)
    omega
theorem aRO {z : Nat} : ∀ (l : List (List (aA false))) (k : Int), okE z l → 0 ≤ k → k + z * l.length + z * tE l ≤ cap → k ≤ mkE l k ∧ mkE l k ≤ k + z * l.length + z * tE l
  | [], k, _, _, _ => by simp [mkE, tE]
  | e :: r, k, ho, h0, hn => by
    simp only [okE] at ho
    have e1 : (z : Int) * ((tL e + tE r : Nat) : Int) = z * tL e + z * tE r := by push_cast; rw [Int.mul_add]
    have e2 : (z : Int) * (((e :: r).length : Nat) : Int) = z * r.length + z := by rw [List.length_cons]; push_cast; rw [Int.mul_add, Int.mul_one]
    rw [show tE (e :: r) = tL e + tE r by simp [tE], e1, e2] at hn ⊢
    rw [show mkE (e :: r) k = mkE r (mkL e k) by simp [mkE]]
    have p1 : 0 ≤ (z : Int) * tL e := Int.mul_nonneg (by omega) (by omega)
    have p2 : 0 ≤ (z : Int) * tE r := Int.mul_nonneg (by omega) (by omega)
    have p3 : 0 ≤ (z : Int) * r.length := Int.mul_nonneg (by omega) (by omega)
    have h1 := aSQ e k ho.2.1 h0 (by omega)
    have h2 := aRO r (mkL e k) ho.2.2 (by omega) (by omega)
    omega
end
theorem bI {m : Bool} {l : List (List (aA m))} {i : Nat} (h : i < l.length) : l.getD i [] = l[i] := by simp [List.getD, h]
theorem cY {α : Type} {l : List α} {i : Nat} (h : i < l.length) : l.drop i = l[i] :: l.drop (i + 1) := List.drop_eq_getElem_cons h
theorem aR {m : Bool} {z : Nat} {es : List (List (aA m))} (h : ∀ e ∈ es, e.length = z) : sized z es = true := by
  simp only [sized, List.all_eq_true, beq_iff_eq]; exact h
theorem kF {m m' : Bool} {φ : Fl m → Fl m'} {z : Nat} {es : List (List (aA m))} (h : ∀ e ∈ es, e.length = z) : ∀ e ∈ reE φ es, e.length = z := by
  intro e he
  rw [zU] at he
  obtain ⟨x, hx, rfl⟩ := List.mem_map.1 he
  rw [aBN]; exact h x hx
theorem vI {m m' : Bool} {φ : Fl m → Fl m'} {es : List (List (aA m))} {i : Nat} (h : i < (reE φ es).length) : (reE φ es)[i] = reL φ (es[i]'(by rwa [cH] at h)) := by
  simp only [zU, List.getElem_map]
theorem tT {m m' : Bool} {φ : Fl m → Fl m'} {es : List (List (aA m))} {i : Nat} (h : i < es.length) : (reE φ es).getD i [] = reL φ es[i] := by
  rw [bI (by rwa [cH]), vI (by rwa [cH])]
theorem aQm : ∀ l : List (aA false), soL l = l.map soF
  | [] => by rw [soL]; rfl
  | l :: r => by rw [soL, List.map_cons, aQm r]
theorem aKg : ∀ l : List (List (aA false)), soE l = l.map soL
  | [] => by rw [soE]; rfl
  | l :: r => by rw [soE, List.map_cons, aKg r]
theorem nW (l : List (List (aA false))) : (soE l).length = l.length := by rw [aKg, List.length_map]
theorem xZ {z : Nat} {es : List (List (aA false))} (h : ∀ e ∈ es, e.length = z) : ∀ e ∈ soE es, e.length = z := by
  intro e he
  rw [aKg] at he
  obtain ⟨x, hx, rfl⟩ := List.mem_map.1 he
  rw [aQm, List.length_map]; exact h x hx
theorem tR {es : List (List (aA false))} {i : Nat} (h : i < es.length) : (soE es).getD i [] = soL es[i] := by
  rw [aKg, List.getD_eq_getElem?_getD, List.getElem?_map, List.getElem?_eq_getElem h]; rfl
theorem mM {z : Nat} : ∀ {es : List (List (aA false))}, (∀ e ∈ es, e.length ≤ z ∧ okL z e) → okE z es
  | [], _ => by simp [okE]
  | e :: r, h => by
    simp only [okE]
    exact ⟨(h e (by simp)).1, (h e (by simp)).2, mM fun x hx => h x (by simp [hx])⟩
theorem aBt : ∀ {es : List (List (aA false))} {e : List (aA false)}, e ∈ es → tL e ≤ tE es
  | x :: r, e, h => by
    simp only [tE]
    rcases List.mem_cons.1 h with rfl | h
    · omega
    · have := aBt h; omega
def dP (e : List (aA false)) : Prop := ∃ s : ByteArray, e = [.str s] ∧ s.size ≤ maxLen
theorem dP.len {e : List (aA false)} (h : dP e) : e.length = 1 := by obtain ⟨s, rfl, _⟩ := h; rfl
theorem dP.ok {e : List (aA false)} (h : dP e) : okL 16 e := by obtain ⟨s, rfl, hs⟩ := h; simp only [okL, okF]; exact ⟨hs, trivial⟩
theorem lR : Fl.isSoft eQ = true := rfl
theorem xX {α : Type} {p : Prop} [Decidable p] {a b : α} (h : p) : (if p then a else b) = a := if_pos h
end Go.Vs
namespace Go.Vs
variable {m : Bool}
theorem aMB {v l1 l2 : List (SV m)} {p q : Nat} (hq : q = p + l1.length) (h : p + l1.length + l2.length ≤ v.length) : jK (jK v p l1) q l2 = jK v p (l1 ++ l2) := by
  subst hq
  unfold jK
  have h1 : (v.take p).length = p := by rw [List.length_take]; omega
  have e1 : (v.take p ++ l1 ++ v.drop (p + l1.length)).take (p + l1.length) = v.take p ++ l1 := by
    rw [List.take_append_of_le_length (by rw [List.length_append, h1]; omega), List.take_of_length_le (by rw [List.length_append, h1]; omega)]
  have e2 : (v.take p ++ l1 ++ v.drop (p + l1.length)).drop (p + l1.length + l2.length) = v.drop (p + (l1.length + l2.length)) := by
    rw [List.drop_append, List.drop_of_length_le (by rw [List.length_append, h1]; omega), List.nil_append, List.drop_drop, List.length_append, h1]
    congr 1; omega
  rw [e1, e2, List.length_append]
  simp only [List.append_assoc]
theorem aHg {v l : List (SV m)} {p : Nat} (h : p + l.length ≤ v.length) : (jK v p l).length = v.length := by
  unfold jK
  simp only [List.length_append, List.length_take, List.length_drop]
  omega
theorem aJK {α : Type} {z : Nat} : ∀ {l : List (List α)} {i o : Nat} (hl : ∀ e ∈ l, e.length = z) (hi : i < l.length) (ho : o < z), l.flatten[i * z + o]? = (l[i])[o]?
  | e :: l, 0, o, hl, hi, ho => by
    rw [List.flatten_cons, List.getElem?_append_left (by rw [hl e (by simp)]; omega)]
    simp
  | e :: l, i + 1, o, hl, hi, ho => by
    have he := hl e (by simp)
    rw [List.flatten_cons, List.getElem?_append_right (by rw [he, Nat.add_mul]; omega), he]
    have : (i + 1) * z + o - z = i * z + o := by rw [Nat.add_mul]; omega
    rw [this, List.getElem_cons_succ]
    exact aJK (fun e h => hl e (by simp [h])) (by simpa using hi) ho
theorem aSe {β : Type} {l : List (List (aA m))} {z : Nat} {r : List (SV m)} {i o p : Nat} (hl : ∀ e ∈ l, e.length = z) (hi : i < l.length) (ho : o < z) (hp : p = i * z + o) (k : SV m → Option β) :
    aGP (fN l l.length r) p k = k (.leaf ((l[i])[o]'(by rw [hl _ (List.getElem_mem hi)]; exact ho))) := by
  subst hp
  have hlen : l.flatten.length = l.length * z := wP hl
  have hm : i * z + o < l.flatten.length := by
    rw [hlen]
    have : (i + 1) * z ≤ l.length * z := Nat.mul_le_mul_right z hi
    rw [Nat.add_mul] at this; omega
  unfold aGP fN
  rw [List.take_length, List.getElem?_append_left (by rw [List.length_map]; exact hm), List.getElem?_map, aJK hl hi ho, List.getElem?_eq_getElem (by rw [hl _ (List.getElem_mem hi)]; exact ho)]
  rfl
theorem aGx {l : List (List (aA m))} {i : Nat} {r : List (SV m)} (h : r.all SV.flat = true) : (fN l i r).all SV.flat = true := by
  unfold fN
  rw [List.all_append, h, Bool.and_true, List.all_map]
  exact List.all_eq_true.2 fun _ _ => rfl
end Go.Vs
namespace Go.Vs
def msL : List (aA false) → Int → Int
  | [], k => k
  | .sl _ es :: r, k => msL r (mkE es k)
  | .bool _ :: r, k => msL r k
  | .int _ _ :: r, k => msL r k
  | .str _ :: r, k => msL r k
  | .unk :: r, k => msL r k
  | .nl _ :: r, k => msL r k
theorem aJy {z : Nat} : ∀ (l : List (aA false)) (k : Int), okL z l → 0 ≤ k → k + z * tL l ≤ cap → k ≤ msL l k ∧ msL l k ≤ k + z * tL l
  | [], k, _, _, _ => by simp [msL, tL]
  | .sl c es :: r, k, ho, h0, hn => by
    simp only [okL, okF] at ho
    have e1 : (z : Int) * ((tL (.sl c es :: r) : Nat) : Int) = z * es.length + z * tE es + z * tL r := by
      rw [show tL (.sl c es :: r) = es.length + tE es + tL r by simp [tL, tF]]
      push_cast; rw [Int.mul_add, Int.mul_add]
    rw [e1] at hn ⊢
    rw [show msL (.sl c es :: r) k = msL r (mkE es k) by simp [msL]]
    have p1 : 0 ≤ (z : Int) * es.length := Int.mul_nonneg (by omega) (by omega)
    have p2 : 0 ≤ (z : Int) * tE es := Int.mul_nonneg (by omega) (by omega)
    have p3 : 0 ≤ (z : Int) * tL r := Int.mul_nonneg (by omega) (by omega)
    have h1 := aRO es k ho.1.2 h0 (by omega)
    have h2 := aJy r (mkE es k) ho.2 (by omega) (by omega)
    omega
  | .bool b :: r, k, ho, h0, hn => by
    simp only [okL] at ho
    have e : tL (.bool b :: r) = tL r := by simp [tL, tF]
    rw [e] at hn ⊢
    exact aJy r k ho.2 h0 hn
  | .int kk b :: r, k, ho, h0, hn => by
    simp only [okL] at ho
    have e : tL (.int kk b :: r) = tL r := by simp [tL, tF]
    rw [e] at hn ⊢
    exact aJy r k ho.2 h0 hn
  | .str b :: r, k, ho, h0, hn => by
    simp only [okL] at ho
    have e : tL (.str b :: r) = tL r := by simp [tL, tF]
    rw [e] at hn ⊢
    exact aJy r k ho.2 h0 hn
  | .unk :: r, k, ho, h0, hn => by
    simp only [okL] at ho
    have e : tL (.unk :: r) = tL r := by simp [tL, tF]
    rw [e] at hn ⊢
    exact aJy r k ho.2 h0 hn
  | .nl b :: r, k, ho, h0, hn => by
    simp only [okL] at ho
    have e : tL (.nl b :: r) = tL r := by simp [tL, tF]
    rw [e] at hn ⊢
    exact aJy r k ho.2 h0 hn
end Go.Vs
end
section
open Go Go.Vs Go.Proofs
namespace Go.Vs
noncomputable abbrev atA {m : Bool} (D : aO m) (f : FuncId) (x : List Nat × St m) : Ret m := atF Tryz.prog D Hs f x.1 0 x.2
end Go.Vs
end
section
open Go Go.Vs Go.Proofs
set_option maxRecDepth 100000
set_option linter.unusedVariables false
namespace Go.Vs
def qT (c0_0 : Fl true) (e0_0 : LT) (c0_1 : Fl true) (e0_1 : LT) (c0_2 : Fl true) (e0_2 : LT) (c1_0 : Fl true) (e1_0 : LT) (c1_1 : Fl true) (e1_1 : LT) (c1_2 : Fl true) (e1_2 : LT) : St true := St.mk [.agg [.sl c0_0 e0_0,.sl c0_1 e0_1,.sl c0_2 e0_2],.agg [.sl c1_0 e1_0,.sl c1_1 e1_1,.sl c1_2 e1_2],.any,.any,.any,.any,.any,.any,.any,.any,.any,.any,.any,.any,.any,.any,.any,.any,.any,.any,.any,.any,.any,.any,.any,.any,.any,.any,.any,.any,.any,.any,.any,.any,.any,.any,.any,.any,.any,.any,.any,.any,.any,.any,.any,.any,.any,.any,.any,.any,.any,.any,.any,.any,.any,.any,.any,.any,.any,.any,.any,.any,.any,.any,.any,.any,.any,.any,.any,.any,.any,.any,.any,.any,.any,.any,.any,.any,.any,.any,.any,.any,.any,.any,.any,.any,.any,.any,.any,.any,.any,.any] [none,none,none,none,none,none,none,none,none,none,none,none,none,none,none,none,none,none,none,none,none,none,none,none,none,none,none,none,none,none,none,none,none,none,none,none,none,none,none,none,none,none,none,none,none,none,none,none,none,none,none,none,none,none,none,none,none,none,none,none,none,none,none,none,none,none,none,none,none,none,none,none,none,none,none,none,none,none,none,none,none,none,none,none,none,none,none,none,none,none,none,none]
theorem qR (D : aO true) (J : PT → Ret true) (c0_0 : Fl true) (e0_0 : LT) (c0_1 : Fl true) (e0_1 : LT) (c0_2 : Fl true) (e0_2 : LT) (c1_0 : Fl true) (e1_0 : LT) (c1_1 : Fl true) (e1_1 : LT) (c1_2 : Fl true) (e1_2 : LT) : yX Tryz.prog D Hs F.aUo [way 7] 0 J (way 0,qT c0_0 e0_0 c0_1 e0_1 c0_2 e0_2 c1_0 e1_0 c1_1 e1_1 c1_2 e1_2) = (D F.aVa [.agg [.sl c0_0 e0_0,.sl c0_1 e0_1,.sl c0_2 e0_2],.leaf (.int .i64 1048576)] []).bind fun r => aM r.fst fun l => dF .i64 l fun n => aC (decide (n < 0)) (some (.leaf (.bool true),[])) ((D F.aVa [.agg [.sl c1_0 e1_0,.sl c1_1 e1_1,.sl c1_2 e1_2],.leaf (.int .i64 n)] []).bind fun r => aM r.fst fun l => dF .i64 l fun n => aC (decide (n < 0)) (some (.leaf (.bool true),[])) ((D F.aU7 [.agg [.sl c0_0 e0_0,.sl c0_1 e0_1,.sl c0_2 e0_2]] []).bind fun r => dU r.fst fun cs => aB (cs.length == 3) (atK cs 0 fun l => slK l fun c es => atK cs 1 fun l => slK l fun c_1 es_1 => atK cs 2 fun l => slK l fun c_2 es_2 => (D F.aU7 [.agg [.sl c1_0 e1_0,.sl c1_1 e1_1,.sl c1_2 e1_2]] []).bind fun r => dU r.fst fun cs => aB (cs.length == 3) (atK cs 0 fun l => slK l fun c_3 es_3 => atK cs 1 fun l => slK l fun c_4 es_4 => atK cs 2 fun l => slK l fun c_5 es_5 => (D F.aWf [.agg [.sl c es,.sl c_1 es_1,.sl c_2 es_2],.agg [.sl c_3 es_3,.sl c_4 es_4,.sl c_5 es_5]] []).bind fun r => fR T.aVQ r.fst fun es => J (way 7,St.mk [.any,.any,.ptr 2 0,.ptr 3 0,.any,.any,.own (some T.aVQ) es,.any,.any,.any,.any,.any,.any,.any,.any,.any,.any,.any,.any,.any,.any,.any,.any,.any,.any,.any,.any,.any,.any,.any,.any,.any,.any,.any,.any,.any,.any,.any,.any,.any,.any,.any,.any,.any,.any,.any,.any,.any,.any,.any,.any,.any,.any,.any,.any,.any,.any,.any,.any,.any,.any,.any,.any,.any,.any,.any,.any,.any,.any,.any,.any,.any,.any,.any,.any,.any,.any,.any,.any,.any,.any,.any,.any,.any,.any,.any,.any,.any,.any,.any,.any,.any] [none,none,some [.leaf (.sl c0_0 e0_0),.leaf (.sl c0_1 e0_1),.leaf (.sl c0_2 e0_2)],some [.leaf (.sl c1_0 e1_0),.leaf (.sl c1_1 e1_1),.leaf (.sl c1_2 e1_2)],none,none,none,none,none,none,none,none,none,none,none,none,none,none,none,none,none,none,none,none,none,none,none,none,none,none,none,none,none,none,none,none,none,none,none,none,none,none,none,none,none,none,none,none,none,none,none,none,none,none,none,none,none,none,none,none,none,none,none,none,none,none,none,none,none,none,none,none,none,none,none,none,none,none,none,none,none,none,none,none,none,none,none,none,none,none,none,none]))))) := by revert J; refine id ?_; intro J; kernel_rfl
def fV (c2 c2_0 : Fl true) (e2_0 : LT) (c2_1 : Fl true) (e2_1 : LT) (c2_2 : Fl true) (e2_2 : LT) (c3 c3_0 : Fl true) (e3_0 : LT) (c3_1 : Fl true) (e3_1 : LT) (c3_2 : Fl true) (e3_2 : LT) (c6 : Fl true) (e6 : LT) : St true := St.mk [.any,.any,.eptr c2 [.sl c2_0 e2_0,.sl c2_1 e2_1,.sl c2_2 e2_2] 0,.eptr c3 [.sl c3_0 e3_0,.sl c3_1 e3_1,.sl c3_2 e3_2] 0,.any,.any,.leaf (.sl c6 e6),.any,.any,.any,.any,.any,.any,.any,.any,.any,.any,.any,.any,.any,.any,.any,.any,.any,.any,.any,.any,.any,.any,.any,.any,.any,.any,.any,.any,.any,.any,.any,.any,.any,.any,.any,.any,.any,.any,.any,.any,.any,.any,.any,.any,.any,.any,.any,.any,.any,.any,.any,.any,.any,.any,.any,.any,.any,.any,.any,.any,.any,.any,.any,.any,.any,.any,.any,.any,.any,.any,.any,.any,.any,.any,.any,.any,.any,.any,.any,.any,.any,.any,.any,.any,.any] [none,none,none,none,none,none,none,none,none,none,none,none,none,none,none,none,none,none,none,none,none,none,none,none,none,none,none,none,none,none,none,none,none,none,none,none,none,none,none,none,none,none,none,none,none,none,none,none,none,none,none,none,none,none,none,none,none,none,none,none,none,none,none,none,none,none,none,none,none,none,none,none,none,none,none,none,none,none,none,none,none,none,none,none,none,none,none,none,none,none,none,none]
theorem aEN (D : aO true) (J : PT → Ret true) (c2 : Fl true) (c2_0 : Fl true) (e2_0 : LT) (c2_1 : Fl true) (e2_1 : LT) (c2_2 : Fl true) (e2_2 : LT) (c3 : Fl true) (c3_0 : Fl true) (e3_0 : LT) (c3_1 : Fl true) (e3_1 : LT) (c3_2 : Fl true) (e3_2 : LT) (c6 : Fl true) (e6 : LT) : yX Tryz.prog D Hs F.aUo [way 9] 0 J (way 7,fV c2 c2_0 e2_0 c2_1 e2_1 c2_2 e2_2 c3 c3_0 e3_0 c3_1 e3_1 c3_2 e3_2 c6 e6) = (D F.aU7 [.agg [.sl c2_0 e2_0,.sl c2_1 e2_1,.sl c2_2 e2_2]] []).bind fun r => dU r.fst fun cs => aB (cs.length == 3) (atK cs 0 fun l => slK l fun c es => atK cs 1 fun l => slK l fun c_1 es_1 => atK cs 2 fun l => slK l fun c_2 es_2 => (D F.aU7 [.agg [.sl c3_0 e3_0,.sl c3_1 e3_1,.sl c3_2 e3_2]] []).bind fun r => dU r.fst fun cs => aB (cs.length == 3) (atK cs 0 fun l => slK l fun c_3 es_3 => atK cs 1 fun l => slK l fun c_4 es_4 => atK cs 2 fun l => slK l fun c_5 es_5 => J (way 9,St.mk [.any,.any,.eptr c2 [.sl c2_0 e2_0,.sl c2_1 e2_1,.sl c2_2 e2_2] 0,.eptr c3 [.sl c3_0 e3_0,.sl c3_1 e3_1,.sl c3_2 e3_2] 0,.any,.any,.leaf (.sl c6 e6),.ptr 7 0,.ptr 8 0,.any,.any,.any,.any,.any,.any,.any,.any,.any,.any,.any,.any,.any,.any,.any,.any,.any,.any,.any,.any,.any,.any,.any,.any,.any,.any,.any,.any,.any,.any,.any,.any,.any,.any,.any,.any,.any,.any,.any,.any,.any,.any,.any,.any,.any,.any,.any,.any,.any,.any,.any,.any,.any,.any,.any,.any,.any,.any,.any,.any,.any,.any,.any,.any,.any,.any,.any,.any,.any,.any,.any,.any,.any,.any,.any,.any,.any,.any,.any,.any,.any,.any,.any] [none,none,none,none,none,none,none,some [.leaf (.sl c es),.leaf (.sl c_1 es_1),.leaf (.sl c_2 es_2)],some [.leaf (.sl c_3 es_3),.leaf (.sl c_4 es_4),.leaf (.sl c_5 es_5)],none,none,none,none,none,none,none,none,none,none,none,none,none,none,none,none,none,none,none,none,none,none,none,none,none,none,none,none,none,none,none,none,none,none,none,none,none,none,none,none,none,none,none,none,none,none,none,none,none,none,none,none,none,none,none,none,none,none,none,none,none,none,none,none,none,none,none,none,none,none,none,none,none,none,none,none,none,none,none,none,none,none,none]))) := by revert J; refine id ?_; intro J; kernel_rfl
def dD (c2 c2_0 : Fl true) (e2_0 : LT) (c2_1 : Fl true) (e2_1 : LT) (c2_2 : Fl true) (e2_2 : LT) (c3 c3_0 : Fl true) (e3_0 : LT) (c3_1 : Fl true) (e3_1 : LT) (c3_2 : Fl true) (e3_2 : LT) (c6 : Fl true) (e6 : LT) (c7 c7_0 : Fl true) (e7_0 : LT) (c7_1 : Fl true) (e7_1 : LT) (c7_2 : Fl true) (e7_2 : LT) (c8 c8_0 : Fl true) (e8_0 : LT) (c8_1 : Fl true) (e8_1 : LT) (c8_2 : Fl true) (e8_2 : LT) : St true := St.mk [.any,.any,.eptr c2 [.sl c2_0 e2_0,.sl c2_1 e2_1,.sl c2_2 e2_2] 0,.eptr c3 [.sl c3_0 e3_0,.sl c3_1 e3_1,.sl c3_2 e3_2] 0,.any,.any,.leaf (.sl c6 e6),.eptr c7 [.sl c7_0 e7_0,.sl c7_1 e7_1,.sl c7_2 e7_2] 0,.eptr c8 [.sl c8_0 e8_0,.sl c8_1 e8_1,.sl c8_2 e8_2] 0,.any,.any,.any,.any,.any,.any,.any,.any,.any,.any,.any,.any,.any,.any,.any,.any,.any,.any,.any,.any,.any,.any,.any,.any,.any,.any,.any,.any,.any,.any,.any,.any,.any,.any,.any,.any,.any,.any,.any,.any,.any,.any,.any,.any,.any,.any,.any,.any,.any,.any,.any,.any,.any,.any,.any,.any,.any,.any,.any,.any,.any,.any,.any,.any,.any,.any,.any,.any,.any,.any,.any,.any,.any,.any,.any,.any,.any,.any,.any,.any,.any,.any,.any] [none,none,none,none,none,none,none,none,none,none,none,none,none,none,none,none,none,none,none,none,none,none,none,none,none,none,none,none,none,none,none,none,none,none,none,none,none,none,none,none,none,none,none,none,none,none,none,none,none,none,none,none,none,none,none,none,none,none,none,none,none,none,none,none,none,none,none,none,none,none,none,none,none,none,none,none,none,none,none,none,none,none,none,none,none,none,none,none,none,none,none,none]
theorem aFo (D : aO true) (J : PT → Ret true) (c2 : Fl true) (c2_0 : Fl true) (e2_0 : LT) (c2_1 : Fl true) (e2_1 : LT) (c2_2 : Fl true) (e2_2 : LT) (c3 : Fl true) (c3_0 : Fl true) (e3_0 : LT) (c3_1 : Fl true) (e3_1 : LT) (c3_2 : Fl true) (e3_2 : LT) (c6 : Fl true) (e6 : LT) (c7 : Fl true) (c7_0 : Fl true) (e7_0 : LT) (c7_1 : Fl true) (e7_1 : LT) (c7_2 : Fl true) (e7_2 : LT) (c8 : Fl true) (c8_0 : Fl true) (e8_0 : LT) (c8_1 : Fl true) (e8_1 : LT) (c8_2 : Fl true) (e8_2 : LT) : yX Tryz.prog D Hs F.aUo [way 13] 0 J (way 9,dD c2 c2_0 e2_0 c2_1 e2_1 c2_2 e2_2 c3 c3_0 e3_0 c3_1 e3_1 c3_2 e3_2 c6 e6 c7 c7_0 e7_0 c7_1 e7_1 c7_2 e7_2 c8 c8_0 e8_0 c8_1 e8_1 c8_2 e8_2) = (D F.aWg [.agg [.sl c7_0 e7_0,.sl c7_1 e7_1,.sl c7_2 e7_2],.agg [.sl c8_0 e8_0,.sl c8_1 e8_1,.sl c8_2 e8_2]] []).bind fun r => fR T.aVQ r.fst fun es => (D F.aUV [.leaf (.sl aS es),.leaf (.sl c6 e6)] []).bind fun r => aM r.fst fun l => cL l fun b => aC (!b) (some (.leaf (.bool false),[])) ((D F.aU7 [.agg [.sl c2_0 e2_0,.sl c2_1 e2_1,.sl c2_2 e2_2]] []).bind fun r => dU r.fst fun cs => aB (cs.length == 3) (atK cs 0 fun l => slK l fun c es_1 => atK cs 1 fun l => slK l fun c_1 es_2 => atK cs 2 fun l => slK l fun c_2 es_3 => (D F.aU9 [.agg [.sl c7_0 e7_0,.sl c7_1 e7_1,.sl c7_2 e7_2],.agg [.sl c es_1,.sl c_1 es_2,.sl c_2 es_3]] []).bind fun r => aM r.fst fun l => cL l fun b => aC (!b) (some (.leaf (.bool false),[])) ((D F.aU7 [.agg [.sl c3_0 e3_0,.sl c3_1 e3_1,.sl c3_2 e3_2]] []).bind fun r => dU r.fst fun cs => aB (cs.length == 3) (atK cs 0 fun l => slK l fun c es_4 => atK cs 1 fun l => slK l fun c_3 es_5 => atK cs 2 fun l => slK l fun c_4 es_6 => (D F.aU9 [.agg [.sl c8_0 e8_0,.sl c8_1 e8_1,.sl c8_2 e8_2],.agg [.sl c es_4,.sl c_3 es_5,.sl c_4 es_6]] []).bind fun r => aM r.fst fun l => cL l fun b => aC (!b) (some (.leaf (.bool false),[])) (J (way 13,St.mk [.any,.any,.eptr c2 [.sl c2_0 e2_0,.sl c2_1 e2_1,.sl c2_2 e2_2] 0,.eptr c3 [.sl c3_0 e3_0,.sl c3_1 e3_1,.sl c3_2 e3_2] 0,.any,.any,.leaf (.sl c6 e6),.eptr c7 [.sl c7_0 e7_0,.sl c7_1 e7_1,.sl c7_2 e7_2] 0,.eptr c8 [.sl c8_0 e8_0,.sl c8_1 e8_1,.sl c8_2 e8_2] 0,.own (some T.aVQ) es,.any,.any,.any,.any,.any,.any,.any,.any,.any,.any,.any,.any,.any,.any,.any,.any,.any,.any,.any,.any,.any,.any,.any,.any,.any,.any,.any,.any,.any,.any,.any,.any,.any,.any,.any,.any,.any,.any,.any,.any,.any,.any,.any,.any,.any,.any,.any,.any,.any,.any,.any,.any,.any,.any,.any,.any,.any,.any,.any,.any,.any,.any,.any,.any,.any,.any,.any,.any,.any,.any,.any,.any,.any,.any,.any,.any,.any,.any,.any,.any,.any,.any] [none,none,none,none,none,none,none,none,none,none,none,none,none,none,none,none,none,none,none,none,none,none,none,none,none,none,none,none,none,none,none,none,none,none,none,none,none,none,none,none,none,none,none,none,none,none,none,none,none,none,none,none,none,none,none,none,none,none,none,none,none,none,none,none,none,none,none,none,none,none,none,none,none,none,none,none,none,none,none,none,none,none,none,none,none,none,none,none,none,none,none,none])))))) := by revert J; refine id ?_; intro J; kernel_rfl
def dE (c2 c2_0 : Fl true) (e2_0 : LT) (c2_1 : Fl true) (e2_1 : LT) (c2_2 : Fl true) (e2_2 : LT) (c3 c3_0 : Fl true) (e3_0 : LT) (c3_1 : Fl true) (e3_1 : LT) (c3_2 : Fl true) (e3_2 : LT) (c6 : Fl true) (e6 : LT) (c7 c7_0 : Fl true) (e7_0 : LT) (c7_1 : Fl true) (e7_1 : LT) (c7_2 : Fl true) (e7_2 : LT) (c8 c8_0 : Fl true) (e8_0 : LT) (c8_1 : Fl true) (e8_1 : LT) (c8_2 : Fl true) (e8_2 : LT) (c9 : Fl true) (e9 : LT) : St true := St.mk [.any,.any,.eptr c2 [.sl c2_0 e2_0,.sl c2_1 e2_1,.sl c2_2 e2_2] 0,.eptr c3 [.sl c3_0 e3_0,.sl c3_1 e3_1,.sl c3_2 e3_2] 0,.any,.any,.leaf (.sl c6 e6),.eptr c7 [.sl c7_0 e7_0,.sl c7_1 e7_1,.sl c7_2 e7_2] 0,.eptr c8 [.sl c8_0 e8_0,.sl c8_1 e8_1,.sl c8_2 e8_2] 0,.leaf (.sl c9 e9),.any,.any,.any,.any,.any,.any,.any,.any,.any,.any,.any,.any,.any,.any,.any,.any,.any,.any,.any,.any,.any,.any,.any,.any,.any,.any,.any,.any,.any,.any,.any,.any,.any,.any,.any,.any,.any,.any,.any,.any,.any,.any,.any,.any,.any,.any,.any,.any,.any,.any,.any,.any,.any,.any,.any,.any,.any,.any,.any,.any,.any,.any,.any,.any,.any,.any,.any,.any,.any,.any,.any,.any,.any,.any,.any,.any,.any,.any,.any,.any,.any,.any] [none,none,none,none,none,none,none,none,none,none,none,none,none,none,none,none,none,none,none,none,none,none,none,none,none,none,none,none,none,none,none,none,none,none,none,none,none,none,none,none,none,none,none,none,none,none,none,none,none,none,none,none,none,none,none,none,none,none,none,none,none,none,none,none,none,none,none,none,none,none,none,none,none,none,none,none,none,none,none,none,none,none,none,none,none,none,none,none,none,none,none,none]
theorem aFp (D : aO true) (J : PT → Ret true) (c2 : Fl true) (c2_0 : Fl true) (e2_0 : LT) (c2_1 : Fl true) (e2_1 : LT) (c2_2 : Fl true) (e2_2 : LT) (c3 : Fl true) (c3_0 : Fl true) (e3_0 : LT) (c3_1 : Fl true) (e3_1 : LT) (c3_2 : Fl true) (e3_2 : LT) (c6 : Fl true) (e6 : LT) (c7 : Fl true) (c7_0 : Fl true) (e7_0 : LT) (c7_1 : Fl true) (e7_1 : LT) (c7_2 : Fl true) (e7_2 : LT) (c8 : Fl true) (c8_0 : Fl true) (e8_0 : LT) (c8_1 : Fl true) (e8_1 : LT) (c8_2 : Fl true) (e8_2 : LT) (c9 : Fl true) (e9 : LT) : yX Tryz.prog D Hs F.aUo [way 17] 0 J (way 13,dE c2 c2_0 e2_0 c2_1 e2_1 c2_2 e2_2 c3 c3_0 e3_0 c3_1 e3_1 c3_2 e3_2 c6 e6 c7 c7_0 e7_0 c7_1 e7_1 c7_2 e7_2 c8 c8_0 e8_0 c8_1 e8_1 c8_2 e8_2 c9 e9) = (D F.aUw [.agg [.sl c7_0 e7_0,.sl c7_1 e7_1,.sl c7_2 e7_2],.leaf (.int .i64 1)] []).bind fun r => lF r.snd (aM r.fst fun l => dF .i64 l fun n => (D F.aUw [.agg [.sl c8_0 e8_0,.sl c8_1 e8_1,.sl c8_2 e8_2],.leaf (.int .i64 n)] []).bind fun r => lF r.snd (aM r.fst fun l => dF .i64 l fun n => aC (decide (n < 0) == false) ((D F.aUV [.leaf (.sl c9 e9),.leaf (.sl c6 e6)] []).bind fun r => aM r.fst fun l => cL l fun b => aC (!b) (some (.leaf (.bool false),[])) (J (way 17,St.mk [.any,.any,.eptr c2 [.sl c2_0 e2_0,.sl c2_1 e2_1,.sl c2_2 e2_2] 0,.eptr c3 [.sl c3_0 e3_0,.sl c3_1 e3_1,.sl c3_2 e3_2] 0,.any,.any,.leaf (.sl c6 e6),.any,.any,.leaf (.sl c9 e9),.any,.any,.any,.any,.any,.any,.any,.any,.any,.any,.any,.any,.any,.any,.any,.any,.any,.any,.any,.any,.any,.any,.any,.any,.any,.any,.any,.any,.any,.any,.any,.any,.any,.any,.any,.any,.any,.any,.any,.any,.any,.any,.any,.any,.any,.any,.any,.any,.any,.any,.any,.any,.any,.any,.any,.any,.any,.any,.any,.any,.any,.any,.any,.any,.any,.any,.any,.any,.any,.any,.any,.any,.any,.any,.any,.any,.any,.any,.any,.any,.any,.any] [none,none,none,none,none,none,none,none,none,none,none,none,none,none,none,none,none,none,none,none,none,none,none,none,none,none,none,none,none,none,none,none,none,none,none,none,none,none,none,none,none,none,none,none,none,none,none,none,none,none,none,none,none,none,none,none,none,none,none,none,none,none,none,none,none,none,none,none,none,none,none,none,none,none,none,none,none,none,none,none,none,none,none,none,none,none,none,none,none,none,none,none]))) (some (.leaf (.bool false),[])))) := by revert J; refine id ?_; intro J; kernel_rfl
def fZ (c2 c2_0 : Fl true) (e2_0 : LT) (c2_1 : Fl true) (e2_1 : LT) (c2_2 : Fl true) (e2_2 : LT) (c3 c3_0 : Fl true) (e3_0 : LT) (c3_1 : Fl true) (e3_1 : LT) (c3_2 : Fl true) (e3_2 : LT) (c6 : Fl true) (e6 : LT) (c9 : Fl true) (e9 : LT) : St true := St.mk [.any,.any,.eptr c2 [.sl c2_0 e2_0,.sl c2_1 e2_1,.sl c2_2 e2_2] 0,.eptr c3 [.sl c3_0 e3_0,.sl c3_1 e3_1,.sl c3_2 e3_2] 0,.any,.any,.leaf (.sl c6 e6),.any,.any,.leaf (.sl c9 e9),.any,.any,.any,.any,.any,.any,.any,.any,.any,.any,.any,.any,.any,.any,.any,.any,.any,.any,.any,.any,.any,.any,.any,.any,.any,.any,.any,.any,.any,.any,.any,.any,.any,.any,.any,.any,.any,.any,.any,.any,.any,.any,.any,.any,.any,.any,.any,.any,.any,.any,.any,.any,.any,.any,.any,.any,.any,.any,.any,.any,.any,.any,.any,.any,.any,.any,.any,.any,.any,.any,.any,.any,.any,.any,.any,.any,.any,.any,.any,.any,.any,.any] [none,none,none,none,none,none,none,none,none,none,none,none,none,none,none,none,none,none,none,none,none,none,none,none,none,none,none,none,none,none,none,none,none,none,none,none,none,none,none,none,none,none,none,none,none,none,none,none,none,none,none,none,none,none,none,none,none,none,none,none,none,none,none,none,none,none,none,none,none,none,none,none,none,none,none,none,none,none,none,none,none,none,none,none,none,none,none,none,none,none,none,none]
theorem aFl (D : aO true) (J : PT → Ret true) (c2 : Fl true) (c2_0 : Fl true) (e2_0 : LT) (c2_1 : Fl true) (e2_1 : LT) (c2_2 : Fl true) (e2_2 : LT) (c3 : Fl true) (c3_0 : Fl true) (e3_0 : LT) (c3_1 : Fl true) (e3_1 : LT) (c3_2 : Fl true) (e3_2 : LT) (c6 : Fl true) (e6 : LT) (c9 : Fl true) (e9 : LT) : yX Tryz.prog D Hs F.aUo [] 0 J (way 17,fZ c2 c2_0 e2_0 c2_1 e2_1 c2_2 e2_2 c3 c3_0 e3_0 c3_1 e3_1 c3_2 e3_2 c6 e6 c9 e9) = (D F.aUs [.leaf (.sl c9 e9),.leaf (.int .i64 1)] []).bind fun r => lF r.snd (aM r.fst fun l => dF .i64 l fun n => (D F.aUm [.leaf (.sl c9 e9),.leaf (.int .i64 1)] []).bind fun r => lF r.snd (aM r.fst fun l => dF .i64 l fun n_1 => aC (decide (n_1 < 0)) (some (.leaf (.bool false),[])) (aC (n_1 != n) (some (.leaf (.bool false),[])) ((D F.aU7 [.agg [.sl c2_0 e2_0,.sl c2_1 e2_1,.sl c2_2 e2_2]] []).bind fun r => dU r.fst fun cs => aB (cs.length == 3) (atK cs 0 fun l => slK l fun c es => atK cs 1 fun l => slK l fun c_1 es_1 => atK cs 2 fun l => slK l fun c_2 es_2 => (D F.aU7 [.agg [.sl c3_0 e3_0,.sl c3_1 e3_1,.sl c3_2 e3_2]] []).bind fun r => dU r.fst fun cs => aB (cs.length == 3) (atK cs 0 fun l => slK l fun c_3 es_3 => atK cs 1 fun l => slK l fun c_4 es_4 => atK cs 2 fun l => slK l fun c_5 es_5 => (D F.aWg [.agg [.sl c es,.sl c_1 es_1,.sl c_2 es_2],.agg [.sl c_3 es_3,.sl c_4 es_4,.sl c_5 es_5]] []).bind fun r => fR T.aVQ r.fst fun es => (D F.aUV [.leaf (.sl aS es),.leaf (.sl c6 e6)] []).bind fun r => aM r.fst fun l => cL l fun b => aC (!b) (some (.leaf (.bool false),[])) ((D F.aUm [.leaf (.sl c9 e9),.leaf (.int .i64 1)] []).bind fun r => lF r.snd (aM r.fst fun l => dF .i64 l fun n_2 => aC (decide (n_2 < 0)) (some (.leaf (.bool false),[])) (aC (n_2 != n) (some (.leaf (.bool false),[])) (some (.leaf (.bool true),[]))))))))))) := by revert J; refine id ?_; intro J; kernel_rfl
def wJ (c2 c2_0 : Fl true) (e2_0 : LT) (c2_1 : Fl true) (e2_1 : LT) (c2_2 : Fl true) (e2_2 : LT) (c3 c3_0 : Fl true) (e3_0 : LT) (c3_1 : Fl true) (e3_1 : LT) (c3_2 : Fl true) (e3_2 : LT) (c6 : Fl true) (e6 : LT) (n9 : Nat) (vx9 : List (SV true)) : St true := St.mk [.any,.any,.eptr c2 [.sl c2_0 e2_0,.sl c2_1 e2_1,.sl c2_2 e2_2] 0,.eptr c3 [.sl c3_0 e3_0,.sl c3_1 e3_1,.sl c3_2 e3_2] 0,.any,.any,.leaf (.sl c6 e6),.any,.any,.bsl 9 3 0 n9,.any,.any,.any,.any,.any,.any,.any,.any,.any,.any,.any,.any,.any,.any,.any,.any,.any,.any,.any,.any,.any,.any,.any,.any,.any,.any,.any,.any,.any,.any,.any,.any,.any,.any,.any,.any,.any,.any,.any,.any,.any,.any,.any,.any,.any,.any,.any,.any,.any,.any,.any,.any,.any,.any,.any,.any,.any,.any,.any,.any,.any,.any,.any,.any,.any,.any,.any,.any,.any,.any,.any,.any,.any,.any,.any,.any,.any,.any,.any,.any,.any,.any] [none,none,none,none,none,none,none,none,none,some vx9,none,none,none,none,none,none,none,none,none,none,none,none,none,none,none,none,none,none,none,none,none,none,none,none,none,none,none,none,none,none,none,none,none,none,none,none,none,none,none,none,none,none,none,none,none,none,none,none,none,none,none,none,none,none,none,none,none,none,none,none,none,none,none,none,none,none,none,none,none,none,none,none,none,none,none,none,none,none,none,none,none,none]
theorem aDJ (D : aO true) (J : PT → Ret true) (c2 : Fl true) (c2_0 : Fl true) (e2_0 : LT) (c2_1 : Fl true) (e2_1 : LT) (c2_2 : Fl true) (e2_2 : LT) (c3 : Fl true) (c3_0 : Fl true) (e3_0 : LT) (c3_1 : Fl true) (e3_1 : LT) (c3_2 : Fl true) (e3_2 : LT) (c6 : Fl true) (e6 : LT) (n9 : Nat) (vx9 : List (SV true)) : yX Tryz.prog D Hs F.aUo [] 0 J (way 17,wJ c2 c2_0 e2_0 c2_1 e2_1 c2_2 e2_2 c3 c3_0 e3_0 c3_1 e3_1 c3_2 e3_2 c6 e6 n9 vx9) = aB ([vx9].all fun x => x.all SV.flat) ((D F.aUs [.bsl 0 3 0 n9,.leaf (.int .i64 1)] [vx9]).bind fun r => tK r.snd fun d r_1 => lF r_1 (aM r.fst fun l => dF .i64 l fun n => aB ([d].all fun x => x.all SV.flat) ((D F.aUm [.bsl 0 3 0 n9,.leaf (.int .i64 1)] [d]).bind fun r => tK r.snd fun d r_2 => lF r_2 (aM r.fst fun l => dF .i64 l fun n_1 => aC (decide (n_1 < 0)) (some (.leaf (.bool false),[])) (aC (n_1 != n) (some (.leaf (.bool false),[])) ((D F.aU7 [.agg [.sl c2_0 e2_0,.sl c2_1 e2_1,.sl c2_2 e2_2]] []).bind fun r => dU r.fst fun cs => aB (cs.length == 3) (atK cs 0 fun l => slK l fun c es => atK cs 1 fun l => slK l fun c_1 es_1 => atK cs 2 fun l => slK l fun c_2 es_2 => (D F.aU7 [.agg [.sl c3_0 e3_0,.sl c3_1 e3_1,.sl c3_2 e3_2]] []).bind fun r => dU r.fst fun cs => aB (cs.length == 3) (atK cs 0 fun l => slK l fun c_3 es_3 => atK cs 1 fun l => slK l fun c_4 es_4 => atK cs 2 fun l => slK l fun c_5 es_5 => (D F.aWg [.agg [.sl c es,.sl c_1 es_1,.sl c_2 es_2],.agg [.sl c_3 es_3,.sl c_4 es_4,.sl c_5 es_5]] []).bind fun r => fR T.aVQ r.fst fun es => (D F.aUV [.leaf (.sl aS es),.leaf (.sl c6 e6)] []).bind fun r => aM r.fst fun l => cL l fun b => aC (!b) (some (.leaf (.bool false),[])) (aB ([d].all fun x => x.all SV.flat) ((D F.aUm [.bsl 0 3 0 n9,.leaf (.int .i64 1)] [d]).bind fun r => tK r.snd fun d r_3 => lF r_3 (aM r.fst fun l => dF .i64 l fun n_2 => aC (decide (n_2 < 0)) (some (.leaf (.bool false),[])) (aC (n_2 != n) (some (.leaf (.bool false),[])) (some (.leaf (.bool true),[])))))))))))))) := by revert J; refine id ?_; intro J; kernel_rfl
end Go.Vs
end
section
namespace Go.Vs
open Go Go.RowKit
variable {m : Bool} {P : Program} {N : Env} {s : St m} {tmps : Array Value} {w w' : World} {F : Fr} {Ow : Own} {bm : Nat → Nat}
end Go.Vs
end
section
set_option linter.unusedVariables false
set_option linter.unusedSimpArgs false
namespace Go.Vs
open Go Go.RowKit
variable {m : Bool} {P : Program} {N : Env}
def aMF (t : TypeId) : Code :=
  (Code.region 0 #[{ dst := some 2, op := Op.assign (Operand.const (Value.slice none 0 0)), type := t, pos := "slices.go:355", after := #[], guard := none }] false).seq
    (((Code.region 1 #[{ dst := some 3, op := Op.move (Operand.tmp 0), type := t, pos := "slices.go:357", after := #[], guard := none },
        { dst := some 4, op := Op.binOp BinOp.eql t (Operand.tmp 3) (Operand.const (Value.slice none 0 0)) t, type := 4, pos := "slices.go:357", after := #[{ on := 0, ground := Ground.data }], guard := none }] false).seq
      (Code.cond (Operand.tmp 4) ((Code.region 2 #[{ dst := some 2, op := Op.assign (Operand.const (Value.slice none 0 0)), type := t, pos := "slices.go:358", after := #[], guard := none }] false).seq Code.ret) Code.skip)).seq
      ((Code.region 3 #[{ dst := some 5, op := Op.buildSlice t 0 #[], type := t, pos := "slices.go:362", after := #[], guard := none },
        { dst := some 6, op := Op.move (Operand.tmp 0), type := t, pos := "slices.go:362", after := #[], guard := none },
        { dst := some 7, op := Op.call { callee := Callee.builtin Builtin.append, args := #[Operand.tmp 5, Operand.tmp 6], argTypes := #[t, t] }, type := t, pos := "slices.go:362", after := #[{ on := 0, ground := Ground.data }, { on := 1, ground := Ground.data }], guard := none },
        { dst := some 2, op := Op.assign (Operand.tmp 7), type := t, pos := "slices.go:362", after := #[{ on := 2, ground := Ground.data }, { on := 2, ground := Ground.chain }, { on := 0, ground := Ground.phase }, { on := 1, ground := Ground.phase }, { on := 2, ground := Ground.phase }], guard := none }] false).seq Code.ret))
theorem aD8 {ops : Array Oper} {Q : Exit → Act → World → Prop} {i : Nat} {rest : List Nat} {a : Act} {w w' : World} {o : Oper} {z : Value} (hops : ops[i]? = some o) (hg : o.guard = none) (hrun : (execOp a.eval o).run P w = .ok (.value z) w')
    (hk : wpOps P ops Q rest (a.put o.dst z) w') : wpOps P ops Q (i :: rest) a w := by
  unfold wpOps
  rw [hops]
  simp only
  rw [if_pos (by simp [Region.wanted, hg])]
  refine .inl ?_
  unfold Oper.wp
  rw [hrun]
  exact hk
def aIl (P : Program) (e : TypeId) (i : TypeInfo) (q : Bool) : List (SV m) → List (List (SV m)) → Option (SV m × List (List (SV m)))
  | [.leaf (.sl _ es)], [] => if es.length * i.bytes ≤ aH ∧ sized i.size es = true then some (SV.mkO q (some e) es, []) else none
  | _, _ => none
theorem aR6 (q : Bool) (eo : Option TypeId) (es : List (List (aA m))) : (SV.mkO q eo es).backOk 0 = true := by cases q <;> rfl
theorem aOG {f : FuncId} {fn : Func} {t e : TypeId} {i : TypeInfo} {z : Value} (hfn : P.funcs[f]? = some fn) (hb : fn.body = some (aMF t)) (hnt : fn.ntmps = 8) (hres : fn.results = #[.tmp 2]) (hnm : (fn.name == "runtime.NumGoroutine") = false)
    {d0 : TypeDesc} (hue : P.underlying e = some d0) (hu : P.underlying t = some (.slice e)) (hi : P.info? e = some i) (hz : i.zero = some z) (hzs : oN P e = true) (h0 : 0 < i.size) (hby : 0 < i.bytes) (q : Bool) :
    ∀ (args : List (SV m)) (boxes : List (List (SV m))) (r : SV m × List (List (SV m))), aIl P e i q args boxes = some r → args.all SV.handed = true → (∀ c ∈ boxes, ∀ x ∈ c, x.flat = true) →
      r.2.length = boxes.length ∧ r.1.backOk boxes.length = true ∧ (∀ cs ∈ r.2, ∀ c ∈ cs, c.flat = true) ∧ (∃ fn, P.funcs[f]? = some fn ∧ (fn.name == "runtime.NumGoroutine") = false ∧ fn.body.isNone = false) ∧
      ∀ (w : World) (F : Fr) (Ow : Own) (bm : Nat → Nat) (vals : Array Value), Inv P { tmps := args, boxes := boxes.map some } vals w F N Ow bm →
        Calls P f vals w fun e w' => ∃ v F' Ow', e = .returned v ∧ Inv P { tmps := [r.1], boxes := r.2.map some } #[v] w' F' N Ow' bm ∧ Far N w F Ow w' F' Ow' := by
  intro args boxes r hr hh hf
  unfold aIl at hr
  split at hr
  · rename_i c es
    split at hr
    · rename_i hcnd
      obtain ⟨hmax, hsz⟩ := hcnd
      simp only [Option.some.injEq] at hr
      subst hr
      refine ⟨rfl, aR6 q _ _, fun cs hcs => by simp at hcs, ⟨fn, hfn, hnm, by rw [hb]; rfl⟩, fun w F Ow bm vals h => ?_⟩
      have hlen := h.len
      have hs0 := h.slot 0
      have hL : dT w F N (.sl c es) (vals.getD 0 undef) := by simpa [aW, dC] using hs0
      obtain ⟨v, rfl⟩ : ∃ v, vals = #[v] := by
        have hl1 : vals.size = 1 := hlen.symm
        refine ⟨vals[0], ?_⟩
        apply Array.ext
        · simp [hl1]
        · intro j h1 h2
          have : j = 0 := by omega
          subst this
          simp
      have hL : dT w F N (.sl c es) v := by simpa using hL
      obtain ⟨A, cap, z', vs, rfl, hcap, hez, hvl, hcell, hrr⟩ := aEA hL
      have hno : ∀ (t : Nat) (s : St m), s.tmps.length ≤ t → ¬ s.holds (.tmp t) := fun t s ht => by
        show ¬ jA (s.tmps.getD t .any) = true
        rw [List.getD_eq_getElem?_getD, List.getElem?_eq_none ht]
        simp [jA]
      have done : ∀ (a : Act) (w' : World) (v' : Value) (F' : Fr) (Ow' : Own), a.defers = [] → a.tmps.getD 2 undef = v' → lI P w' F' N Ow' (.tmp 0) q (some e) es v' → Low N w' F' → (∀ g, w'.heap.size ≤ g → F' g = 0 ∧ Ow' g = none) → (∀ g, N.Z g = true → Ow' g = none ∧ ∃ cur e, w'.heap[g]? = some (.cells cur e (0, 0))) → Far N w F Ow w' F' Ow' →
          bodyPost P fn (fun e_1 w' => ∃ v F' Ow', e_1 = .returned v ∧ Inv P { tmps := [SV.mkO q (some e) es], boxes := ([] : List (List (SV m))).map some } #[v] w' F' N Ow' bm ∧ Far N w F Ow w' F' Ow') .ret a w' := by
        intro a w' v' F' Ow' hd hv hO hlow hnew hzow hfar
        refine ⟨hd, v', ?_, v', F', Ow', rfl, ⟨rfl, fun t => ?_, fun b cs hc => by simp [bA] at hc, hlow, hnew, fun b cs hc => by simp [bA] at hc, hzow⟩, hfar⟩
        · rw [aLb, hres]
          simp [yG, hv]
        · cases t with
          | zero => cases q <;> exact hO
          | succ t => simp only [List.getD_cons_succ, List.getD_nil]; exact aW.any
      refine calls_of_wp hfn hb ?_
      rw [hnt]
      unfold aMF
      refine wp_seq (wp_region ?_)
      refine aD8 (z := .slice none 0 0) (w' := w) rfl rfl (by simp [Act.eval, Act.put, execOp]) ?_
      refine wp_seq (wp_seq (wp_region ?_))
      refine aD8 (z := .slice A es.length cap) (w' := w) rfl rfl (by simp [Act.eval, Act.put, execOp]) ?_
      refine aD8 (z := .bool A.isNone) (w' := w) rfl rfl ?_ ?_
      · have := run_eql_slice_nil (P := P) w t e A es.length cap hu
        simp [Act.eval, Act.put, execOp, eqGuard, this]
      cases A with
      | none =>
        have hes : es = [] := by
          rcases Nat.eq_zero_or_pos es.length with h' | h'
          · exact List.eq_nil_of_length_eq_zero h'
          · obtain ⟨_, _, h'', _⟩ := hcell h'; simp at h''
        subst hes
        refine wp_cond_true (by simp [Act.eval, Act.put]) (wp_seq (wp_region ?_))
        refine aD8 (z := .slice none 0 0) (w' := w) rfl rfl (by simp [Act.eval, Act.put, execOp]) ?_
        refine wp_ret ?_
        exact done _ w (.slice none 0 0) F (fun g => none) rfl (by simp [Act.put]) (.inl ⟨rfl, rfl⟩) h.low (fun g hg => ⟨(h.new g hg).1, rfl⟩) (fun g hg => ⟨rfl, (h.zow g hg).2⟩) ⟨rfl, rfl, rfl, Nat.le_refl _, eC.refl _ _, fun g _ _ => ⟨fun _ => rfl, rfl, rfl⟩⟩
      | some ad =>
        refine wp_cond_false (by simp [Act.eval, Act.put]) (wp_skip ?_)
        refine wp_seq (wp_region ?_)
        obtain ⟨z1, w1, e1, i1, es1, hrun1, hv1, hi1, hp1, G1⟩ := aB9 (m := m) (P := P) (N := N) (F := F) (w := w) (t := t) (n := 0) (ps := []) (qs := #[]) (v := .own (some e) []) (h.new _ (Nat.le_refl _)).1 (by
          have hel : pB P t = some e := by unfold pB; rw [hu]
          have hdd : ∃ d, P.underlying e = some d := ⟨d0, hue⟩
          obtain ⟨d, hd⟩ := hdd
          have hsT : dR P e = some i.size := by unfold dR; rw [hd, hi]; rfl
          simp [sP, hel, hsT, hzs, aB, h0, aIL]) .nil
        obtain ⟨rfl, rfl⟩ : e = e1 ∧ es1 = [] := by cases hv1; exact ⟨rfl, rfl⟩
        rw [hi] at hi1
        cases hi1
        obtain ⟨F1, O1, k1, k2, k3⟩ := h.grown (loc := .blk 0) (to := .tmp 1) hi h0 G1 (.inr rfl) h.low.le q (fun _ => (h.new _ (Nat.le_refl _)).1) (aEu (Nat.le_refl _))
        refine aD8 (z := z1) (w' := w1) rfl rfl (by simp [Act.eval, Act.put, execOp, hrun1]) ?_
        refine aD8 (z := .slice (some ad) es.length cap) (w' := w1) rfl rfl (by simp [Act.eval, Act.put, execOp]) ?_
        have hL1 : dT w1 F1 N (.sl c es) (.slice (some ad) es.length cap) := hL.keeps k2.keeps
        obtain ⟨g1, cap1, cur1, hz1⟩ : ∃ g cap1 cur, z1 = .slice (some ⟨g, 0, none⟩) 0 cap1 ∧ True := by
          obtain ⟨cap', cur', vals', hv', _⟩ := G1.row
          exact ⟨_, cap', cur', by simpa using hv', trivial⟩
        have hRow : aQg w1 F1 N es (.slice (some ad) es.length cap) := dT.see hL1
        obtain ⟨v2, w2, hrun2, hcase⟩ := aA5 (ty := t) (fun g hg => (k1.new g hg).1) k1.low.le k3 (by rfl) hRow hu hi hzs h0 hby (aEG hsz) (by simpa using hmax)
        refine aD8 (z := v2) (w' := w2) rfl rfl (by simp [Act.eval, Act.put, execOp, resolve, invoke, builtin, hrun2]) ?_
        refine aD8 (z := v2) (w' := w2) rfl rfl (by simp [Act.eval, Act.put, execOp]) ?_
        refine wp_ret ?_
        rcases hcase with ⟨rfl, hnil, rfl⟩ | ⟨g, G2, hN, hg, hqF, hbs⟩
        · have hnil' : es = [] := by simpa using hnil
          subst hnil'
          exact done _ w2 (.slice none 0 0) F1 (fun g => none) rfl (by simp [Act.put]) (.inl ⟨rfl, rfl⟩) k1.low (fun g hg => ⟨(k1.new g hg).1, rfl⟩) (fun g hg => ⟨rfl, (k1.zow g hg).2⟩) ⟨k2.os, k2.tape, k2.output, k2.size, k2.keeps, fun g hg ho => ⟨(k2.old g hg ho).1, (k2.old g hg ho).2.1, rfl⟩⟩
        · obtain ⟨F2, O2, q1, q2, q3⟩ := k1.grown (loc := .tmp 1) (to := .tmp 0) hi h0 G2 (hg.imp (fun x => ⟨x.1, hno 1 _ (by simp)⟩) id) hN q hqF hbs
          exact done _ w2 v2 F2 O2 rfl (by simp [Act.put]) (by simpa using q3) q1.low q1.new q1.zow (k2.trans q2)
    · simp at hr
  · simp at hr
end Go.Vs
end
