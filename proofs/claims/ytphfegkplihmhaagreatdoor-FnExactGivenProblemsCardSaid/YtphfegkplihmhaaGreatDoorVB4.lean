/- What the program's functions compute, read off their text by the shadow runner (VsRow, VsRe, VsLift, VsPhase, VsTurn, VsLaw, VsCmb, VsStruct, VsDat, NSt, NL, VsTold); no condition. -/
import Derived.ChangeArms
import Derived.DataReads
import Derived.Below
import Derived.Test.YtphfegkplihmhaaGreatDoorRows
import Derived.Test.YtphfegkplihmhaaGreatDoorVB3
section
namespace Go.Vs
variable {m : Bool} {P : Program} {N : Env} {H : Type} {enc : TypeId × Value → H}
def zC (p : TypeId → List (aC m) → Prop) : List TypeId → List (aC m) → Prop
  | [], ls => ls = []
  | t :: ts, ls => ∃ a b, ls = a ++ b ∧ p t a ∧ zC p ts b
def fB (P : Program) (c : Fl m) : Nat → TypeId → List (aC m) → Prop
  | 0, _, _ => False
  | n + 1, t, ls => match P.underlying t with
    | some .bool => ∃ b, ls = [.bool b]
    | some (.int k) => ∃ z, ls = [.int k z] ∧ (Lit.int k z).wf = true
    | some .string => ∃ s : ByteArray, ls = [.str s] ∧ s.size ≤ maxLen
    | some (.slice e) => ∃ es, ls = [.sl c es] ∧ es.length ≤ maxLen ∧ ∀ x ∈ es, fB P c n e x
    | some (.struct fs) => zC (fB P c n) (fs.toList.map Field.type) ls
    | _ => False
def aTc (P : Program) (S : List TypeId) : Nat → List Field → Nat → Bool
  | o, [], z => o == z
  | o, f :: fs, z => f.offset == o && S.contains f.type && aTc P S (o + P.cellsOf f.type) fs z
def aVG (P : Program) (S : List TypeId) (t : TypeId) : Bool := match P.underlying t with
  | some .bool | some (.int _) | some .string => true
  | some (.slice e) => S.contains e && decide (0 < P.cellsOf e)
  | some (.struct fs) => aTc P S 0 fs.toList (P.cellsOf t)
  | _ => false
def rA (w : World) : Fr := fun g => match w.heap[g]? with | some (.cells c _ _) => c.size | _ => 0
theorem aEc {w : World} {g j : Nat} {v : Value} (h : w.cell? ⟨g, j, none⟩ = some v) : j < rA w g := by
  unfold World.cell? at h
  unfold rA
  simp only at h
  split at h
  · rename_i c e fr hc
    simp only [hc]
    exact (List.getElem?_eq_some_iff.1 (by simpa using h)).1
  · simp at h
theorem aSm {w : World} {base : Nat} {a : Addr} {n : Nat} {cs : List Value} (h : w.cells? base a n = some cs) : cs.length = n ∧ ∀ j v, cs[j]? = some v → w.cell? (a.add j) = some v := by
  unfold World.cells? at h
  split at h
  · refine ⟨by simpa using mapM_some_length h, fun j v hj => ?_⟩
    have hlen : cs.length = n := by simpa using mapM_some_length h
    have hj' : j < n := by rw [← hlen]; exact (List.getElem?_eq_some_iff.1 hj).1
    have := mapM_some_get h j j (by simp [hj'])
    rw [this, hj]
  · simp at h
theorem aUk {w : World} {F : Fr} {base : Nat} {sp : Nat → Bool} {held : Bool} {c : Fl m} {S : List TypeId} {n : Nat}
    (ih : ∀ t cs x, t ∈ S → DataW.trod enc P w base sp held n t cs = some x → ∃ ls : List (aC m), cU w F N ls cs ∧ fB P c n t ls) (cs : List Value) :
    ∀ (fs : List Field) (o : Nat), aTc P S o fs cs.length = true → (∀ f ∈ fs, ∃ x, DataW.trod enc P w base sp held n f.type ((cs.drop f.offset).take (P.cellsOf f.type)) = some x) →
      ∃ ls : List (aC m), cU w F N ls (cs.drop o) ∧ zC (fB P c n) (fs.map Field.type) ls
  | [], o, h, _ => by
    simp only [aTc, beq_iff_eq] at h
    refine ⟨[], ?_, rfl⟩
    rw [List.drop_of_length_le (by omega)]
    exact cU.nil _ _ _
  | f :: fs, o, h, hx => by
    simp only [aTc, Bool.and_eq_true, beq_iff_eq, List.contains_iff_mem] at h
    obtain ⟨⟨ho, hS⟩, h⟩ := h
    obtain ⟨x, hx0⟩ := hx f (by simp)
    obtain ⟨a, ha, sa⟩ := ih _ _ _ hS hx0
    obtain ⟨b, hb, sb⟩ := aUk ih cs fs _ h fun g hg => hx g (by simp [hg])
    refine ⟨a ++ b, ?_, a, b, rfl, sa, sb⟩
    have := ha.append hb
    rw [ho] at this
    rwa [← List.drop_drop, List.take_append_drop] at this
theorem aJc {w : World} {F : Fr} {base : Nat} {sp : Nat → Bool} {held : Bool} {c : Fl m} (hc1 : ∀ g o, c.Holds N w g o) (hc2 : c.isSoft = false) (hF : ∀ g j v, w.cell? ⟨g, j, none⟩ = some v → j < F g) (hZ : ∀ g, N.Z g = false)
    {S : List TypeId} (hS : S.all (aVG P S) = true) : ∀ (fuel : Nat) (t : TypeId) (cs : List Value) (x : DataW H × List MemPlace), t ∈ S → DataW.trod enc P w base sp held fuel t cs = some x → ∃ ls : List (aC m), cU w F N ls cs ∧ fB P c fuel t ls
  | 0, t, cs, x, _, h => by simp [DataW.trod] at h
  | n + 1, t, cs, x, ht, h => by
    have ih := aJc (c := c) hc1 hc2 hF hZ hS n (w := w) (base := base) (sp := sp) (held := held)
    have hok := List.all_eq_true.1 hS t ht
    unfold aVG at hok
    split at hok
    · rename_i hu
      obtain ⟨b, rfl, _⟩ := DataW.trod_bool hu h
      exact ⟨[.bool b], cU.cons (.bool b) (cU.nil _ _ _), by unfold fB; simp only [hu]; exact ⟨b, rfl⟩⟩
    · rename_i k hu
      obtain ⟨z, rfl, _, hw⟩ := DataW.trod_int hu h
      exact ⟨[.int k z], cU.cons (.int k z) (cU.nil _ _ _), by unfold fB; simp only [hu]; exact ⟨z, rfl, hw⟩⟩
    · rename_i hu
      obtain ⟨s, rfl, _, hs⟩ := DataW.trod_string hu h
      exact ⟨[.str s], cU.cons (.str s) (cU.nil _ _ _), by unfold fB; simp only [hu]; exact ⟨s, rfl, hs⟩⟩
    · rename_i e hu
      have hs : ∀ ls : List (aC m), fB P c (n + 1) t ls ↔ ∃ es, ls = [.sl c es] ∧ es.length ≤ maxLen ∧ ∀ x ∈ es, fB P c n e x := fun ls => by
        conv => lhs; unfold fB
        simp only [hu]
      simp only [hs]
      simp only [Bool.and_eq_true, List.contains_iff_mem, decide_eq_true_eq] at hok
      obtain ⟨heS, hz⟩ := hok
      rcases DataW.trod_slice hu h with ⟨rfl, _⟩ | ⟨a, len, cap, elems, rest, n', hn, rfl, _, _, hlc, hcm, hel, hget, _, _⟩
      · exact ⟨[.sl c []], cU.cons (nC (es := []) (z := 0) (vals := []) (Nat.le_refl _) (by simp) (fun h => by simp at h) (cU.nil _ _ _)) (cU.nil _ _ _), [], rfl, by simp, by simp⟩
      · obtain rfl : n' = n := by omega
        have rows : ∀ k, k ≤ len → ∃ (es : List (List (aC m))) (vals : List Value), es.length = k ∧ (∀ x ∈ es, x.length = P.cellsOf e) ∧ (∀ j v, vals[j]? = some v → w.cell? (a.add j) = some v) ∧ cU w F N es.flatten vals ∧ vals.length = k * P.cellsOf e ∧ ∀ x ∈ es, fB P c n' e x := by
          intro k
          induction k with
          | zero => intro _; exact ⟨[], [], rfl, by simp, by simp, cU.nil _ _ _, by simp, by simp⟩
          | succ k ihk =>
            intro hk
            obtain ⟨es, vals, h1, h2, h3, h4, h5, h6⟩ := ihk (by omega)
            have hg := hget k (by omega)
            have : k < elems.length := by omega
            rw [List.getElem?_eq_getElem this, Option.bind_eq_some_iff] at hg
            obtain ⟨ck, hck, htk⟩ := hg
            obtain ⟨ls, hls, hsh⟩ := ih _ _ _ heS htk
            obtain ⟨hcl, hcc⟩ := aSm hck
            refine ⟨es ++ [ls], vals ++ ck, by simp [h1], ?_, ?_, by simpa using h4.append hls, by rw [List.length_append, h5, hcl, Nat.add_mul]; omega, ?_⟩
            · intro x hx
              rcases List.mem_append.1 hx with hx | hx
              · exact h2 x hx
              · obtain rfl : x = ls := by simpa using hx
                rw [← hls.1, hcl]
            · intro j v hj
              rw [List.getElem?_append] at hj
              split at hj
              · exact h3 j v hj
              · rename_i hge
                have := hcc _ _ hj
                rw [← this]
                congr 1
                have e1 : k * P.cellsOf e + (j - vals.length) = j := by omega
                unfold Addr.add
                by_cases hk0 : k * P.cellsOf e = 0
                · simp only [hk0, if_true]
                  rw [show j - vals.length = j by omega]
                · by_cases hj0 : j - vals.length = 0
                  · simp only [hk0, if_false, hj0, if_true]
                    rw [if_neg (by omega)]
                    congr 1; omega
                  · simp only [hk0, if_false, hj0]
                    rw [if_neg (by omega)]
                    simp only [Addr.mk.injEq, and_true, true_and]; omega
            · intro x hx
              rcases List.mem_append.1 hx with hx | hx
              · exact h6 x hx
              · obtain rfl : x = ls := by simpa using hx
                exact hsh
        obtain ⟨es, vals, h1, h2, h3, h4, h5, h6⟩ := rows len (Nat.le_refl _)
        refine ⟨[.sl c es], cU.cons ?_ (cU.nil _ _ _), es, rfl, by omega, h6⟩
        subst h1
        refine nC hlc h2 (fun hpos => ?_) h4
        have hv0 : 0 < vals.length := by rw [h5]; exact Nat.mul_pos hpos hz
        obtain ⟨g, o, spot⟩ := a
        have hc0 := h3 0 _ (List.getElem?_eq_getElem hv0)
        have hsp : spot = none := by
          cases spot with
          | none => rfl
          | some s =>
            exfalso
            simp only [Addr.add, if_true, World.cell?] at hc0
            split at hc0 <;> simp at hc0
        subst hsp
        have hcell : ∀ j v, vals[j]? = some v → w.cell? ⟨g, o + j, none⟩ = some v := fun j v hj => by
          have := h3 j v hj
          unfold Addr.add at this
          split at this
          · rename_i hj0; rw [hj0]; exact this
          · exact this
        have hlast := hF _ _ _ (hcell (vals.length - 1) _ (List.getElem?_eq_getElem (by omega)))
        exact ⟨g, o, rfl, ⟨hv0, hc1 _ _⟩, by omega, ⟨fun h => by rw [hc2] at h; simp at h, fun h => by rw [hZ] at h; simp at h⟩, hcell⟩
    · rename_i fs hu
      have hs : ∀ ls : List (aC m), fB P c (n + 1) t ls ↔ zC (fB P c n) (fs.toList.map Field.type) ls := fun ls => by
        conv => lhs; unfold fB
        simp only [hu]
      simp only [hs]
      obtain ⟨xs, n', hn, _, hl, hlen, hf⟩ := DataW.trod_struct hu h
      obtain rfl : n' = n := by omega
      rw [← hl] at hok
      have := aUk (c := c) ih cs fs.toList 0 hok fun f hfm => by
        obtain ⟨i, hi, rfl⟩ := List.getElem_of_mem hfm
        have hi' : i < fs.size := by simpa using hi
        have := hf i fs[i] (Array.getElem?_eq_getElem hi')
        rw [List.getElem?_eq_getElem (by omega)] at this
        exact ⟨_, by simpa using this⟩
      simpa using this
    · simp at hok
end Go.Vs
namespace Go.Vs
variable {m : Bool} {P : Program}
abbrev xU := List ((Nat × Nat) × Value)
def KOk (W : World) (K : xU) : Prop := ∀ k ∈ K, k.1.2 < rA W k.1.1 ∧ W.cell? ⟨k.1.1, k.1.2, none⟩ = some k.2
theorem KOk.nil {W : World} : KOk W [] := fun _ h => by cases h
theorem KOk.lt {W : World} {K : xU} (h : KOk W K) : ∀ k ∈ K, k.1.1 < W.heap.size := fun k hk => Nat.lt_of_not_le fun hn => by
  have := (h k hk).1
  unfold rA at this
  rw [Array.getElem?_eq_none hn] at this
  simp at this
def N0 (W : World) (K : xU := []) (B : List (Nat × Nat) := []) : Env := { n := W.heap.size, Z := fun _ => false, lt := fun g h => by simp at h, K := K, B := B }
theorem KOk.lowB {W : World} {K : xU} {B : List (Nat × Nat)} (h : KOk W K) (hB : ∀ p ∈ B, BSz W p.1 p.2) : Low (N0 W K B) W (rA W) := ⟨Nat.le_refl _, fun k hk => ⟨(h k hk).1, rfl, (h k hk).2⟩, hB⟩
theorem KOk.low {W : World} {K : xU} (h : KOk W K) : Low (N0 W K) W (rA W) := h.lowB (fun _ h => by cases h)
theorem aSv {K : xU} {B : List (Nat × Nat)} {W : World} {D : bK m} (hD : lS P (N0 W K B) D) {f : FuncId} {args : List (SV m)} {r : SV m} (h : D f args [] = some (r, [])) (hh : args.all SV.handed = true) {vals : Array Value} (hl : args.length = vals.size)
    (hr : ∀ j a v, args[j]? = some a → vals[j]? = some v → aR P W (rA W) (N0 W K B) (fun _ => none) (fun _ => W.heap.size) (fun _ => false) (.tmp j) a v) (hK : KOk W K := by exact KOk.nil) (hB : ∀ p ∈ B, BSz W p.1 p.2 := by exact fun _ h => by cases h) :
    Calls P f vals W fun e w' => ∃ v F' Ow' bm al, e = .returned v ∧ aR P w' F' (N0 W K B) Ow' bm al (.tmp 0) r v ∧ Go.RowKit.Below W.heap.size W w' := by
  obtain ⟨_, _, _, _, hc⟩ := hD f args [] (r, []) h hh (by simp)
  refine (hc W (rA W) (fun _ => none) (fun _ => W.heap.size) vals ⟨hl, fun t => ?_, fun b cs hb => ?_, hK.lowB hB, fun g hg => ⟨?_, rfl⟩, fun b cs hb => ?_, fun g hg => ?_⟩).mono fun e w' ⟨v, F', Ow', he, hi, hf⟩ => ?_
  · by_cases ht : t < args.length
    · have := hr t _ _ (List.getElem?_eq_getElem ht) (Array.getElem?_eq_getElem (by omega))
      simp only [List.getD, List.getElem?_eq_getElem ht, Option.getD_some, Array.getD, show t < vals.size by omega, dif_pos]
      exact this.keeps (eN.refl _ _) (fun b hb => by simp at hb) (fun g hg => by simp at hg)
    · simp only [List.getD, List.getElem?_eq_none (Nat.not_lt.1 ht), Option.getD_none]
      exact trivial
  · simp [aW] at hb
  · unfold rA
    rw [Array.getElem?_eq_none hg]
  · simp [aW] at hb
  · simp [N0] at hg
  · refine ⟨v, F', Ow', _, _, he, hi.slot 0, hf.os, hf.tape, hf.output, hf.size, fun k hk => (hf.old k hk rfl).1 rfl⟩
end Go.Vs
end
section
namespace Go.Vs
variable {m m' : Bool} {P : Program}
mutual
def reF (φ : Fl m → Fl m') : aC m → aC m'
  | .bool b => .bool b
  | .int k n => .int k n
  | .str s => .str s
  | .unk => .unk
  | .nl e => .nl e
  | .sl c es => .sl (φ c) (reE φ es)
def reL (φ : Fl m → Fl m') : List (aC m) → List (aC m')
  | [] => []
  | l :: r => reF φ l :: reL φ r
def reE (φ : Fl m → Fl m') : List (List (aC m)) → List (List (aC m'))
  | [] => []
  | e :: r => reL φ e :: reE φ r
end
variable {φ : Fl m → Fl m'}
theorem xE : ∀ l : List (aC m), reL φ l = l.map (reF φ)
  | [] => rfl
  | l :: r => by rw [reL, List.map_cons, xE r]
theorem aBg : ∀ l : List (List (aC m)), reE φ l = l.map (reL φ)
  | [] => rfl
  | l :: r => by rw [reE, List.map_cons, aBg r]
theorem aCC (l : List (aC m)) : (reL φ l).length = l.length := by rw [xE, List.length_map]
theorem bX (l : List (List (aC m))) : (reE φ l).length = l.length := by rw [aBg, List.length_map]
theorem aBf : ∀ l : List (List (aC m)), (reE φ l).flatten = reL φ l.flatten
  | [] => rfl
  | e :: r => by rw [reE, List.flatten_cons, List.flatten_cons, aBf r, xE, xE, xE, List.map_append]
theorem aTk (l : aC m) : (reF φ l).soft = l.soft := by cases l <;> rfl
def aT9 (φ : Fl m → Fl m') (w : World) (F : Fr) (N : Env) (F' : Fr) (N' : Env) : Prop :=
  ∀ (c : Fl m) (g o : Nat), g < w.heap.size → c.Holds N w g o → (φ c).Holds N' w g o ∧ F g ≤ F' g ∧ ((c.isSoft = true → N.Z g = true) → (φ c).isSoft = true → N'.Z g = true) ∧ (N'.Z g = true → N.Z g = true)
theorem aPd {w : World} {g j : Nat} {v : Value} (h : w.cell? ⟨g, j, none⟩ = some v) : g < w.heap.size := by
  unfold World.cell? at h
  simp only at h
  split at h
  · rename_i c e fr hc
    exact (Array.getElem?_eq_some_iff.1 hc).1
  · simp at h
theorem eB.re {w : World} {F F' : Fr} {N N' : Env} (hok : aT9 φ w F N F' N') {l : aC m} {v : Value} (h : eB w F N l v) : eB w F' N' (reF φ l) v := by
  induction h with
  | bool b => exact .bool b
  | int k n => exact .int k n
  | str s => exact .str s
  | unk v h => exact .unk v h
  | nl e => exact .nl e
  | sl c es A cap z vals hc hz hv hcell hr ih =>
    rw [show reF φ (.sl c es) = .sl (φ c) (reE φ es) by rw [reF]]
    have hl : (reE φ es).length = es.length := bX es
    rw [← hl]
    refine .sl (φ c) (reE φ es) A cap z vals (by rw [hl]; exact hc) (fun e he => ?_) (by rw [hl]; exact hv) (fun hpos => ?_) (fun j l v h1 h2 => ?_)
    · rw [aBg] at he
      obtain ⟨e0, he0, rfl⟩ := List.mem_map.1 he
      rw [aCC]; exact hz e0 he0
    · rw [hl] at hpos
      obtain ⟨g, o, e, ⟨hv0, hn⟩, hle, hso, hcl⟩ := hcell hpos
      obtain ⟨h1, h2, h3, h4⟩ := hok c g o (aPd (hcl 0 _ (List.getElem?_eq_getElem hv0))) hn
      refine ⟨g, o, e, ⟨hv0, h1⟩, Nat.le_trans hle h2, ⟨fun hs => h3 hso.1 hs, fun hz' l hl' => ?_⟩, hcl⟩
      rw [aBf, xE] at hl'
      obtain ⟨l0, hl0, rfl⟩ := List.mem_map.1 hl'
      rw [aTk]
      exact hso.2 (h4 hz') l0 hl0
    · rw [aBf, xE, List.getElem?_map, Option.map_eq_some_iff] at h1
      obtain ⟨l0, hl0, rfl⟩ := h1
      exact ih j l0 v hl0 h2
theorem cU.re {w : World} {F F' : Fr} {N N' : Env} (hok : aT9 φ w F N F' N') {ls : List (aC m)} {vs : List Value} (h : cU w F N ls vs) : cU w F' N' (reL φ ls) vs := by
  refine ⟨by rw [aCC, h.1], fun j l v h1 h2 => ?_⟩
  rw [xE, List.getElem?_map, Option.map_eq_some_iff] at h1
  obtain ⟨l0, hl0, rfl⟩ := h1
  exact (h.2 j l0 v hl0 h2).re hok
theorem aHY {w : World} {F : Fr} {N : Env} (hφ : ∀ c g o, (φ c).Holds N w g o) (hs : ∀ c, (φ c).isSoft = false) : aT9 φ w F N F N :=
  fun c g o _ _ => ⟨hφ c g o, Nat.le_refl _, fun _ h => by rw [hs] at h; simp at h, id⟩
theorem aQt (c : Fl false) {N : Env} {w : World} {g o : Nat} : c.Holds N w g o := by cases c; trivial
theorem aN4 {N : Env} {w : World} {g o : Nat} : Fl.Holds (m := true) qA.old N w g o := trivial
end Go.Vs
end
section
namespace Go.Vs
variable {m m' : Bool} {P : Program}
mutual
def reS (φ : Fl m → Fl m') : SV m → SV m'
  | .any => .any
  | .skip => .skip
  | .leaf l => .leaf (reF φ l)
  | .own e es => .own e (reE φ es)
  | .raw e es => .raw e (reE φ es)
  | .agg cs => .agg (reL φ cs)
  | .ptr b o => .ptr b o
  | .eptr _ _ _ => .any
  | .kfn f cs => .kfn f cs
  | .bsl b z lo n => .bsl b z lo n
  | .nilptr => .nilptr
  | .nilface => .nilface
  | .fn f caps => .fn f (aSA φ caps)
  | .tup vs => .tup (aSA φ vs)
def aSA (φ : Fl m → Fl m') : List (SV m) → List (SV m')
  | [] => []
  | v :: r => reS φ v :: aSA φ r
end
variable {φ : Fl m → Fl m'}
theorem aCn : ∀ l : List (SV m), aSA φ l = l.map (reS φ)
  | [] => rfl
  | l :: r => by rw [aSA, List.map_cons, aCn r]
theorem aI0 (x : SV m) (h : x.flat = true) : (reS φ x).flat = true := by cases x <;> first | rfl | simp [SV.flat] at h
theorem aSO (x : SV m) (h : x.flatT = true) : (reS φ x).flatT = true := by
  cases x with
  | tup vs =>
    rw [reS, aCn]
    simp only [SV.flatT, List.all_map] at h ⊢
    exact List.all_eq_true.2 fun v hv => aI0 v (List.all_eq_true.1 h v hv)
  | _ => first | rfl | simp [SV.flatT, SV.flat] at h
theorem aTd {n : Nat} (x : SV m) (h : x.backOk n = true) : (reS φ x).backOk n = true := by
  rcases aDb h with ⟨b, z, lo, k, rfl, hlt⟩ | h'
  · exact h
  · have := aSO (φ := φ) x h'
    cases x <;> first | exact this | simp [SV.flatT, SV.flat] at h'
theorem aRe (x : SV m) (h : x.handed = true) : (reS φ x).handed = true := by
  cases x with
  | fn f caps =>
    rw [reS, aCn]
    simp only [SV.handed, List.all_map] at h ⊢
    refine List.all_eq_true.2 fun v hv => ?_
    have := List.all_eq_true.1 h v hv
    cases v <;> first | rfl | simp at this
  | _ => first | rfl | simp [SV.handed, SV.data] at h
def aRg (φ : Fl m → Fl m') (s : St m) : St m' := { tmps := s.tmps.map (reS φ), boxes := s.boxes.map (Option.map (List.map (reS φ))) }
theorem aMB (bs : gU m) (b : Nat) : aW (bs.map (Option.map (List.map (reS φ)))) b = (aW bs b).map (List.map (reS φ)) := by
  unfold aW
  rw [List.getD_eq_getElem?_getD, List.getD_eq_getElem?_getD, List.getElem?_map]
  cases bs[b]? <;> rfl
section
variable {w : World} {F : Fr} {N : Env} (hok : aT9 φ w F N F N)
include hok
theorem dF.re {bm : Nat → Nat} {al : Nat → Bool} {x : SV m} {v : Value} (h : dF w F N bm al x v) : dF w F N bm al (reS φ x) v := by
  cases x with
  | leaf l => exact eB.re hok h
  | agg cs => obtain ⟨vs, e, hr⟩ := h; exact ⟨vs, e, hr.re hok⟩
  | eptr c e o => trivial
  | own e es => exact absurd h id
  | raw e es => exact absurd h id
  | fn f caps => exact absurd h id
  | tup vs => exact absurd h id
  | _ => exact h
theorem lO.re {Ow : Own} {loc : Loc} {q : Bool} {eo : Option TypeId} {es : List (List (aC m))} {v : Value} (h : lO P w F N Ow loc q eo es v) : lO P w F N Ow loc q eo (reE φ es) v := by
  rcases h with ⟨rfl, rfl⟩ | ⟨g, cap, cur, e, i, vals, hn, he, hi, hz, rfl, hg, hc, hm, hs, hx, ho, hf, ht, hr⟩
  · exact .inl ⟨rfl, rfl⟩
  · refine .inr ⟨g, cap, cur, e, i, vals, hn, he, hi, hz, by rw [bX], hg, by rw [bX]; exact hc, hm, hs, fun x hx' => ?_, ho, by rw [bX]; exact hf, by rw [bX]; exact ht, by rw [aBf]; exact hr.re hok⟩
    rw [aBg] at hx'
    obtain ⟨x0, hx0, rfl⟩ := List.mem_map.1 hx'
    rw [aCC]; exact hx x0 hx0
theorem aR.re {Ow : Own} {bm : Nat → Nat} {al : Nat → Bool} {loc : Loc} {x : SV m} {v : Value} (h : aR P w F N Ow bm al loc x v) : aR P w F N Ow bm al loc (reS φ x) v := by
  have caps : ∀ (cs : List (SV m)) (vs : Array Value), (∀ (j : Nat) (c : SV m) (u : Value), cs[j]? = some c → vs[j]? = some u → dF w F N bm al c u) →
      ∀ (j : Nat) (c : SV m') (u : Value), (aSA φ cs)[j]? = some c → vs[j]? = some u → dF w F N bm al c u := by
    intro cs vs hc j c u h1 h2
    rw [aCn, List.getElem?_map, Option.map_eq_some_iff] at h1
    obtain ⟨c0, h0, rfl⟩ := h1
    exact (hc j c0 u h0 h2).re hok
  cases x with
  | own eo es => exact lO.re hok h
  | raw eo es => exact lO.re hok h
  | fn f cs => obtain ⟨vs, e, hs, hc⟩ := h; exact ⟨vs, e, by rw [hs, aCn, List.length_map], caps cs vs hc⟩
  | tup cs => obtain ⟨vs, e, hs, hc⟩ := h; exact ⟨vs, e, by rw [hs, aCn, List.length_map], caps cs vs hc⟩
  | any => trivial
  | eptr c e o => trivial
  | _ =>
    simp only [aR] at h
    have := dF.re (bm := bm) (al := al) hok h
    simpa only [reS, aR] using this
theorem Inv.re {s : St m} {tmps : Array Value} {Ow : Own} {bm : Nat → Nat} (h : Inv P s tmps w F N Ow bm) : Inv P (aRg φ s) tmps w F N Ow bm := by
  have hal : (fun b => (aW (aRg φ s).boxes b).isSome) = fun b => (aW s.boxes b).isSome := by
    funext b; show (aW (s.boxes.map _) b).isSome = _; rw [aMB]; cases aW s.boxes b <;> rfl
  refine ⟨by show (s.tmps.map _).length = _; rw [List.length_map]; exact h.len, fun t => ?_, fun b cs hb => ?_, h.low, h.new, fun b cs hb => ?_, h.zow⟩
  · rw [hal]
    have := aR.re hok (h.slot t)
    have e : (aRg φ s).tmps.getD t SV.any = reS φ (s.tmps.getD t SV.any) := by
      show (s.tmps.map (reS φ)).getD t SV.any = _
      rw [List.getD_eq_getElem?_getD, List.getD_eq_getElem?_getD, List.getElem?_map]
      cases s.tmps[t]? <;> rfl
    rw [e]; exact this
  · have hb' : (aW s.boxes b).map (List.map (reS φ)) = some cs := by rw [← aMB]; exact hb
    rw [Option.map_eq_some_iff] at hb'
    obtain ⟨cs0, h0, rfl⟩ := hb'
    rcases h.box b cs0 h0 with q0 | ⟨cur, e, g1, g2, g3, g4, g5⟩
    · subst q0; exact .inl rfl
    refine .inr ⟨cur, e, g1, by rw [List.length_map]; exact g2, g3, g4, fun j c u h1 h2 => ?_⟩
    rw [hal]
    rw [List.getElem?_map, Option.map_eq_some_iff] at h1
    obtain ⟨c0, hc0, rfl⟩ := h1
    exact aR.re hok (g5 j c0 u hc0 h2)
  · have hb' : (aW s.boxes b).map (List.map (reS φ)) = some cs := by rw [← aMB]; exact hb
    rw [Option.map_eq_some_iff] at hb'
    obtain ⟨cs0, h0, _⟩ := hb'
    exact h.bmn b cs0 h0
end
abbrev er : Fl true → Fl false := fun _ => ()
abbrev li : Fl false → Fl true := fun _ => qA.old
def lifted (D : bK false) (f : FuncId) (args : List (SV true)) (boxes : List (List (SV true))) : Option (SV true × List (List (SV true))) :=
  (D f (args.map (reS er)) (boxes.map (List.map (reS er)))).map fun r => (reS li r.1, r.2.map (List.map (reS li)))
theorem aO6 {N : Env} {D : bK false} (hD : lS P N D) : lS P N (lifted D) := by
  intro f args boxes r hr hh hf
  unfold lifted at hr
  rw [Option.map_eq_some_iff] at hr
  obtain ⟨r0, hr0, rfl⟩ := hr
  obtain ⟨a1, a2, a3, a4, a5⟩ := hD f _ _ r0 hr0 (by
    rw [List.all_map]
    exact List.all_eq_true.2 fun v hv => aRe v (List.all_eq_true.1 hh v hv)) (fun c hc x hx => by
    obtain ⟨c0, hc0, rfl⟩ := List.mem_map.1 hc
    obtain ⟨x0, hx0, rfl⟩ := List.mem_map.1 hx
    exact aI0 x0 (hf c0 hc0 x0 hx0))
  refine ⟨by rw [List.length_map, a1, List.length_map], aTd _ (by rw [List.length_map] at a2; exact a2), fun cs hcs c hc => ?_, a4, fun w F Ow bm vals h => ?_⟩
  · obtain ⟨c0, hc0, rfl⟩ := List.mem_map.1 hcs
    obtain ⟨x0, hx0, rfl⟩ := List.mem_map.1 hc
    exact aI0 x0 (a3 c0 hc0 x0 hx0)
  · have e : aRg er { tmps := args, boxes := boxes.map some } = { tmps := args.map (reS er), boxes := (boxes.map (List.map (reS er))).map some } := by
      unfold aRg
      simp only [List.map_map]
      rfl
    refine (a5 w F Ow bm vals (e ▸ Inv.re (aHY (fun c g o => aQt _) (fun c => rfl)) h)).mono fun ex w' ⟨v, F', Ow', h1, h2, h3⟩ => ⟨v, F', Ow', h1, ?_, h3⟩
    have e2 : aRg li { tmps := [r0.1], boxes := r0.2.map some } = { tmps := [reS li r0.1], boxes := (r0.2.map (List.map (reS li))).map some } := by
      unfold aRg
      simp only [List.map_map]
      rfl
    exact e2 ▸ Inv.re (aHY (fun c g o => aN4) (fun c => rfl)) h2
def aMu (D : bK false) (aCI : FuncId → Bool) : aLb true := fun f => match aCI f with | true => none | false => some fun a b => lifted D f a b
theorem aPo {N : Env} {D : bK false} (hD : lS P N D) (aCI : FuncId → Bool) : aMn P N (aMu D aCI) := by
  intro f t ht
  unfold aMu at ht
  cases hk : aCI f with
  | true => simp [hk] at ht
  | false =>
    simp only [hk, Option.some.injEq] at ht
    subst ht
    intro g args boxes r hr
    simp only at hr
    split at hr
    · rename_i hg; subst hg; exact aO6 hD g args boxes r hr
    · simp at hr
theorem aSd {D : bK false} {aCI : FuncId → Bool} {H : FuncId → gB} {f : FuncId} (hk : aCI f = false) {a : List (SV true)} {b : List (List (SV true))} {a' : List (SV false)} {b' : List (List (SV false))} {r' : SV false × List (List (SV false))} {r : SV true × List (List (SV true))}
    (h : D f a' b' = some r') (ha : a.map (reS er) = a') (hb : b.map (List.map (reS er)) = b') (hr : (reS li r'.1, r'.2.map (List.map (reS li))) = r) : den P (aMu D aCI) H f a b = some r := by
  subst ha hb hr
  refine aLT (T := aMu D aCI) (t := fun a b => lifted D f a b) (by simp [aMu, hk]) ?_
  simp [lifted, h]
end Go.Vs
end
section
namespace Go.Vs
variable {m : Bool} {P : Program}
def wQ : Code → Bool
  | .seq a b => wQ a && wQ b
  | .cond _ a b => wQ a && wQ b
  | .block _ a => wQ a
  | .loop _ => false
  | _ => true
def kF : Nat → Code → Bool
  | 0, _ => true
  | n + 1, .seq a b => wQ a && kF n b
  | _ + 1, _ => false
abbrev way (n : Nat) : List Nat := List.replicate n 1
section
variable {β : Type} {D : bK m} {H : gB} {nm : List (List Nat)} {J : List Nat × St m → Option β}
theorem oB : ∀ (c : Code) (r : List Nat) (blk : Nat) (s : St m) (k : Out m → Option β), wQ c = true → (∀ q : List Nat, nm.contains (q ++ r).reverse = false) → qZ P D H nm J r blk c s k = eA P D H bA blk c s k
  | .seq a b, r, blk, s, k, hn, hr => by
    simp only [wQ, Bool.and_eq_true] at hn
    have h0 : ∀ q : List Nat, nm.contains (q ++ (0 :: r)).reverse = false := fun q => by have := hr (q ++ [0]); rwa [List.append_assoc] at this
    have h1 : ∀ q : List Nat, nm.contains (q ++ (1 :: r)).reverse = false := fun q => by have := hr (q ++ [1]); rwa [List.append_assoc] at this
    have c0 : nm.contains (0 :: r).reverse = false := h0 []
    have c1 : nm.contains (1 :: r).reverse = false := h1 []
    simp only [qZ, eA, c0, c1, Bool.false_eq_true, if_false]
    rw [oB a _ _ _ _ hn.1 h0]
    congr 1
    funext o
    cases o <;> simp only [aNd]
    exact oB b _ _ _ _ hn.2 h1
  | .cond c a b, r, blk, s, k, hn, hr => by
    simp only [wQ, Bool.and_eq_true] at hn
    have h0 : ∀ q : List Nat, nm.contains (q ++ (0 :: r)).reverse = false := fun q => by have := hr (q ++ [0]); rwa [List.append_assoc] at this
    have h1 : ∀ q : List Nat, nm.contains (q ++ (1 :: r)).reverse = false := fun q => by have := hr (q ++ [1]); rwa [List.append_assoc] at this
    have c0 : nm.contains (0 :: r).reverse = false := h0 []
    have c1 : nm.contains (1 :: r).reverse = false := h1 []
    simp only [qZ, eA, c0, c1, Bool.false_eq_true, if_false, sX]
    congr 1
    funext t
    rw [oB a _ _ _ _ hn.1 h0, oB b _ _ _ _ hn.2 h1]
  | .block id a, r, blk, s, k, hn, hr => by
    simp only [wQ] at hn
    have h0 : ∀ q : List Nat, nm.contains (q ++ (0 :: r)).reverse = false := fun q => by have := hr (q ++ [0]); rwa [List.append_assoc] at this
    have c0 : nm.contains (0 :: r).reverse = false := h0 []
    simp only [qZ, eA, c0, Bool.false_eq_true, if_false]
    exact oB a _ _ _ _ hn h0
  | .loop a, _, _, _, _, hn, _ => by simp [wQ] at hn
  | .skip, _, _, _, _, _, _ => rfl
  | .region .., _, _, _, _, _, _ => rfl
  | .exit _, _, _, _, _, _, _ => rfl
  | .ret, _, _, _, _, _, _ => rfl
  | .rangeFunc .., _, _, _, _, _, _ => rfl
  | .scope _, _, _, _, _, _, _ => rfl
  | .label _, _, _, _, _, _, _ => rfl
  | .goto _, _, _, _, _, _, _ => rfl
  | .refuse _, _, _, _, _, _, _ => rfl
theorem aOn {j : Nat} (q : List Nat) (r : List Nat) : ([way j] : List (List Nat)).contains (q ++ (0 :: r)).reverse = false := by
  rw [Bool.eq_false_iff]
  intro h
  have := List.eq_of_mem_singleton (List.contains_iff_mem.1 h)
  have h0 : (0 : Nat) ∈ (q ++ (0 :: r)).reverse := by simp
  rw [this] at h0
  have := List.eq_of_mem_replicate h0
  omega
theorem aFX (j : Nat) : (way j).reverse = way j := List.reverse_replicate
theorem aO3 (c : Code) : sub c [] = c := by cases c <;> rfl
theorem aFW : ∀ (j : Nat) (c : Code), kF j c = true → gJ 0 c (way j) = 0
  | 0, c, _ => by cases c <;> rfl
  | j + 1, .seq a b, h => by
    simp only [kF, Bool.and_eq_true] at h
    simp only [way, List.replicate_succ, gJ]
    exact aFW j b h.2
theorem aCH {kE : Out m → Option β} : ∀ (j : Nat) (r : List Nat) (c : Code), kF j c = true → zG P D H nm J r 0 c (way j) kE = kE
  | 0, r, c, _ => by cases c <;> rfl
  | j + 1, r, .seq a b, h => by
    simp only [kF, Bool.and_eq_true] at h
    simp only [way, List.replicate_succ, zG]
    exact aCH j _ b h.2
end
section
variable {D : bK m} {H : gB} {nt : Nat} {β : Type}
theorem aFf {N : Env} (hP : P.follows .mixedOrders = true) (hD : lS P N D) (hH : H.nt = nt) {L : Nat} (hL : nt ≤ L) {c : Code} {blk : Nat} {k : Out m → Option β} {y : β} {s : St m} {a : Act} {w : World} {F : Fr} {Ow : Own} {bm : Nat → Nat}
    {Q : Exit → Act → World → Prop} (hc : eA P D H bA blk c s k = some y) (h : Inv P s a.tmps w F N Ow bm) (hl : s.boxes.length = L)
    (hk : ∀ out ex a' w', k out = some y → aBW P N nt L a w F Ow bm out ex a' w' → Q ex a' w') : c.wp P Q a w := by
  have h1 := aNT (P := P) (D := D) (H := H) aRJ c blk s k k y (fun _ h => h) hc
  rw [iU, Option.bind_eq_some_iff] at h1
  obtain ⟨o, ho, hko⟩ := h1
  obtain ⟨n, hn⟩ := aNM (Dn := fun _ => D) (D := D) ⟨fun _ _ _ _ _ _ _ h => h, fun f a b r h => ⟨0, h⟩⟩ c blk s o ho
  refine aMg hP hD hH n L hL c blk some o s a w F Ow bm Q (hn n (Nat.le_refl _)) h hl fun out ex a' w' he hend => ?_
  obtain rfl := Option.some.inj he
  exact hk _ _ _ _ hko hend
theorem aKN {N : Env} (hP : P.follows .mixedOrders = true) (hD : lS P N D) (hH : H.nt = nt) {L : Nat} (hL : nt ≤ L) {J : List Nat × St m → Option β} {k : Out m → Option β} {y : β} {Q : Exit → Act → World → Prop} :
    ∀ (n j : Nat) (c : Code) (s : St m) (a : Act) (w : World) (F : Fr) (Ow : Own) (bm : Nat → Nat), kF (n + 1) c = true → qZ P D H [way (j + (n + 1))] J (way j) 0 c s k = some y → Inv P s a.tmps w F N Ow bm → s.boxes.length = L →
    (∀ out ex a' w', k out = some y → (∀ s', out ≠ .norm s') → aBW P N nt L a w F Ow bm out ex a' w' → Q ex a' w') →
    (∀ s' a' w', J (way (j + (n + 1)), s') = some y → kS P N nt s' a w F Ow bm a' w' → s'.boxes.length = L → (sub c (way (n + 1))).wp P Q a' w') → c.wp P Q a w := by
  intro n
  induction n with
  | zero =>
    intro j c s a w F Ow bm hs hc h hl hk hJ
    cases c with
    | seq x y' =>
      simp only [kF, Bool.and_eq_true] at hs
      have c0 : ([way (j + 1)] : List (List Nat)).contains (0 :: way j).reverse = false := aOn [] (way j)
      have c1 : ([way (j + 1)] : List (List Nat)).contains (1 :: way j).reverse = true := by
        rw [show (1 :: way j) = way (j + 1) from rfl, aFX]; simp
      have e1 : (1 :: way j).reverse = way (j + 1) := by rw [show (1 :: way j) = way (j + 1) from rfl, aFX]
      simp only [qZ, Nat.zero_add, c0, c1, Bool.false_eq_true, if_false, if_true] at hc
      rw [oB x _ _ _ _ hs.1 fun q => aOn q (way j)] at hc
      refine wp_seq (aFf hP hD hH hL hc h hl fun out ex a' w' ho he => ?_)
      cases out <;> cases ex <;> simp only [aBW] at he
      · simp only [aNd, e1] at ho
        have := hJ _ a' w' ho he.1 he.2
        rw [show sub (x.seq y') (way (0 + 1)) = sub y' [] from rfl, aO3] at this
        exact this
      · exact hk _ _ _ _ ho (fun s' h => by cases h) he
      · exact hk _ _ _ _ ho (fun s' h => by cases h) he
    | _ => simp [kF] at hs
  | succ n ih =>
    intro j c s a w F Ow bm hs hc h hl hk hJ
    cases c with
    | seq x y' =>
      rw [kF, Bool.and_eq_true] at hs
      have c0 : ([way (j + (n + 1 + 1))] : List (List Nat)).contains (0 :: way j).reverse = false := aOn [] (way j)
      have c1 : ([way (j + (n + 1 + 1))] : List (List Nat)).contains (1 :: way j).reverse = false := by
        rw [show (1 :: way j) = way (j + 1) from rfl, aFX, Bool.eq_false_iff]
        intro hh
        have := congrArg List.length (List.eq_of_mem_singleton (List.contains_iff_mem.1 hh))
        simp at this
      simp only [qZ, c0, c1, Bool.false_eq_true, if_false] at hc
      rw [oB x _ _ _ _ hs.1 fun q => aOn q (way j)] at hc
      refine wp_seq (aFf hP hD hH hL hc h hl fun out ex a' w' ho he => ?_)
      cases out <;> cases ex <;> simp only [aBW] at he
      · simp only [aNd] at ho
        obtain ⟨hst, hl'⟩ := he
        obtain ⟨F1, O1, b1, h1, htr⟩ := aBW.trans (L := L) hst
        obtain ⟨F2, O2, b2, h2, htr2⟩ := hst.inv
        refine ih (j + 1) y' _ a' w' F2 O2 b2 hs.2 (by rw [show j + 1 + (n + 1) = j + (n + 1 + 1) by omega]; exact ho) h2 hl' (fun out ex a2 w2 ho2 hne he2 => hk out ex a2 w2 ho2 hne ?_) fun s2 a2 w2 hJ2 hst2 hl2 => ?_
        · cases out <;> cases ex <;> simp only [aBW] at he2 ⊢
          · exact ⟨htr2 _ _ _ he2.1, he2.2⟩
          · exact ⟨he2.1, htr2 _ _ _ he2.2.1, he2.2.2⟩
          · exact ⟨htr2 _ _ _ he2.1, he2.2⟩
        · have := hJ s2 a2 w2 (by rw [show j + (n + 1 + 1) = j + 1 + (n + 1) by omega]; exact hJ2) (htr2 _ _ _ hst2) hl2
          exact this
      · exact hk _ _ _ _ ho (fun s' h => by cases h) he
      · exact hk _ _ _ _ ho (fun s' h => by cases h) he
    | _ => simp [kF] at hs
end
end Go.Vs
namespace Go.Vs
variable {m : Bool} {P : Program}
theorem aEM : ∀ (j n : Nat) (c : Code), kF (j + n) c = true → kF j c = true ∧ kF n (sub c (way j)) = true
  | 0, n, c, h => ⟨rfl, by rw [show way 0 = [] from rfl, aO3]; simpa using h⟩
  | j + 1, n, .seq a b, h => by
    rw [show j + 1 + n = (j + n) + 1 by omega, kF, Bool.and_eq_true] at h
    obtain ⟨h1, h2⟩ := aEM j n b h.2
    exact ⟨by rw [kF, h.1, h1]; rfl, h2⟩
  | j + 1, n, .skip, h => by rw [show j + 1 + n = (j + n) + 1 by omega] at h; simp [kF] at h
  | j + 1, n, .region .., h => by rw [show j + 1 + n = (j + n) + 1 by omega] at h; simp [kF] at h
  | j + 1, n, .cond .., h => by rw [show j + 1 + n = (j + n) + 1 by omega] at h; simp [kF] at h
  | j + 1, n, .block .., h => by rw [show j + 1 + n = (j + n) + 1 by omega] at h; simp [kF] at h
  | j + 1, n, .loop _, h => by rw [show j + 1 + n = (j + n) + 1 by omega] at h; simp [kF] at h
  | j + 1, n, .rangeFunc .., h => by rw [show j + 1 + n = (j + n) + 1 by omega] at h; simp [kF] at h
  | j + 1, n, .exit _, h => by rw [show j + 1 + n = (j + n) + 1 by omega] at h; simp [kF] at h
  | j + 1, n, .ret, h => by rw [show j + 1 + n = (j + n) + 1 by omega] at h; simp [kF] at h
  | j + 1, n, .scope _, h => by rw [show j + 1 + n = (j + n) + 1 by omega] at h; simp [kF] at h
  | j + 1, n, .label _, h => by rw [show j + 1 + n = (j + n) + 1 by omega] at h; simp [kF] at h
  | j + 1, n, .goto _, h => by rw [show j + 1 + n = (j + n) + 1 by omega] at h; simp [kF] at h
  | j + 1, n, .refuse _, h => by rw [show j + 1 + n = (j + n) + 1 by omega] at h; simp [kF] at h
theorem aUL : ∀ (j n : Nat) (c : Code), sub c (way (j + n)) = sub (sub c (way j)) (way n) := fun j n c => by
  rw [show way (j + n) = way j ++ way n from (List.replicate_append_replicate (n := j) (m := n) (a := 1)).symm, kJ]
structure lJ (P : Program) (fn : Func) (W : World) (N : Env) (s : St m) (a : Act) (w : World) (F : Fr) (Ow : Own) (bm : Nat → Nat) : Prop where
  inv : Inv P s a.tmps w F N Ow bm
  len : s.boxes.length = fn.ntmps
  defers : a.defers = []
  bel : Go.RowKit.Below W.heap.size W w
  own : ∀ g, g < W.heap.size → Ow g = none
  z : ∀ g, g < W.heap.size → N.Z g = false
abbrev aJy (W : World) : Ending → World → Prop := fun e w' => e = .returned (.bool true) ∧ Go.RowKit.Below W.heap.size W w'
abbrev yes : SV m × List (List (SV m)) := (.leaf (.bool true), [])
section
variable {D : bK m} {H : FuncId → gB} {f : FuncId} {fn : Func} {c0 : Code} {W : World} {N : Env} {s : St m} {a : Act} {w : World} {F : Fr} {Ow : Own} {bm : Nat → Nat}
theorem lJ.step {s' : St m} {a' : Act} {w' : World} (h : lJ P fn W N s a w F Ow bm) (hst : kS P N fn.ntmps s' a w F Ow bm a' w') (hl : s'.boxes.length = fn.ntmps) :
    ∃ F' Ow' bm', lJ P fn W N s' a' w' F' Ow' bm' ∧ Far N w F Ow w' F' Ow' := by
  obtain ⟨F1, O1, b1, k1, k2, k3, k4⟩ := hst
  refine ⟨F1, O1, b1, ⟨k1, hl, k4.trans h.defers, h.bel.trans ⟨k2.os, k2.tape, k2.output, k2.size, fun g hg => ?_⟩, fun g hg => ?_, h.z⟩, k2⟩
  · exact (k2.old g (Nat.lt_of_lt_of_le hg h.bel.size) (h.own g hg)).1 (h.z g hg)
  · exact (k2.old g (Nat.lt_of_lt_of_le hg h.bel.size) (h.own g hg)).2.2
theorem lJ.back {a' : Act} {w' : World} {ex : Exit} {out : Out m} (h : lJ P fn W N s a w F Ow bm) (ho : aOb P fn 0 out = some yes) (he : aBW P N fn.ntmps fn.ntmps a w F Ow bm out ex a' w') : bodyPost P fn (aJy W) ex a' w' := by
  replace ho := aNZ ho
  have fin : ∀ s' : St m, wO P fn 0 s' = some yes → kS P N fn.ntmps s' a w F Ow bm a' w' → s'.boxes.length = fn.ntmps → a'.defers = [] ∧ ∃ v, (results fn a'.tmps).run P w' = .ok v w' ∧ aJy W (.returned v) w' := by
    intro s' hl hst hlen
    obtain ⟨F1, O1, b1, k, _⟩ := h.step hst hlen
    obtain ⟨_, _, _, u, O2, F2, l4, l5, _⟩ := k.inv.leave hl
    refine ⟨k.defers, u, l4, ?_, k.bel⟩
    have := l5.slot 0
    have hv := qU (b := true) (w := w') (F := F2) (N := N) (by simpa [aR, dF] using this)
    rw [hv]
  cases out <;> cases ex <;> simp only [aBW] at he
  · exact fin _ ho he.1 he.2
  · simp [aTR] at ho
  · exact fin _ ho he.1 he.2
variable (hP : P.follows .mixedOrders = true) (hD : lS P N D) (hfn : P.funcs[f]? = some fn) (hc0 : fn.body = some c0)
include hP hD hfn hc0
omit hP hD in
theorem aKc : yO P f = c0 ∧ xZ P f = fn := by
  unfold yO xZ; rw [hfn]; simp [hc0]
theorem aLN {j n : Nat} (hsp : kF (j + (n + 1)) c0 = true) (h : lJ P fn W N s a w F Ow bm) {s1 : St m}
    (hrun : ∀ J : List Nat × St m → Option (SV m × List (List (SV m))), aAx P D H f [way (j + (n + 1))] 0 J (way j, s) = J (way (j + (n + 1)), s1))
    (next : ∀ a' w' F' Ow' bm', lJ P fn W N s1 a' w' F' Ow' bm' → Far N w F Ow w' F' Ow' → (sub c0 (way (j + (n + 1)))).wp P (bodyPost P fn (aJy W)) a' w') :
    (sub c0 (way j)).wp P (bodyPost P fn (aJy W)) a w := by
  classical
  obtain ⟨e1, e2⟩ := aKc hfn hc0
  obtain ⟨hs1, hs2⟩ := aEM j (n + 1) c0 hsp
  have hr := hrun fun x => if x.2 = s1 then some yes else none
  simp only [if_true] at hr
  unfold aAx at hr
  simp only [e1, e2, aFX] at hr
  rw [aCH j [] c0 hs1, aFW j c0 hs1] at hr
  refine aKN (L := fn.ntmps) hP hD rfl (Nat.le_refl _) n j _ s a w F Ow bm hs2 hr h.inv h.len (fun out ex a' w' ho _ he => h.back ho he) fun s' a' w' hJ hst hl => ?_
  have : s' = s1 := by
    by_cases hx : s' = s1
    · exact hx
    · simp [hx] at hJ
  subst this
  obtain ⟨F1, O1, b1, k, kf⟩ := h.step hst hl
  rw [← aUL]
  exact next a' w' F1 O1 b1 k kf
theorem aCX {j n : Nat} (hsp : kF (j + (n + 1)) c0 = true) (h : lJ P fn W N s a w F Ow bm)
    (hrun : ∀ J : List Nat × St m → Option (SV m × List (List (SV m))), aAx P D H f [way (j + (n + 1))] 0 J (way j, s) = some yes) :
    (sub c0 (way j)).wp P (bodyPost P fn (aJy W)) a w := by
  obtain ⟨e1, e2⟩ := aKc hfn hc0
  obtain ⟨hs1, hs2⟩ := aEM j (n + 1) c0 hsp
  have hr := hrun fun x => none
  unfold aAx at hr
  simp only [e1, e2, aFX] at hr
  rw [aCH j [] c0 hs1, aFW j c0 hs1] at hr
  exact aKN (L := fn.ntmps) hP hD rfl (Nat.le_refl _) n j _ s a w F Ow bm hs2 hr h.inv h.len (fun out ex a' w' ho _ he => h.back ho he) fun s' a' w' hJ _ _ => by simp at hJ
theorem aIV {j : Nat} (hsp : kF j c0 = true) (hnl : wQ (sub c0 (way j)) = true) (h : lJ P fn W N s a w F Ow bm)
    (hrun : ∀ J : List Nat × St m → Option (SV m × List (List (SV m))), aAx P D H f [] 0 J (way j, s) = some yes) :
    (sub c0 (way j)).wp P (bodyPost P fn (aJy W)) a w := by
  obtain ⟨e1, e2⟩ := aKc hfn hc0
  have hr := hrun fun x => none
  unfold aAx at hr
  simp only [e1, e2, aFX] at hr
  rw [aCH j [] c0 hsp, aFW j c0 hsp, oB _ _ _ _ _ hnl (fun q => by simp)] at hr
  exact aFf (L := fn.ntmps) hP hD rfl (Nat.le_refl _) hr h.inv h.len fun out ex a' w' ho he => h.back ho he
end
end Go.Vs
end
section
namespace Go.Vs
variable {P : Program}
mutual
def tuF (φ : Fl true → Fl true) (σ : Fl true → Bool) : Bool → aC true → aC true
  | i, .bool b => if i then .unk else .bool b
  | i, .int k n => if i then .unk else .int k n
  | i, .str s => if i then .unk else .str s
  | _, .unk => .unk
  | i, .nl e => if i then .sl fW [] else .nl e
  | _, .sl c es => .sl (if σ c then fW else φ c) (tuE φ σ (σ c) es)
def tuL (φ : Fl true → Fl true) (σ : Fl true → Bool) : Bool → List (aC true) → List (aC true)
  | _, [] => []
  | i, l :: r => tuF φ σ i l :: tuL φ σ i r
def tuE (φ : Fl true → Fl true) (σ : Fl true → Bool) : Bool → List (List (aC true)) → List (List (aC true))
  | _, [] => []
  | i, e :: r => tuL φ σ i e :: tuE φ σ i r
end
variable {φ : Fl true → Fl true} {σ : Fl true → Bool}
theorem aAX (i : Bool) : ∀ l : List (aC true), tuL φ σ i l = l.map (tuF φ σ i)
  | [] => by rw [tuL]; rfl
  | l :: r => by rw [tuL, List.map_cons, aAX i r]
theorem aPk (i : Bool) : ∀ l : List (List (aC true)), tuE φ σ i l = l.map (tuL φ σ i)
  | [] => by rw [tuE]; rfl
  | l :: r => by rw [tuE, List.map_cons, aPk i r]
theorem aCF (i : Bool) (l : List (aC true)) : (tuL φ σ i l).length = l.length := by rw [aAX, List.length_map]
theorem aQ6 (i : Bool) (l : List (List (aC true))) : (tuE φ σ i l).length = l.length := by rw [aPk, List.length_map]
theorem aFE (i : Bool) : ∀ l : List (List (aC true)), (tuE φ σ i l).flatten = tuL φ σ i l.flatten
  | [] => by rw [tuE]; rfl
  | e :: r => by rw [tuE, List.flatten_cons, List.flatten_cons, aFE i r, aAX, aAX, aAX, List.map_append]
theorem aTM (l : aC true) : (tuF φ σ true l).soft = true := by cases l <;> rfl
mutual
def aGi (p : Fl true → Bool) : aC true → Bool
  | .sl c es => p c && aMZ p es
  | _ => true
def aCO (p : Fl true → Bool) : List (aC true) → Bool
  | [] => true
  | l :: r => aGi p l && aCO p r
def aMZ (p : Fl true → Bool) : List (List (aC true)) → Bool
  | [] => true
  | e :: r => aCO p e && aMZ p r
end
mutual
theorem aN8 : ∀ l : aC true, aGi (fun _ => true) l = true
  | .sl c es => by rw [aGi, aJI es]; rfl
  | .bool _ | .int _ _ | .str _ | .unk | .nl _ => by simp [aGi]
theorem aKf : ∀ l : List (aC true), aCO (fun _ => true) l = true
  | [] => by rw [aCO]
  | l :: r => by rw [aCO, aN8 l, aKf r]; rfl
theorem aJI : ∀ l : List (List (aC true)), aMZ (fun _ => true) l = true
  | [] => by rw [aMZ]
  | l :: r => by rw [aMZ, aKf l, aJI r]; rfl
end
mutual
theorem aU1 {m : Bool} {p : Fl true → Bool} {c : Fl true} (h : p c = true) : ∀ l : aC m, aGi p (reF (fun _ => c) l) = true
  | .sl _ es => by rw [reF, aGi, h, aBd h es]; rfl
  | .bool _ | .int _ _ | .str _ | .unk | .nl _ => by simp [reF, aGi]
theorem aRV {m : Bool} {p : Fl true → Bool} {c : Fl true} (h : p c = true) : ∀ l : List (aC m), aCO p (reL (fun _ => c) l) = true
  | [] => by rw [reL, aCO]
  | l :: r => by rw [reL, aCO, aU1 h l, aRV h r]; rfl
theorem aBd {m : Bool} {p : Fl true → Bool} {c : Fl true} (h : p c = true) : ∀ l : List (List (aC m)), aMZ p (reE (fun _ => c) l) = true
  | [] => by rw [reE, aMZ]
  | l :: r => by rw [reE, aMZ, aRV h l, aBd h r]; rfl
end
theorem aNa {p : Fl true → Bool} : ∀ {l : List (aC true)}, aCO p l = true → ∀ x ∈ l, aGi p x = true
  | y :: r, h, x, hx => by
    rw [aCO, Bool.and_eq_true] at h
    rcases List.mem_cons.1 hx with rfl | hx
    · exact h.1
    · exact aNa h.2 x hx
theorem aPn {p : Fl true → Bool} : ∀ {l : List (List (aC true))}, aMZ p l = true → ∀ x ∈ l.flatten, aGi p x = true
  | e :: r, h, x, hx => by
    rw [aMZ, Bool.and_eq_true] at h
    rw [List.flatten_cons] at hx
    rcases List.mem_append.1 hx with hx | hx
    · exact aNa h.1 x hx
    · exact aPn h.2 x hx
abbrev fl (c : Fl true) : Fl false → Fl true := fun _ => c
mutual
def soF : aC false → aC true
  | .bool _ => .unk
  | .int _ _ => .unk
  | .str _ => .unk
  | .unk => .unk
  | .nl _ => .sl fW []
  | .sl _ es => .sl fW (soE es)
def soL : List (aC false) → List (aC true)
  | [] => []
  | l :: r => soF l :: soL r
def soE : List (List (aC false)) → List (List (aC true))
  | [] => []
  | e :: r => soL e :: soE r
end
mutual
theorem aVw {c : Fl true} (h : σ c = false) : ∀ l : aC false, tuF φ σ false (reF (fl c) l) = reF (fl (φ c)) l
  | .sl _ es => by rw [reF, tuF, h, aE0 h es, reF]; rfl
  | .bool _ | .int _ _ | .str _ | .unk | .nl _ => by simp [reF, tuF]
theorem aTC {c : Fl true} (h : σ c = false) : ∀ l : List (aC false), tuL φ σ false (reL (fl c) l) = reL (fl (φ c)) l
  | [] => by rw [reL, tuL, reL]
  | l :: r => by rw [reL, tuL, aVw h l, aTC h r, reL]
theorem aE0 {c : Fl true} (h : σ c = false) : ∀ l : List (List (aC false)), tuE φ σ false (reE (fl c) l) = reE (fl (φ c)) l
  | [] => by rw [reE, tuE, reE]
  | l :: r => by rw [reE, tuE, aTC h l, aE0 h r, reE]
end
mutual
theorem aVM {c : Fl true} (h : σ c = true) : ∀ l : aC false, tuF φ σ true (reF (fl c) l) = soF l
  | .sl _ es => by rw [reF, tuF, h, aQ7 h es, soF]; rfl
  | .bool _ | .int _ _ | .str _ | .unk | .nl _ => by simp [reF, tuF, soF]
theorem aTW {c : Fl true} (h : σ c = true) : ∀ l : List (aC false), tuL φ σ true (reL (fl c) l) = soL l
  | [] => by rw [reL, tuL, soL]
  | l :: r => by rw [reL, tuL, aVM h l, aTW h r, soL]
theorem aQ7 {c : Fl true} (h : σ c = true) : ∀ l : List (List (aC false)), tuE φ σ true (reE (fl c) l) = soE l
  | [] => by rw [reE, tuE, soE]
  | l :: r => by rw [reE, tuE, aTW h l, aQ7 h r, soE]
end
mutual
def saL : List (aC false) → List (aC true)
  | [] => []
  | l :: r => saF l :: saL r
def saF : aC false → aC true
  | .bool b => .bool b
  | .int k n => .int k n
  | .str s => .str s
  | .unk => .unk
  | .nl e => .nl e
  | .sl _ es => .sl fW (soE es)
end
def aSr (p : Fl true → Bool) (φ : Fl true → Fl true) (σ : Fl true → Bool) (w : World) (F : Fr) (N : Env) (F' : Fr) (N' : Env) : Prop :=
  ∀ (c : Fl true) (g o : Nat), p c = true → g < w.heap.size → 0 < F g → c.Holds N w g o → F g ≤ F' g ∧ ((σ c = true ∧ N'.Z g = true) ∨ (σ c = false ∧ (φ c).Holds N' w g o ∧ (φ c).isSoft = false ∧ N'.Z g = false))
theorem eB.tu {p : Fl true → Bool} {w : World} {F F' : Fr} {N N' : Env} (hok : aSr p φ σ w F N F' N') {l : aC true} {v : Value} (h : eB w F N l v) : aGi p l = true → ∀ i, eB w F' N' (tuF φ σ i l) v := by
  induction h with
  | bool b => intro _ i; cases i <;> simp only [tuF] <;> first | exact .bool b | exact .unk _ rfl
  | int k n => intro _ i; cases i <;> simp only [tuF] <;> first | exact .int k n | exact .unk _ rfl
  | str s => intro _ i; cases i <;> simp only [tuF] <;> first | exact .str s | exact .unk _ rfl
  | unk v h => intro _ i; rw [tuF]; exact .unk v h
  | nl e =>
    intro _ i
    cases i <;> simp only [tuF]
    · exact .nl e
    · exact nC (es := []) (z := 0) (vals := []) (Nat.le_refl _) (by simp) (fun h => by simp at h) (cU.nil _ _ _)
  | sl c es A cap z vals hc hz hv hcell hr ih =>
    intro hp i
    rw [aGi, Bool.and_eq_true] at hp
    rw [tuF]
    have hl : (tuE φ σ (σ c) es).length = es.length := aQ6 _ es
    rw [← hl]
    refine .sl _ _ A cap z vals (by rw [hl]; exact hc) (fun e he => ?_) (by rw [hl]; exact hv) (fun hpos => ?_) (fun j l v h1 h2 => ?_)
    · rw [aPk] at he
      obtain ⟨e0, he0, rfl⟩ := List.mem_map.1 he
      rw [aCF]; exact hz e0 he0
    · rw [hl] at hpos
      obtain ⟨g, o, e, ⟨hv0, hn⟩, hle, hso, hcl⟩ := hcell hpos
      obtain ⟨h1, h2⟩ := hok c g o hp.1 (aPd (hcl 0 _ (List.getElem?_eq_getElem hv0))) (by omega) hn
      rcases h2 with ⟨hs, hZ⟩ | ⟨hs, hH, hS, hZ⟩
      · refine ⟨g, o, e, ⟨hv0, by rw [hs]; trivial⟩, Nat.le_trans hle h1, ⟨fun _ => hZ, fun _ l hl' => ?_⟩, hcl⟩
        rw [aFE, aAX, hs] at hl'
        obtain ⟨l0, _, rfl⟩ := List.mem_map.1 hl'
        exact aTM l0
      · refine ⟨g, o, e, ⟨hv0, by rw [hs]; exact hH⟩, Nat.le_trans hle h1, ⟨fun h => ?_, fun h => by rw [hZ] at h; simp at h⟩, hcl⟩
        rw [hs] at h
        simp only [Bool.false_eq_true, if_false] at h
        rw [hS] at h; simp at h
    · rw [aFE, aAX, List.getElem?_map, Option.map_eq_some_iff] at h1
      obtain ⟨l0, hl0, rfl⟩ := h1
      exact ih j l0 v hl0 h2 (aPn hp.2 l0 (List.mem_of_getElem? hl0)) _
theorem cU.tu {p : Fl true → Bool} {w : World} {F F' : Fr} {N N' : Env} (hok : aSr p φ σ w F N F' N') {ls : List (aC true)} {vs : List Value} (h : cU w F N ls vs) (hp : aCO p ls = true) (i : Bool) : cU w F' N' (tuL φ σ i ls) vs := by
  refine ⟨by rw [aCF, h.1], fun j l v h1 h2 => ?_⟩
  rw [aAX, List.getElem?_map, Option.map_eq_some_iff] at h1
  obtain ⟨l0, hl0, rfl⟩ := h1
  exact eB.tu hok (h.2 j l0 v hl0 h2) (aNa hp l0 (List.mem_of_getElem? hl0)) i
def tuS (φ : Fl true → Fl true) (σ : Fl true → Bool) : SV true → SV true
  | .leaf l => .leaf (tuF φ σ false l)
  | .own _ es => .leaf (tuF φ σ false (.sl (Fl.new true) es))
  | .agg cs => .agg (tuL φ σ false cs)
  | _ => .any
def aHb (p : Fl true → Bool) : SV true → Bool
  | .leaf l => aGi p l
  | .own _ es => p (Fl.new true) && aMZ p es
  | .agg cs => aCO p cs
  | _ => true
theorem aUx {p : Fl true → Bool} {w : World} {F F' : Fr} {N N' : Env} (hok : aSr p φ σ w F N F' N') {Ow Ow' : Own} {bm bm' : Nat → Nat} {al al' : Nat → Bool} {loc loc' : Loc} {x : SV true} {v : Value} (hx : aHb p x = true) (h : aR P w F N Ow bm al loc x v) :
    aR P w F' N' Ow' bm' al' loc' (tuS φ σ x) v := by
  cases x with
  | leaf l => exact aR.leaf (eB.tu hok (show eB w F N l v by simpa [aR, dF] using h) hx false)
  | own e es => exact aR.leaf (eB.tu hok (lO.leaf h) (by rw [aGi]; exact hx) false)
  | agg cs =>
    obtain ⟨vs, e, hr⟩ : ∃ vs, v = .agg vs ∧ cU w F N cs vs.toList := by simpa [aR, dF] using h
    have h2 : ∃ vs, v = .agg vs ∧ cU w F' N' (tuL φ σ false cs) vs.toList := ⟨vs, e, cU.tu hok hr hx false⟩
    simpa [tuS, aR, dF] using h2
  | _ => exact aR.any
abbrev tQ : Fl true := qA.tag 3 false
def aSF : Fl true → Bool := fun c => match c with | qA.tag 3 _ => true | _ => false
def tuB (φ : Fl true → Fl true) (σ : Fl true → Bool) (bs : gU true) : SV true → SV true
  | .ptr b o => match (aW bs b).bind cM with
    | some (l :: ls) => .eptr tQ (tuL φ σ false (l :: ls)) o
    | _ => .any
  | .eptr c e o => if aSF c then .eptr tQ (tuL φ σ false e) o else .any
  | x => tuS φ σ x
def sT (p : Fl true → Bool) (bs : gU true) : SV true → Bool
  | .ptr b _ => match (aW bs b).bind cM with
    | some ls => aCO p ls
    | none => true
  | .eptr c e _ => !(aSF c) || aCO p e
  | x => aHb p x
theorem aTt {bs : gU true} {b : Nat} {o : Nat} {ls : List (aC true)} (h : (aW bs b).bind cM = some ls) (hne : ls ≠ []) : tuB φ σ bs (.ptr b o) = .eptr tQ (tuL φ σ false ls) o := by
  cases ls with
  | nil => exact absurd rfl hne
  | cons l ls => simp only [tuB, h]
theorem aS7 {bs : gU true} {b : Nat} {o : Nat} (h : (aW bs b).bind cM = some []) : tuB φ σ bs (.ptr b o) = .any := by
  simp only [tuB, h]
theorem aTH {bs : gU true} {b : Nat} {o : Nat} (h : (aW bs b).bind cM = none) : tuB φ σ bs (.ptr b o) = .any := by
  simp only [tuB, h]
theorem aPl {p : Fl true → Bool} {bs : gU true} {b : Nat} {o : Nat} {ls : List (aC true)} (h : (aW bs b).bind cM = some ls) : sT p bs (.ptr b o) = aCO p ls := by
  simp only [sT, h]
def aDn (F : Fr) (w : World) : Fr := fun g => max (F g) (rA w g)
theorem qG (F : Fr) (w : World) (g : Nat) : F g ≤ aDn F w g := Nat.le_max_left _ _
theorem aFY {F : Fr} {w : World} {g : Nat} (h : F g = 0) (hg : w.heap.size ≤ g) : aDn F w g = 0 := by
  unfold aDn rA
  rw [h, Array.getElem?_eq_none hg]; rfl
theorem aS5 {F : Fr} {w : World} {g : Nat} {cur : Array Value} {e : TypeId} {k : Nat × Nat} (h : w.heap[g]? = some (.cells cur e k)) : cur.size ≤ aDn F w g := by
  unfold aDn rA
  rw [h]; exact Nat.le_max_right _ _
structure aTf (bs : gU true) (bm : Nat → Nat) (F : Fr) (N : Env) (F' : Fr) (N' : Env) : Prop where
  box : ∀ b cs, aW bs b = some cs → cs ≠ [] → cs.length ≤ F' (bm b) ∧ N'.T 3 (bm b) = true ∧ N'.Z (bm b) = false
  row : ∀ g, N.T 3 g = true → F g ≤ F' g ∧ N'.T 3 g = true ∧ N'.Z g = false
theorem aRG {fn : Func} {W : World} {N N' : Env} {s : St true} {a : Act} {w : World} {F F' : Fr} {Ow : Own} {bm : Nat → Nat} (h : lJ P fn W N s a w F Ow bm) {p : Fl true → Bool} (hok : aSr p φ σ w F N F' N') (hb : aTf s.boxes bm F N F' N') {Ow' : Own} {bm' : Nat → Nat} {al' : Nat → Bool} {loc loc' : Loc} {x : SV true} {v : Value}
    (hx : sT p s.boxes x = true) (hr : aR P w F N Ow bm (fun b => (aW s.boxes b).isSome) loc x v) : aR P w F' N' Ow' bm' al' loc' (tuB φ σ s.boxes x) v := by
  cases x with
  | ptr b o =>
    cases hl : (aW s.boxes b).bind cM with
    | none => rw [aTH hl]; exact aR.any
    | some ls =>
      by_cases hl0 : ls = []
      · subst hl0; rw [aS7 hl]; exact aR.any
      rw [aTt hl hl0]
      rw [aPl hl] at hx
      obtain ⟨cs, hcs, hls⟩ := Option.bind_eq_some_iff.1 hl
      have hne : cs ≠ [] := by rintro rfl; simp [cM] at hls; exact hl0 hls
      have hv : v = .pointer (some ⟨bm b, o, none⟩) ∧ (aW s.boxes b).isSome = true := by simpa only [aR, dF] using hr
      obtain ⟨vals, h0, h1, hrr⟩ : ∃ vals : List Value, vals.length = cs.length ∧ (∀ (j : Nat) (u : Value), vals[j]? = some u → w.cell? ⟨bm b, j, none⟩ = some u) ∧ cU w F N ls vals := by
        rcases h.inv.box b cs hcs with rfl | ⟨cur, et, h1, h2, h3, h4, h5⟩
        · simp [cM] at hls; subst hls; exact ⟨[], rfl, by simp, cU.nil _ _ _⟩
        · have hcl := Array.length_toList (xs := cur)
          refine ⟨cur.toList.take cs.length, by rw [List.length_take]; omega, fun j u hj => ?_, zU (P := P) (Ow := Ow) (bm := bm) (al := fun b => (aW s.boxes b).isSome) cs _ ls (fun j => .box b j) hls (by rw [List.length_take]; omega) fun j c u hc hu => ?_⟩
          · rw [List.getElem?_take] at hj
            split at hj
            · rw [sO h1]; simpa using hj
            · simp at hj
          · rw [List.getElem?_take] at hu
            split at hu
            · exact h5 j c u hc (by simpa using hu)
            · simp at hu
      obtain ⟨q1, q2, q3⟩ := hb.box b cs hcs hne
      have hr2 := cU.tu hok hrr hx false
      have goal : dF (m := true) w F' N' bm' al' (.eptr tQ (tuL φ σ false ls) o) v := by
        refine ⟨bm b, 0, vals, by rw [hv.1, Nat.zero_add], ?_, ⟨q2, fun hz => by rw [q3] at hz; simp at hz⟩, hr2, fun j u hj => ?_⟩
        · have := hrr.1; rw [aCF, Nat.zero_add]; omega
        · rw [Nat.zero_add]; exact h1 j u hj
      simpa only [aR] using goal
  | eptr c e o =>
    cases hte : aSF c with
    | false =>
      rw [show tuB φ σ s.boxes (.eptr c e o) = .any by simp only [tuB, hte]; rfl]
      exact aR.any
    | true =>
      rw [show tuB φ σ s.boxes (.eptr c e o) = .eptr tQ (tuL φ σ false e) o by simp only [tuB, hte]; rfl]
      have hp : aCO p e = true := by simpa [sT, hte] using hx
      obtain ⟨g, q, vals, hz, hle, hso, hrr, hc⟩ : ∃ g q vals, v = .pointer (some ⟨g, q + o, none⟩) ∧ q + e.length ≤ F g ∧ (c.At N g ∧ (N.Z g = true → ∀ l ∈ e, l.soft = true)) ∧ cU w F N e vals ∧ ∀ (j : Nat) (u : Value), vals[j]? = some u → w.cell? ⟨g, q + j, none⟩ = some u := by simpa only [aR, dF] using hr
      have ht : N.T 3 g = true := by
        cases c with
        | tag k f =>
          have hk : k = 3 := by
            rcases k with _ | _ | _ | _ | k <;> first | rfl | cases hte
          subst hk; exact hso.1
        | _ => cases hte
      obtain ⟨q1, q2, q3⟩ := hb.row g ht
      have goal : dF (m := true) w F' N' bm' al' (.eptr tQ (tuL φ σ false e) o) v := by
        refine ⟨g, q, vals, hz, ?_, ⟨q2, fun hz => by rw [q3] at hz; simp at hz⟩, cU.tu hok hrr hp false, hc⟩
        rw [aCF]; omega
      simpa only [aR] using goal
  | _ => first | exact aR.any | (simp only [tuB]; exact aUx hok (by simpa only [sT] using hx) hr)
def tuT (φ : Fl true → Fl true) (σ : Fl true → Bool) (bs : gU true) (ds : List Nat) : Nat → List (SV true) → List (SV true)
  | _, [] => []
  | i, x :: r => (if ds.contains i then .any else tuB φ σ bs x) :: tuT φ σ bs ds (i + 1) r
theorem aC4 {bs : gU true} (ds : List Nat) : ∀ (i : Nat) (l : List (SV true)), (tuT φ σ bs ds i l).length = l.length
  | _, [] => rfl
  | i, x :: r => by rw [tuT, List.length_cons, List.length_cons, aC4 ds (i + 1) r]
theorem aOE {bs : gU true} (ds : List Nat) : ∀ (i : Nat) (l : List (SV true)) (t : Nat), (tuT φ σ bs ds i l).getD t .any = .any ∨ (ds.contains (i + t) = false ∧ (tuT φ σ bs ds i l).getD t .any = tuB φ σ bs (l.getD t .any))
  | i, [], t => by left; simp [tuT]
  | i, x :: r, 0 => by
    cases h : ds.contains i with
    | true => left; simp only [tuT, h, if_true]; rfl
    | false => right; exact ⟨rfl, by simp only [tuT, h]; rfl⟩
  | i, x :: r, t + 1 => by
    have := aOE (bs := bs) ds (i + 1) r t
    rw [show i + 1 + t = i + (t + 1) by omega] at this
    simpa [tuT] using this
def turn (φ : Fl true → Fl true) (σ : Fl true → Bool) (ds : List Nat) (s : St true) : St true := { tmps := tuT φ σ s.boxes ds 0 s.tmps, boxes := s.boxes.map fun _ => none }
def mP (p : Fl true → Bool) (bs : gU true) (ds : List Nat) : Nat → List (SV true) → Bool
  | _, [] => true
  | i, x :: r => (ds.contains i || sT p bs x) && mP p bs ds (i + 1) r
theorem aFL {p : Fl true → Bool} {bs : gU true} (ds : List Nat) : ∀ (i : Nat) (l : List (SV true)) (t : Nat), mP p bs ds i l = true → ds.contains (i + t) = false → sT p bs (l.getD t .any) = true
  | _, [], t, _, _ => by simp [sT, aHb]
  | i, x :: r, 0, h, hd => by
    simp only [mP, Bool.and_eq_true] at h
    rw [Nat.add_zero] at hd
    have := h.1; rw [hd] at this; simpa using this
  | i, x :: r, t + 1, h, hd => by
    simp only [mP, Bool.and_eq_true] at h
    have := aFL ds (i + 1) r t h.2 (by rw [show i + 1 + t = i + (t + 1) by omega]; exact hd)
    simpa using this
theorem aHe (bs : gU true) (b : Nat) : aW (m := true) (bs.map fun _ => none) b = none := by
  unfold aW
  rw [List.getD_eq_getElem?_getD, List.getElem?_map]
  cases bs[b]? <;> rfl
section
variable {fn : Func} {W : World} {N N' : Env} {s : St true} {a : Act} {w : World} {F F' : Fr} {Ow : Own} {bm : Nat → Nat}
theorem lJ.turn (h : lJ P fn W N s a w F Ow bm) (φ : Fl true → Fl true) (σ : Fl true → Bool) (ds : List Nat) (p : Fl true → Bool) (hsl : mP p s.boxes ds 0 s.tmps = true) (hok : aSr p φ σ w F N F' N') (hbx : aTf s.boxes bm F N F' N') (hn : N'.n ≤ w.heap.size) (hF : ∀ g, w.heap.size ≤ g → F' g = 0) (hKK : N'.K = N.K) (hle : ∀ g, F g ≤ F' g) (hKZ : ∀ k ∈ N.K, N'.Z k.1.1 = false)
    (hz : ∀ g, N'.Z g = true → W.heap.size ≤ g ∧ nG w g) (hBB : N'.B = [] := by rfl) : lJ P fn W N' (turn φ σ ds s) a w F' (fun _ => none) (fun _ => w.heap.size) := by
  refine ⟨⟨by show (tuT φ σ s.boxes ds 0 s.tmps).length = _; rw [aC4]; exact h.inv.len, fun t => ?_, fun b cs hb => ?_, ⟨hn, fun k hk => by
    rw [hKK] at hk
    obtain ⟨h1, h2, h3⟩ := h.inv.low.know k hk
    exact ⟨Nat.lt_of_lt_of_le h1 (hle _), hKZ k hk, h3⟩, fun k hk => by rw [hBB] at hk; cases hk⟩, fun g hg => ⟨hF g hg, rfl⟩, fun b cs hb => ?_, fun g hg => ⟨rfl, (hz g hg).2⟩⟩, by show (s.boxes.map _).length = _; rw [List.length_map]; exact h.len, h.defers, h.bel, fun _ _ => rfl, fun g hg => ?_⟩
  · show aR P w F' N' _ _ _ _ ((tuT φ σ s.boxes ds 0 s.tmps).getD t .any) _
    rcases aOE (φ := φ) (σ := σ) ds 0 s.tmps t with h1 | ⟨h0, h1⟩
    · rw [h1]; exact aR.any
    · rw [h1]
      exact aRG h hok hbx (aFL ds 0 s.tmps t hsl h0) (h.inv.slot t)
  · rw [show (Vs.turn φ σ ds s).boxes = s.boxes.map fun _ => none from rfl, aHe] at hb; simp at hb
  · rw [show (Vs.turn φ σ ds s).boxes = s.boxes.map fun _ => none from rfl, aHe] at hb; simp at hb
  · cases hZ : N'.Z g with
    | false => rfl
    | true => have := (hz g hZ).1; omega
def aPx (s : St true) (t z n k : Nat) : St true := { tmps := s.tmps.set t (.bsl t z 0 n), boxes := s.boxes.set t (some (List.replicate k .any)) }
theorem lJ.row (h : lJ P fn W N s a w F Ow bm) (φ : Fl true → Fl true) (ds : List Nat) (p : Fl true → Bool) {t : Nat} (ht : t < s.tmps.length) (ht2 : t < fn.ntmps) {c : Fl true} {es : List (List (aC true))} {z : Nat}
    (hslot : s.tmps.getD t .any = .leaf (.sl c es)) (hpos : 0 < es.length) (hez : ∀ e ∈ es, e.length = z) (hsl : mP p s.boxes ds 0 s.tmps = true)
    (hc : ∀ g o, g < w.heap.size → c.Holds N w g o → o = 0 ∧ nG w g ∧ N'.n ≤ g ∧ W.heap.size ≤ g ∧ ∀ c' o', p c' = true → ¬ c'.Holds N w g o')
    (hp : ∀ c g o, p c = true → c.Holds N w g o → (φ c).Holds N' w g o ∧ (φ c).isSoft = false)
    (hbx : ∀ g, g < w.heap.size → 0 < F g → c.Holds N w g 0 → aTf s.boxes bm F N (fun x => if x = g then 0 else aDn F w x) N') (hZ : ∀ g, N'.Z g = false) (hn : N'.n ≤ w.heap.size) (hKK : N'.K = N.K) (hKw : ∀ k ∈ N.K, k.1.1 < W.heap.size) (hBB : N'.B = [] := by rfl) :
    ∃ k F' Ow' bm', es.length * z ≤ k ∧ lJ P fn W N' (aPx (Vs.turn φ (fun _ => false) ds s) t z es.length k) a w F' Ow' bm' := by
  have hs := h.inv.slot t
  rw [hslot] at hs
  obtain ⟨A, cap, z', vals, hv, hcap, hz', hvl, hcell, hr⟩ := aFT (show eB w F N (.sl c es) (a.tmps.getD t undef) by simpa [aR, dF] using hs)
  obtain ⟨g, o, rfl, ⟨hv0, hH⟩, hle, hso, hcl⟩ := hcell hpos
  have hzz : z' = z := by
    obtain ⟨e, he⟩ : ∃ e, e ∈ es := by cases es with | nil => simp at hpos | cons e r => exact ⟨e, by simp⟩
    rw [← hz' e he, hez e he]
  subst hzz
  have hg := aPd (hcl 0 _ (List.getElem?_eq_getElem hv0))
  obtain ⟨rfl, ⟨cur, et, hcur⟩, hn1, hn2, hne⟩ := hc g o hg hH
  have hk : es.length * z' ≤ cur.size := by
    rw [← hvl]
    have := hcl (vals.length - 1) _ (List.getElem?_eq_getElem (by omega))
    simp only [World.cell?, hcur] at this
    have := (Array.getElem?_eq_some_iff.1 (by simpa using this)).1
    omega
  have hok : aSr p φ (fun _ => false) w F N (fun x => if x = g then 0 else aDn F w x) N' := by
    intro c' g' o' hp' hg' _ hH'
    have hgg : g' ≠ g := fun e => (hne c' o' hp') (e ▸ hH')
    obtain ⟨h1, h2⟩ := hp c' g' o' hp' hH'
    exact ⟨by simp [hgg, qG], .inr ⟨rfl, h1, h2, hZ g'⟩⟩
  have hb : ∀ b cs, aW (aPx (Vs.turn φ (fun _ => false) ds s) t z' es.length cur.size).boxes b = some cs → b = t ∧ cs = List.replicate cur.size .any := by
    intro b cs hb
    have hb' : aW ((s.boxes.map fun _ => none).set t (some (List.replicate cur.size SV.any))) b = some cs := hb
    by_cases hbt : b = t
    · subst hbt
      rw [eS (by rw [List.length_map, h.len]; exact ht2)] at hb'
      exact ⟨rfl, (Option.some.inj hb').symm⟩
    · rw [iW hbt, aHe] at hb'; simp at hb'
  have hal : (aW (aPx (Vs.turn φ (fun _ => false) ds s) t z' es.length cur.size).boxes t).isSome = true := by
    show (aW ((s.boxes.map fun _ => none).set t (some (List.replicate cur.size SV.any))) t).isSome = true
    rw [eS (by rw [List.length_map, h.len]; exact ht2)]; rfl
  refine ⟨cur.size, fun x => if x = g then 0 else aDn F w x, fun x => if x = g then some (.blk t) else none, fun _ => g, hk, ⟨⟨?_, fun u => ?_, fun b cs hbc => ?_, ⟨hn, fun k hk => by
    rw [hKK] at hk
    obtain ⟨h1, h2, h3⟩ := h.inv.low.know k hk
    have hne : k.1.1 ≠ g := fun e => by have := hKw k hk; omega
    exact ⟨by simp only [if_neg hne]; exact Nat.lt_of_lt_of_le h1 (qG F w _), hZ _, h3⟩, fun k hk => by rw [hBB] at hk; cases hk⟩, fun x hx => ?_, fun b cs hbc => hn1, fun x hx => by rw [hZ] at hx; simp at hx⟩, ?_, h.defers, h.bel, fun x hx => ?_, fun x hx => hZ x⟩⟩
  · show ((tuT φ (fun _ => false) s.boxes ds 0 s.tmps).set t _).length = _
    rw [List.length_set, aC4]; exact h.inv.len
  · show aR P w _ N' _ _ _ _ (((tuT φ (fun _ => false) s.boxes ds 0 s.tmps).set t (.bsl t z' 0 es.length)).getD u .any) _
    by_cases hut : u = t
    · subst hut
      rw [List.getD_eq_getElem?_getD, List.getElem?_set_self (by rw [aC4]; exact ht), Option.getD_some, hv]
      simp only [aR, dF]
      exact ⟨.inr ⟨cap, by simp, hcap⟩, hal⟩
    · rw [List.getD_eq_getElem?_getD, List.getElem?_set_ne (fun e => hut e.symm), ← List.getD_eq_getElem?_getD]
      rcases aOE (φ := φ) (σ := fun _ => false) ds 0 s.tmps u with h1 | ⟨h0, h1⟩
      · rw [h1]; exact aR.any
      · rw [h1]
        exact aRG h hok (hbx g hg (by omega) hH) (aFL ds 0 s.tmps u hsl h0) (h.inv.slot u)
  · obtain ⟨rfl, rfl⟩ := hb b cs hbc
    refine .inr ⟨cur, et, hcur, by rw [List.length_replicate]; exact Nat.le_refl _, by simp, by simp, fun j c u h1 _ => ?_⟩
    have : c = .any := by
      rw [List.getElem?_replicate] at h1
      split at h1 <;> simp at h1
      exact h1.symm
    subst this
    exact aR.any
  · have hx' : x ≠ g := fun e => by subst e; omega
    simp [hx', aFY (h.inv.new x hx).1 hx]
  · show ((s.boxes.map _).set t _).length = _
    rw [List.length_set, List.length_map]; exact h.len
  · have : x ≠ g := fun e => by subst e; omega
    simp [this]
end
end Go.Vs
end
section
set_option linter.unusedVariables false
namespace Go.Vs
variable {m : Bool} {P : Program} {f : FuncId} {fn : Func} {c0 : Code}
theorem aVu (hfn : P.funcs[f]? = some fn) (hc0 : fn.body = some c0) {args : List (SV m)} {W : World} {vals : Array Value} {K : xU} (hl : args.length = vals.size) (hh : args.all SV.handed = true)
    (hr : ∀ j a v, args[j]? = some a → vals[j]? = some v → aR P W (rA W) (N0 W K) (fun _ => none) (fun _ => W.heap.size) (fun _ => false) (.tmp j) a v)
    (next : ∀ a : Act, lJ P fn W (N0 W K) (aBm fn args []) a W (rA W) (fun _ => none) (fun _ => W.heap.size) → (sub c0 (way 0)).wp P (bodyPost P fn (aJy W)) a W) (hK : KOk W K := by exact KOk.nil) : Calls P f vals W (aJy W) := by
  refine calls_of_wp hfn hc0 ?_
  have hinv : Inv P { tmps := args, boxes := ([] : List (List (SV m))).map some } vals W (rA W) (N0 W K) (fun _ => none) (fun _ => W.heap.size) := by
    refine ⟨hl, fun t => ?_, fun b cs hb => ?_, hK.low, fun g hg => ⟨?_, rfl⟩, fun b cs hb => ?_, fun g hg => ?_⟩
    · by_cases ht : t < args.length
      · have := hr t _ _ (List.getElem?_eq_getElem ht) (Array.getElem?_eq_getElem (by omega))
        simp only [List.getD, List.getElem?_eq_getElem ht, Option.getD_some, Array.getD, show t < vals.size by omega, dif_pos]
        exact this.keeps (eN.refl _ _) (fun b hb => by simp at hb) (fun g hg => by simp at hg)
      · simp only [List.getD, List.getElem?_eq_none (Nat.not_lt.1 ht), Option.getD_none]
        exact aR.any
    · simp [aW] at hb
    · unfold rA
      rw [Array.getElem?_eq_none hg]
    · simp [aW] at hb
    · simp [N0] at hg
  have h1 := hinv.frame fn hh (by simp)
  have := next { tmps := vals ++ Array.replicate (fn.ntmps - vals.size) undef, defers := [] } ⟨by simpa using h1, by simp [aBm], rfl, Go.RowKit.Below.refl _ _, fun _ _ => rfl, fun _ _ => rfl⟩
  rw [show way 0 = [] from rfl, aO3] at this
  exact this
def N1 (A : Nat) (K : xU := []) : Env := { K := K, n := A, Z := fun _ => false, lt := fun g h => by simp at h, T := fun k g => (k == 0 || k == 3) && decide (g < A) }
def N2 (A B : Nat) (F2 : Fr) (K : xU := []) : Env := { K := K, n := B, Z := fun _ => false, lt := fun g h => by simp at h, T := fun k g => (k == 0 && decide (g < A)) || (k == 1 && decide (A ≤ g ∧ g < B ∧ 0 < F2 g)) || (k == 3 && decide (g < B ∧ ¬ (A ≤ g ∧ 0 < F2 g))) }
open Classical in
noncomputable def N3 (w : World) (A B : Nat) (F2 F3 : Fr) (hB : B ≤ w.heap.size) (K : xU := []) : Env := { K := K, n := w.heap.size, Z := fun g => decide (A ≤ g ∧ g < B ∧ 0 < F2 g ∧ nG w g), lt := fun g h => by have := of_decide_eq_true h; omega, T := fun k g => (k == 0 && decide (g < A)) || (k == 2 && decide (B ≤ g ∧ 0 < F3 g)) || (k == 3 && decide (g < w.heap.size ∧ ¬ (B ≤ g ∧ 0 < F3 g) ∧ ¬ (A ≤ g ∧ g < B ∧ 0 < F2 g))) }
def N4 (A B : Nat) (R : Nat → Bool) (K : xU := []) : Env := { K := K, n := B, Z := fun _ => false, lt := fun g h => by simp at h, T := fun k g => (k == 0 && decide (g < A)) || (k == 3 && R g) }
abbrev tA : Fl true := qA.tag 0 false
abbrev tX : Fl true := qA.tag 1 true
abbrev tG : Fl true := qA.tag 2 true
def φ1 : Fl true → Fl true := fun _ => tA
def φ2 : Fl true → Fl true := fun c => match c with | qA.new => tX | _ => tA
def φ3 : Fl true → Fl true := fun c => match c with | qA.new => tG | _ => tA
def σ3 : Fl true → Bool := fun c => match c with | qA.tag 1 _ => true | _ => false
def φ4 : Fl true → Fl true := fun _ => tA
def p4 : Fl true → Bool := fun c => match c with | qA.tag 0 _ => true | _ => false
def p2 : Fl true → Bool := fun c => match c with | qA.new => true | qA.tag 0 _ => true | _ => false
def p3 : Fl true → Bool := fun c => match c with | qA.new => true | qA.tag 0 _ => true | qA.tag 1 f => f | _ => false
theorem aIC (bs : gU true) (ds : List Nat) : ∀ (i : Nat) (l : List (SV true)), mP (fun _ => true) bs ds i l = true
  | _, [] => rfl
  | i, x :: r => by
    rw [mP, aIC bs ds (i + 1) r]
    cases x <;> simp only [sT, aHb, aN8, aJI, aKf, Bool.or_true, Bool.and_true]
    · split <;> simp
section
variable {W w : World} {N : Env} {s : St true} {a : Act} {F : Fr} {Ow : Own} {bm : Nat → Nat}
theorem lJ.box_lt (h : lJ P fn W N s a w F Ow bm) {b : Nat} {cs : List (SV true)} (hb : aW s.boxes b = some cs) (hne : cs ≠ []) : bm b < w.heap.size ∧ F (bm b) = 0 ∧ N.n ≤ bm b ∧ cs.length ≤ aDn F w (bm b) := by
  obtain ⟨cur, et, h1, h2, h3, _⟩ := (h.inv.box b cs hb).resolve_left hne
  exact ⟨(Array.getElem?_eq_some_iff.1 h1).1, h3, h.inv.bmn b cs hb, Nat.le_trans h2 (aS5 h1)⟩
theorem aVU {K : xU} (h : lJ P fn W N s a w F Ow bm) (hN : ∀ g, N.T 3 g = false) (ds : List Nat) (hNK : N.K = K := by rfl) : lJ P fn W (N1 w.heap.size K) (Vs.turn φ1 (fun _ => false) ds s) a w (aDn F w) (fun _ => none) (fun _ => w.heap.size) :=
  h.turn φ1 (fun _ => false) ds (fun _ => true) (aIC _ _ _ _) (fun c g o _ hg _ _ => ⟨qG F w g, .inr ⟨rfl, ⟨by simp [N1, hg], fun h => by cases h⟩, rfl, rfl⟩⟩)
    ⟨fun b cs hb hne => ⟨(h.box_lt hb hne).2.2.2, by simp [N1, (h.box_lt hb hne).1], rfl⟩, fun g hg => by rw [hN] at hg; cases hg⟩
    (Nat.le_refl _) (fun g hg => aFY (h.inv.new g hg).1 hg) hNK.symm (qG F w) (fun _ _ => rfl) (fun g hg => by simp [N1] at hg)
theorem aVV {K : xU} {A : Nat} (h : lJ P fn W (N1 A K) s a w F Ow bm) (ds : List Nat) (hsl : mP p2 s.boxes ds 0 s.tmps = true) : lJ P fn W (N2 A w.heap.size F K) (Vs.turn φ2 (fun _ => false) ds s) a w (aDn F w) (fun _ => none) (fun _ => w.heap.size) :=
  h.turn φ2 (fun _ => false) ds p2 hsl (fun c g o hc hg hF hH => by
    refine ⟨qG F w g, .inr ⟨rfl, ?_, ?_, rfl⟩⟩
    · cases c with
      | new => obtain ⟨h1, h2, h3⟩ := hH; exact ⟨by simp only [N2]; simp [hg, hF]; exact h1, fun _ => ⟨h2, h3⟩⟩
      | tag k f =>
        rcases k with _ | k
        · exact ⟨by have := hH.1; simp only [N1, N2] at this ⊢; simp at this ⊢; exact this, fun h => by cases h⟩
        · cases (show false = true from hc)
      | _ => cases (show false = true from hc)
    · cases c <;> rfl)
    ⟨fun b cs hb hne => ⟨(h.box_lt hb hne).2.2.2, by simp [N2, h.box_lt hb hne], rfl⟩, fun g hg => by
      have h0 : A ≤ w.heap.size := h.inv.low.le
      simp [N1] at hg
      exact ⟨qG F w g, by simp only [N2]; simp; omega, rfl⟩⟩
    (Nat.le_refl _) (fun g hg => aFY (h.inv.new g hg).1 hg) rfl (qG F w) (fun _ _ => rfl) (fun g hg => by simp [N2] at hg)
open Classical in
theorem aV7 {K : xU} {A B : Nat} {F2 : Fr} (h : lJ P fn W (N2 A B F2 K) s a w F Ow bm) (hA : W.heap.size ≤ A) (hB : B ≤ w.heap.size) (hAB : A ≤ B) (ds : List Nat) (hsl : mP p3 s.boxes ds 0 s.tmps = true) (hK : ∀ k ∈ K, k.1.1 < W.heap.size := by intro _ h; cases h) : lJ P fn W (N3 w A B F2 F hB K) (Vs.turn φ3 σ3 ds s) a w (aDn F w) (fun _ => none) (fun _ => w.heap.size) :=
  h.turn φ3 σ3 ds p3 hsl (fun c g o hc hg hF hH => by
    refine ⟨qG F w g, ?_⟩
    cases c with
    | new =>
      obtain ⟨h1, h2, h3⟩ := hH
      have h1' : B ≤ g := h1
      exact .inr ⟨rfl, ⟨by simp only [N3]; simp [h1', hF], fun _ => ⟨h2, h3⟩⟩, rfl, by simp only [N3]; exact decide_eq_false (fun h => by omega)⟩
    | tag k f =>
      rcases k with _ | _ | k
      · have h0 := hH.1
        simp only [N2] at h0
        simp at h0
        exact .inr ⟨rfl, ⟨by simp only [N3]; simp [h0], fun h => by cases h⟩, rfl, by simp only [N3]; exact decide_eq_false (fun h => by omega)⟩
      · have h0 := hH.1
        simp only [N2] at h0
        simp at h0
        cases f with
        | true => exact .inl ⟨rfl, by simp only [N3]; exact decide_eq_true ⟨h0.1, h0.2.1, h0.2.2, (hH.2 rfl).2⟩⟩
        | false => cases (show false = true from hc)
      · cases (show false = true from hc)
    | _ => cases (show false = true from hc))
    ⟨fun b cs hb hne => by
      obtain ⟨b1, b2, b3, b4⟩ := h.box_lt hb hne
      have b3' : B ≤ bm b := b3
      exact ⟨b4, by simp only [N3]; simp; omega, by simp only [N3]; exact decide_eq_false (fun h => by omega)⟩, fun g hg => by
      simp [N2] at hg
      exact ⟨qG F w g, by simp only [N3]; simp; omega, by simp only [N3]; exact decide_eq_false (fun h => by omega)⟩⟩
    (Nat.le_refl _) (fun g hg => aFY (h.inv.new g hg).1 hg) rfl (qG F w) (fun k hk => by have := hK k hk; simp only [N3]; exact decide_eq_false (fun h => by omega)) (fun g hg => by
      simp only [N3] at hg
      have := of_decide_eq_true hg
      exact ⟨by omega, this.2.2.2⟩)
open Classical in
theorem aVZ {K : xU} {A B : Nat} {w0 : World} {F2 F3 : Fr} {hB0 : B ≤ w0.heap.size} (h : lJ P fn W (N3 w0 A B F2 F3 hB0 K) s a w F Ow bm) (hA : W.heap.size ≤ A) (hB : B ≤ w.heap.size) (hAB : A ≤ B) (ds : List Nat) {t : Nat} (ht : t < s.tmps.length) (ht2 : t < fn.ntmps) {es : List (List (aC true))} {z : Nat}
    (hslot : s.tmps.getD t .any = .leaf (.sl tG es)) (hpos : 0 < es.length) (hez : ∀ e ∈ es, e.length = z) (hsl : mP p4 s.boxes ds 0 s.tmps = true) (hK : ∀ k ∈ K, k.1.1 < W.heap.size := by intro _ h; cases h) :
    ∃ k F' Ow' bm' R, es.length * z ≤ k ∧ lJ P fn W (N4 A B R K) (aPx (Vs.turn φ4 (fun _ => false) ds s) t z es.length k) a w F' Ow' bm' := by
  obtain ⟨k, F', Ow', bm', h1, h2⟩ := h.row (N' := N4 A B (fun g => (N3 w0 A B F2 F3 hB0 K).T 3 g || decide (w0.heap.size ≤ g)) K) φ4 ds p4 ht ht2 hslot hpos hez hsl (fun g o hg hH => by
    have h0 := hH.1
    simp only [N3] at h0
    simp at h0
    refine ⟨(hH.2 rfl).1, (hH.2 rfl).2, h0.1, by omega, fun c' o' hc' hH' => ?_⟩
    cases c' with
    | tag k f =>
      rcases k with _ | k
      · have h1 := hH'.1
        simp only [N3] at h1
        simp at h1
        omega
      · cases (show false = true from hc')
    | _ => cases (show false = true from hc')) (fun c g o hc hH => by
    refine ⟨?_, rfl⟩
    cases c with
    | tag k f =>
      rcases k with _ | k
      · have h1 := hH.1
        simp only [N3] at h1
        simp at h1
        exact ⟨by simp only [N4]; simp [h1], fun h => by cases h⟩
      · cases (show false = true from hc)
    | _ => cases (show false = true from hc)) (fun g hg hF hH => by
    have h0 := hH.1
    simp only [N3] at h0
    simp at h0
    refine ⟨fun b cs hb hne0 => ?_, fun x hx => ?_⟩
    · obtain ⟨b1, b2, b3, b4⟩ := h.box_lt hb hne0
      have b3' : w0.heap.size ≤ bm b := b3
      have hne : bm b ≠ g := fun e => by rw [e] at b2; omega
      exact ⟨by simpa [hne] using b4, by simp only [N4]; simp [b3'], rfl⟩
    · have hx' := hx
      simp only [N3] at hx'
      simp at hx'
      have hne : x ≠ g := fun e => by subst e; omega
      exact ⟨by simp [hne, qG], by simp only [N4]; simp [hx], rfl⟩) (fun _ => rfl) hB rfl hK
  exact ⟨k, F', Ow', bm', _, h1, h2⟩
end
end Go.Vs
end
section
namespace Go.Vs
variable {m : Bool} {β : Type}
abbrev El := List (aC false)
def mQ (e : El) (p : Nat) : List El := match e[p]? with | some (.sl _ es) => es | _ => []
def aK0 (e : El) (p : Nat) : Int := match e[p]? with | some (.int _ n) => n | _ => 0
def aOX (e : El) (p : Nat) : Bool := match e[p]? with | some (.bool b) => b | _ => false
def cR (e : El) (p : Nat) : ByteArray := match e[p]? with | some (.str s) => s | _ => ⟨#[]⟩
theorem bT (b : Bool) : (b == true) = b := by cases b <;> rfl
theorem bF (b : Bool) : (b == false) = !b := by cases b <;> rfl
theorem aAn (b : Bool) (x y : Option β) : aB (!b) x y = aB b y x := by cases b <;> rfl
theorem xP (b : Bool) (x : Option β) : aB b x x = x := by cases b <;> rfl
def oZ (v : SV m) (k : Bool → Option β) : Option β := aM v fun l => dY l k
def aEg (v : SV m) (k : Int → Option β) : Option β := aM v fun l => dG .i64 l k
def aBv (v : SV m) (k : ByteArray → Option β) : Option β := aM v fun l => cE l k
def vSl (v : SV m) (k : List (List (aC m)) → Option β) : Option β := kO v fun _ es => k es
abbrev Ret (m : Bool) := Option (SV m × List (List (SV m)))
abbrev LE := List El
abbrev LT := List (List (aC true))
abbrev PS := List Nat × St false
abbrev PT := List Nat × St true
def fD (r : Ret m) (k : Bool → Option β) : Option β := r.bind fun r => oZ r.1 k
def aCc (r : Ret m) (k : Int → Option β) : Option β := r.bind fun r => aEg r.1 k
def aOO (r : Ret m) (k : ByteArray → Option β) : Option β := r.bind fun r => aBv r.1 k
def rSl (r : Ret m) (k : List (List (aC m)) → Option β) : Option β := r.bind fun r => vSl r.1 k
def aAT (t : TypeId) (r : Ret m) (k : List (List (aC m)) → Option β) : Option β := r.bind fun r => pN t r.1 k
def aVn (r : Ret m) (k : Bool → Option β) : Option β := r.bind fun r => jT r.2 (oZ r.1 k)
def aWe (r : Ret m) (k : Int → Option β) : Option β := r.bind fun r => jT r.2 (aEg r.1 k)
def aHH (r : Ret m) (k : ByteArray → Bool → Option β) : Option β := r.bind fun r => mO r.2 fun d r1 => cY d fun d r2 => aBv d fun s => hM r2 (jT r1 (oZ r.1 fun b => k s b))
def aNJ (r : Ret m) (k : ByteArray → Int → Option β) : Option β := r.bind fun r => mO r.2 fun d r1 => cY d fun d r2 => aBv d fun s => hM r2 (jT r1 (aEg r.1 fun b => k s b))
def aF9 (t : TypeId) (r : Ret m) (k : List (List (aC m)) → Option β) : Option β := r.bind fun r => mO r.2 fun d r1 => cY d fun d r2 => pN t d fun es => hM r2 (jT r1 (lV r.1 fun vs => hM vs (k es)))
def aET (e : List (aC m)) (p : Nat) (k : Bool → Option β) : Option β := atK e p fun l => dY l k
def zW (e : List (aC m)) (p : Nat) (k : Int → Option β) : Option β := atK e p fun l => dG .i64 l k
def dW (e : List (aC m)) (p : Nat) (k : ByteArray → Option β) : Option β := atK e p fun l => cE l k
def aSl (e : List (aC m)) (p : Nat) (k : List (List (aC m)) → Option β) : Option β := atK e p fun l => slK l fun _ es => k es
section
variable {b : Bool} {n : Int} {s : ByteArray} {es : List (List (aC m))} {c : Fl m} {bs : List (List (SV m))} {t : TypeId}
theorem aBO (k : Bool → Option β) : oZ (.leaf (.bool b) : SV m) k = k b := rfl
theorem aRW (k : Int → Option β) : aEg (.leaf (.int .i64 n) : SV m) k = k n := rfl
theorem dO (k : Bool → Option β) : fD (some ((.leaf (.bool b) : SV m), bs)) k = k b := rfl
theorem mN (k : Int → Option β) : aCc (some ((.leaf (.int .i64 n) : SV m), bs)) k = k n := rfl
theorem aCz (k : ByteArray → Option β) : aOO (some ((.leaf (.str s) : SV m), bs)) k = k s := rfl
theorem aVO (k : List (List (aC m)) → Option β) : rSl (some ((.leaf (.sl c es)), bs)) k = k es := rfl
theorem kT (k : List (List (aC m)) → Option β) : aAT t (some ((.own (some t) es), bs)) k = k es := by show pN t (.own (some t) es) k = k es; simp
theorem zX (k : ByteArray → Bool → Option β) : aHH (some ((.leaf (.bool b) : SV m), [[.leaf (.str s)]])) k = k s b := rfl
theorem aE9 (k : ByteArray → Int → Option β) : aNJ (some ((.leaf (.int .i64 n) : SV m), [[.leaf (.str s)]])) k = k s n := rfl
theorem xJ (k : List (List (aC m)) → Option β) : aF9 t (some (.tup [], [[.own (some t) es]])) k = k es := by show pN t (.own (some t) es) _ = k es; simp
section
variable {r : List (aC m)}
theorem aRY (k : Bool → Option β) : aET (.bool b :: r) 0 k = k b := rfl
theorem aTw (k : Int → Option β) : zW (.int .i64 n :: r) 0 k = k n := rfl
theorem aEV (k : ByteArray → Option β) : dW (.str s :: r) 0 k = k s := rfl
theorem aVb (k : List (List (aC m)) → Option β) : aSl (.sl c es :: r) 0 k = k es := rfl
end
theorem pH {l : aC m} {r : List (aC m)} {p : Nat} : (∀ k : Bool → Option β, aET (l :: r) (p + 1) k = aET r p k) ∧ (∀ k : Int → Option β, zW (l :: r) (p + 1) k = zW r p k) ∧ (∀ k : ByteArray → Option β, dW (l :: r) (p + 1) k = dW r p k) ∧
    (∀ k : List (List (aC m)) → Option β, aSl (l :: r) (p + 1) k = aSl r p k) := ⟨fun _ => rfl, fun _ => rfl, fun _ => rfl, fun _ => rfl⟩
end
theorem rdR : (∀ (m : Bool) (β : Type) (b : Bool) (k : Bool → Option β), oZ (.leaf (.bool b) : SV m) k = k b) ∧
    (∀ (m : Bool) (β : Type) (n : Int) (k : Int → Option β), aEg (.leaf (.int .i64 n) : SV m) k = k n) ∧
    (∀ (m : Bool) (β : Type) (s : ByteArray) (k : ByteArray → Option β), aBv (.leaf (.str s) : SV m) k = k s) ∧
    (∀ (m : Bool) (β : Type) (c : Fl m) (es : List (List (aC m))) (k : List (List (aC m)) → Option β), vSl (.leaf (.sl c es)) k = k es) ∧
    (∀ (m : Bool) (β : Type) (b : Bool) (bs : List (List (SV m))) (k : Bool → Option β), fD (some ((.leaf (.bool b) : SV m), bs)) k = k b) ∧
    (∀ (m : Bool) (β : Type) (n : Int) (bs : List (List (SV m))) (k : Int → Option β), aCc (some ((.leaf (.int .i64 n) : SV m), bs)) k = k n) ∧
    (∀ (m : Bool) (β : Type) (s : ByteArray) (bs : List (List (SV m))) (k : ByteArray → Option β), aOO (some ((.leaf (.str s) : SV m), bs)) k = k s) ∧
    (∀ (m : Bool) (β : Type) (c : Fl m) (es : List (List (aC m))) (bs : List (List (SV m))) (k : List (List (aC m)) → Option β), rSl (some ((.leaf (.sl c es)), bs)) k = k es) ∧
    (∀ (m : Bool) (β : Type) (t : TypeId) (es : List (List (aC m))) (bs : List (List (SV m))) (k : List (List (aC m)) → Option β), aAT t (some ((.own (some t) es), bs)) k = k es) ∧
    (∀ (m : Bool) (β : Type) (b : Bool) (k : Bool → Option β), aVn (some ((.leaf (.bool b) : SV m), [])) k = k b) ∧
    (∀ (m : Bool) (β : Type) (n : Int) (k : Int → Option β), aWe (some ((.leaf (.int .i64 n) : SV m), [])) k = k n) ∧
    (∀ (m : Bool) (β : Type) (b : Bool) (s : ByteArray) (k : ByteArray → Bool → Option β), aHH (some ((.leaf (.bool b) : SV m), [[.leaf (.str s)]])) k = k s b) ∧
    (∀ (m : Bool) (β : Type) (n : Int) (s : ByteArray) (k : ByteArray → Int → Option β), aNJ (some ((.leaf (.int .i64 n) : SV m), [[.leaf (.str s)]])) k = k s n) ∧
    (∀ (m : Bool) (β : Type) (t : TypeId) (es : List (List (aC m))) (k : List (List (aC m)) → Option β), aF9 t (some (.tup [], [[.own (some t) es]])) k = k es) ∧
    (∀ (m : Bool) (β : Type) (b : Bool) (r : List (aC m)) (k : Bool → Option β), aET (.bool b :: r) 0 k = k b) ∧
    (∀ (m : Bool) (β : Type) (n : Int) (r : List (aC m)) (k : Int → Option β), zW (.int .i64 n :: r) 0 k = k n) ∧
    (∀ (m : Bool) (β : Type) (s : ByteArray) (r : List (aC m)) (k : ByteArray → Option β), dW (.str s :: r) 0 k = k s) ∧
    (∀ (m : Bool) (β : Type) (c : Fl m) (es : List (List (aC m))) (r : List (aC m)) (k : List (List (aC m)) → Option β), aSl (.sl c es :: r) 0 k = k es) ∧
    (∀ (β : Type) (α : Type) (x : α) (f : α → Option β), (some x).bind f = f x) ∧
    (∀ (m : Bool) (β : Type) (vs : List (SV m)) (k : List (SV m) → Option β), lV (.tup vs) k = k vs) ∧
    (∀ (m : Bool) (β : Type) (v : SV m) (r : List (SV m)) (k : SV m → List (SV m) → Option β), cY (v :: r) k = k v r) ∧
    (∀ (m : Bool) (β : Type) (v : List (SV m)) (r : List (List (SV m))) (k : List (SV m) → List (List (SV m)) → Option β), mO (v :: r) k = k v r) ∧
    (∀ (m : Bool) (β : Type) (k : Option β), hM ([] : List (SV m)) k = k) ∧
    (∀ (m : Bool) (β : Type) (k : Option β), jT ([] : List (List (SV m))) k = k) ∧
    (∀ (m : Bool) (β : Type) (cs : List (aC m)) (k : List (aC m) → Option β), fA (.agg cs) k = k cs) ∧
    (∀ (m : Bool) (β : Type) (e : TypeId) (es : List (List (aC m))) (k : List (List (aC m)) → Option β), pN e (.own (some e) es) k = k es) ∧
    (∀ (β : Type) (x y : Option β), aB true x y = x) ∧
    (∀ (β : Type) (x y : Option β), aB false x y = y) ∧
    (∀ (β : Type) (x : Option β), aA true x = x) :=
  ⟨fun _ _ _ _ => rfl, fun _ _ _ _ => rfl, fun _ _ _ _ => rfl, fun _ _ _ _ _ => rfl, fun _ _ _ _ _ => rfl, fun _ _ _ _ _ => rfl, fun _ _ _ _ _ => rfl, fun _ _ _ _ _ _ => rfl, fun _ _ _ _ _ k => kT k, fun _ _ _ _ => rfl, fun _ _ _ _ => rfl, fun _ _ _ _ _ => rfl, fun _ _ _ _ _ => rfl, fun _ _ _ _ k => xJ k, fun _ _ _ _ _ => rfl, fun _ _ _ _ _ => rfl, fun _ _ _ _ _ => rfl, fun _ _ _ _ _ _ => rfl, fun _ _ _ _ => rfl, fun _ _ _ _ => rfl, fun _ _ _ _ _ => rfl, fun _ _ _ _ _ => rfl, fun _ _ _ => rfl, fun _ _ _ => rfl, fun _ _ _ _ => rfl, fun _ _ => mZ, fun _ _ _ => rfl, fun _ _ _ => rfl, fun _ _ => rfl⟩
theorem inI : (∀ a b : Nat, ((a : Int) < (b : Int)) = (a < b)) ∧ (∀ n : Nat, (0 ≤ (n : Int)) = True) ∧ (∀ n : Nat, ((n : Int)).toNat = n) ∧ decide True = true ∧ (∀ b : Bool, (b && true) = b) ∧ (∀ b : Bool, (true && b) = b) ∧ (∀ (β : Type) (x y : Option β), aB true x y = x) ∧ (∀ (β : Type) (x : Option β), aA true x = x) :=
  ⟨fun _ _ => propext Int.ofNat_lt, fun _ => eq_true (Int.natCast_nonneg _), Int.toNat_natCast, by decide, Bool.and_true, Bool.true_and, fun _ _ _ => rfl, fun _ _ => rfl⟩
end Go.Vs
end
section
namespace Go.Vs
variable {β : Type}
structure eM where
  mk ::
  (a0 a1 : ByteArray)
def eM.l (x : eM) : El := [.str x.a0, .str x.a1]
def eM.b (x : eM) : List (SV false) := [.leaf (.str x.a0), .leaf (.str x.a1)]
def eM.rd (e : El) (k : eM → Option β) : Option β := dW e 0 fun a0 => dW e 1 fun a1 => k ⟨a0, a1⟩
def eM.va (v : SV false) (k : eM → Option β) : Option β := fA v fun e => aA (e.length == 2) (eM.rd e k)
theorem eM.rd_l (x : eM) (k : eM → Option β) : eM.rd x.l k = k x := rfl
theorem eM.va_l (x : eM) (k : eM → Option β) : eM.va (.agg x.l) k = k x := rfl
def eM.of (e : El) : eM := ⟨cR e 0, cR e 1⟩
theorem eM.of_l (x : eM) : eM.of x.l = x := rfl
theorem eM.len (x : eM) : x.l.length = 2 := rfl
structure cG where
  mk ::
  (a0 : Int) (a1 : ByteArray) (a2 a3 : List El)
def cG.l (x : cG) : El := [.int .i64 x.a0, .str x.a1, .sl fP x.a2, .sl fP x.a3]
def cG.b (x : cG) : List (SV false) := [.leaf (.int .i64 x.a0), .leaf (.str x.a1), .leaf (.sl fP x.a2), .leaf (.sl fP x.a3)]
def cG.rd (e : El) (k : cG → Option β) : Option β := zW e 0 fun a0 => dW e 1 fun a1 => aSl e 2 fun a2 => aSl e 3 fun a3 => k ⟨a0, a1, a2, a3⟩
def cG.va (v : SV false) (k : cG → Option β) : Option β := fA v fun e => aA (e.length == 4) (cG.rd e k)
theorem cG.rd_l (x : cG) (k : cG → Option β) : cG.rd x.l k = k x := rfl
theorem cG.va_l (x : cG) (k : cG → Option β) : cG.va (.agg x.l) k = k x := rfl
def cG.of (e : El) : cG := ⟨aK0 e 0, cR e 1, mQ e 2, mQ e 3⟩
theorem cG.of_l (x : cG) : cG.of x.l = x := rfl
theorem cG.len (x : cG) : x.l.length = 4 := rfl
structure dL where
  mk ::
  (a0 : ByteArray) (a1 : Int) (a2 : ByteArray) (a3 a4 : List El)
def dL.l (x : dL) : El := [.str x.a0, .int .i64 x.a1, .str x.a2, .sl fP x.a3, .sl fP x.a4]
def dL.b (x : dL) : List (SV false) := [.leaf (.str x.a0), .leaf (.int .i64 x.a1), .leaf (.str x.a2), .leaf (.sl fP x.a3), .leaf (.sl fP x.a4)]
def dL.rd (e : El) (k : dL → Option β) : Option β := dW e 0 fun a0 => zW e 1 fun a1 => dW e 2 fun a2 => aSl e 3 fun a3 => aSl e 4 fun a4 => k ⟨a0, a1, a2, a3, a4⟩
def dL.va (v : SV false) (k : dL → Option β) : Option β := fA v fun e => aA (e.length == 5) (dL.rd e k)
theorem dL.rd_l (x : dL) (k : dL → Option β) : dL.rd x.l k = k x := rfl
theorem dL.va_l (x : dL) (k : dL → Option β) : dL.va (.agg x.l) k = k x := rfl
def dL.of (e : El) : dL := ⟨cR e 0, aK0 e 1, cR e 2, mQ e 3, mQ e 4⟩
theorem dL.of_l (x : dL) : dL.of x.l = x := rfl
theorem dL.len (x : dL) : x.l.length = 5 := rfl
structure pF where
  mk ::
  (a0 : ByteArray) (a1 : List El)
def pF.l (x : pF) : El := [.str x.a0, .sl fP x.a1]
def pF.b (x : pF) : List (SV false) := [.leaf (.str x.a0), .leaf (.sl fP x.a1)]
def pF.rd (e : El) (k : pF → Option β) : Option β := dW e 0 fun a0 => aSl e 1 fun a1 => k ⟨a0, a1⟩
def pF.va (v : SV false) (k : pF → Option β) : Option β := fA v fun e => aA (e.length == 2) (pF.rd e k)
theorem pF.rd_l (x : pF) (k : pF → Option β) : pF.rd x.l k = k x := rfl
theorem pF.va_l (x : pF) (k : pF → Option β) : pF.va (.agg x.l) k = k x := rfl
def pF.of (e : El) : pF := ⟨cR e 0, mQ e 1⟩
theorem pF.of_l (x : pF) : pF.of x.l = x := rfl
theorem pF.len (x : pF) : x.l.length = 2 := rfl
structure bV where
  mk ::
  (a0 a1 a2 a3 : ByteArray) (a4 : Bool) (a5 : Int) (a6 : ByteArray) (a7 a8 a9 : List El)
def bV.l (x : bV) : El := [.str x.a0, .str x.a1, .str x.a2, .str x.a3, .bool x.a4, .int .i64 x.a5, .str x.a6, .sl fP x.a7, .sl fP x.a8, .sl fP x.a9]
def bV.b (x : bV) : List (SV false) := [.leaf (.str x.a0), .leaf (.str x.a1), .leaf (.str x.a2), .leaf (.str x.a3), .leaf (.bool x.a4), .leaf (.int .i64 x.a5), .leaf (.str x.a6), .leaf (.sl fP x.a7), .leaf (.sl fP x.a8), .leaf (.sl fP x.a9)]
def bV.rd (e : El) (k : bV → Option β) : Option β := dW e 0 fun a0 => dW e 1 fun a1 => dW e 2 fun a2 => dW e 3 fun a3 => aET e 4 fun a4 => zW e 5 fun a5 => dW e 6 fun a6 => aSl e 7 fun a7 => aSl e 8 fun a8 => aSl e 9 fun a9 => k ⟨a0, a1, a2, a3, a4, a5, a6, a7, a8, a9⟩
def bV.va (v : SV false) (k : bV → Option β) : Option β := fA v fun e => aA (e.length == 10) (bV.rd e k)
theorem bV.rd_l (x : bV) (k : bV → Option β) : bV.rd x.l k = k x := rfl
theorem bV.va_l (x : bV) (k : bV → Option β) : bV.va (.agg x.l) k = k x := rfl
def bV.of (e : El) : bV := ⟨cR e 0, cR e 1, cR e 2, cR e 3, aOX e 4, aK0 e 5, cR e 6, mQ e 7, mQ e 8, mQ e 9⟩
theorem bV.of_l (x : bV) : bV.of x.l = x := rfl
theorem bV.len (x : bV) : x.l.length = 10 := rfl
structure bS where
  mk ::
  (a0 a1 : ByteArray) (a2 : List El) (a3 a4 : ByteArray) (a5 : List El)
def bS.l (x : bS) : El := [.str x.a0, .str x.a1, .sl fP x.a2, .str x.a3, .str x.a4, .sl fP x.a5]
def bS.b (x : bS) : List (SV false) := [.leaf (.str x.a0), .leaf (.str x.a1), .leaf (.sl fP x.a2), .leaf (.str x.a3), .leaf (.str x.a4), .leaf (.sl fP x.a5)]
def bS.rd (e : El) (k : bS → Option β) : Option β := dW e 0 fun a0 => dW e 1 fun a1 => aSl e 2 fun a2 => dW e 3 fun a3 => dW e 4 fun a4 => aSl e 5 fun a5 => k ⟨a0, a1, a2, a3, a4, a5⟩
def bS.va (v : SV false) (k : bS → Option β) : Option β := fA v fun e => aA (e.length == 6) (bS.rd e k)
theorem bS.rd_l (x : bS) (k : bS → Option β) : bS.rd x.l k = k x := rfl
theorem bS.va_l (x : bS) (k : bS → Option β) : bS.va (.agg x.l) k = k x := rfl
def bS.of (e : El) : bS := ⟨cR e 0, cR e 1, mQ e 2, cR e 3, cR e 4, mQ e 5⟩
theorem bS.of_l (x : bS) : bS.of x.l = x := rfl
theorem bS.len (x : bS) : x.l.length = 6 := rfl
structure lX where
  mk ::
  (a0 a1 : ByteArray) (a2 : List El)
def lX.l (x : lX) : El := [.str x.a0, .str x.a1, .sl fP x.a2]
def lX.b (x : lX) : List (SV false) := [.leaf (.str x.a0), .leaf (.str x.a1), .leaf (.sl fP x.a2)]
def lX.rd (e : El) (k : lX → Option β) : Option β := dW e 0 fun a0 => dW e 1 fun a1 => aSl e 2 fun a2 => k ⟨a0, a1, a2⟩
def lX.va (v : SV false) (k : lX → Option β) : Option β := fA v fun e => aA (e.length == 3) (lX.rd e k)
theorem lX.rd_l (x : lX) (k : lX → Option β) : lX.rd x.l k = k x := rfl
theorem lX.va_l (x : lX) (k : lX → Option β) : lX.va (.agg x.l) k = k x := rfl
def lX.of (e : El) : lX := ⟨cR e 0, cR e 1, mQ e 2⟩
theorem lX.of_l (x : lX) : lX.of x.l = x := rfl
theorem lX.len (x : lX) : x.l.length = 3 := rfl
structure vO where
  mk ::
  (a0 : Int) (a1 : ByteArray)
def vO.l (x : vO) : El := [.int .i64 x.a0, .str x.a1]
def vO.b (x : vO) : List (SV false) := [.leaf (.int .i64 x.a0), .leaf (.str x.a1)]
def vO.rd (e : El) (k : vO → Option β) : Option β := zW e 0 fun a0 => dW e 1 fun a1 => k ⟨a0, a1⟩
def vO.va (v : SV false) (k : vO → Option β) : Option β := fA v fun e => aA (e.length == 2) (vO.rd e k)
theorem vO.rd_l (x : vO) (k : vO → Option β) : vO.rd x.l k = k x := rfl
theorem vO.va_l (x : vO) (k : vO → Option β) : vO.va (.agg x.l) k = k x := rfl
def vO.of (e : El) : vO := ⟨aK0 e 0, cR e 1⟩
theorem vO.of_l (x : vO) : vO.of x.l = x := rfl
theorem vO.len (x : vO) : x.l.length = 2 := rfl
structure aJ where
  mk ::
  (a0 : Int) (a1 : Bool) (a2 a3 : ByteArray) (a4 a5 a6 a7 a8 : List El) (a9 : Bool) (a10 : List El)
def aJ.l (x : aJ) : El := [.int .i64 x.a0, .bool x.a1, .str x.a2, .str x.a3, .sl fP x.a4, .sl fP x.a5, .sl fP x.a6, .sl fP x.a7, .sl fP x.a8, .bool x.a9, .sl fP x.a10]
def aJ.b (x : aJ) : List (SV false) := [.leaf (.int .i64 x.a0), .leaf (.bool x.a1), .leaf (.str x.a2), .leaf (.str x.a3), .leaf (.sl fP x.a4), .leaf (.sl fP x.a5), .leaf (.sl fP x.a6), .leaf (.sl fP x.a7), .leaf (.sl fP x.a8), .leaf (.bool x.a9), .leaf (.sl fP x.a10)]
def aJ.rd (e : El) (k : aJ → Option β) : Option β := zW e 0 fun a0 => aET e 1 fun a1 => dW e 2 fun a2 => dW e 3 fun a3 => aSl e 4 fun a4 => aSl e 5 fun a5 => aSl e 6 fun a6 => aSl e 7 fun a7 => aSl e 8 fun a8 => aET e 9 fun a9 => aSl e 10 fun a10 => k ⟨a0, a1, a2, a3, a4, a5, a6, a7, a8, a9, a10⟩
def aJ.va (v : SV false) (k : aJ → Option β) : Option β := fA v fun e => aA (e.length == 11) (aJ.rd e k)
theorem aJ.rd_l (x : aJ) (k : aJ → Option β) : aJ.rd x.l k = k x := rfl
theorem aJ.va_l (x : aJ) (k : aJ → Option β) : aJ.va (.agg x.l) k = k x := rfl
def aJ.of (e : El) : aJ := ⟨aK0 e 0, aOX e 1, cR e 2, cR e 3, mQ e 4, mQ e 5, mQ e 6, mQ e 7, mQ e 8, aOX e 9, mQ e 10⟩
theorem aJ.of_l (x : aJ) : aJ.of x.l = x := rfl
theorem aJ.len (x : aJ) : x.l.length = 11 := rfl
structure bU where
  mk ::
  (a0 a1 a2 : List El)
def bU.l (x : bU) : El := [.sl fP x.a0, .sl fP x.a1, .sl fP x.a2]
def bU.b (x : bU) : List (SV false) := [.leaf (.sl fP x.a0), .leaf (.sl fP x.a1), .leaf (.sl fP x.a2)]
def bU.rd (e : El) (k : bU → Option β) : Option β := aSl e 0 fun a0 => aSl e 1 fun a1 => aSl e 2 fun a2 => k ⟨a0, a1, a2⟩
def bU.va (v : SV false) (k : bU → Option β) : Option β := fA v fun e => aA (e.length == 3) (bU.rd e k)
theorem bU.rd_l (x : bU) (k : bU → Option β) : bU.rd x.l k = k x := rfl
theorem bU.va_l (x : bU) (k : bU → Option β) : bU.va (.agg x.l) k = k x := rfl
def bU.of (e : El) : bU := ⟨mQ e 0, mQ e 1, mQ e 2⟩
theorem bU.of_l (x : bU) : bU.of x.l = x := rfl
theorem bU.len (x : bU) : x.l.length = 3 := rfl
structure nR where
  mk ::
  (a0 : Int) (a1 a2 : ByteArray)
def nR.l (x : nR) : El := [.int .i64 x.a0, .str x.a1, .str x.a2]
def nR.b (x : nR) : List (SV false) := [.leaf (.int .i64 x.a0), .leaf (.str x.a1), .leaf (.str x.a2)]
def nR.rd (e : El) (k : nR → Option β) : Option β := zW e 0 fun a0 => dW e 1 fun a1 => dW e 2 fun a2 => k ⟨a0, a1, a2⟩
def nR.va (v : SV false) (k : nR → Option β) : Option β := fA v fun e => aA (e.length == 3) (nR.rd e k)
theorem nR.rd_l (x : nR) (k : nR → Option β) : nR.rd x.l k = k x := rfl
theorem nR.va_l (x : nR) (k : nR → Option β) : nR.va (.agg x.l) k = k x := rfl
def nR.of (e : El) : nR := ⟨aK0 e 0, cR e 1, cR e 2⟩
theorem nR.of_l (x : nR) : nR.of x.l = x := rfl
theorem nR.len (x : nR) : x.l.length = 3 := rfl
structure bC where
  mk ::
  (a0 : Int) (a1 a2 a3 : ByteArray) (a4 a5 a6 : List El)
def bC.l (x : bC) : El := [.int .i64 x.a0, .str x.a1, .str x.a2, .str x.a3, .sl fP x.a4, .sl fP x.a5, .sl fP x.a6]
def bC.b (x : bC) : List (SV false) := [.leaf (.int .i64 x.a0), .leaf (.str x.a1), .leaf (.str x.a2), .leaf (.str x.a3), .leaf (.sl fP x.a4), .leaf (.sl fP x.a5), .leaf (.sl fP x.a6)]
def bC.rd (e : El) (k : bC → Option β) : Option β := zW e 0 fun a0 => dW e 1 fun a1 => dW e 2 fun a2 => dW e 3 fun a3 => aSl e 4 fun a4 => aSl e 5 fun a5 => aSl e 6 fun a6 => k ⟨a0, a1, a2, a3, a4, a5, a6⟩
def bC.va (v : SV false) (k : bC → Option β) : Option β := fA v fun e => aA (e.length == 7) (bC.rd e k)
theorem bC.rd_l (x : bC) (k : bC → Option β) : bC.rd x.l k = k x := rfl
theorem bC.va_l (x : bC) (k : bC → Option β) : bC.va (.agg x.l) k = k x := rfl
def bC.of (e : El) : bC := ⟨aK0 e 0, cR e 1, cR e 2, cR e 3, mQ e 4, mQ e 5, mQ e 6⟩
theorem bC.of_l (x : bC) : bC.of x.l = x := rfl
theorem bC.len (x : bC) : x.l.length = 7 := rfl
structure cD where
  mk ::
  (a0 : ByteArray) (a1 : Int) (a2 a3 a4 : ByteArray) (a5 a6 a7 : List El)
def cD.l (x : cD) : El := [.str x.a0, .int .i64 x.a1, .str x.a2, .str x.a3, .str x.a4, .sl fP x.a5, .sl fP x.a6, .sl fP x.a7]
def cD.b (x : cD) : List (SV false) := [.leaf (.str x.a0), .leaf (.int .i64 x.a1), .leaf (.str x.a2), .leaf (.str x.a3), .leaf (.str x.a4), .leaf (.sl fP x.a5), .leaf (.sl fP x.a6), .leaf (.sl fP x.a7)]
def cD.rd (e : El) (k : cD → Option β) : Option β := dW e 0 fun a0 => zW e 1 fun a1 => dW e 2 fun a2 => dW e 3 fun a3 => dW e 4 fun a4 => aSl e 5 fun a5 => aSl e 6 fun a6 => aSl e 7 fun a7 => k ⟨a0, a1, a2, a3, a4, a5, a6, a7⟩
def cD.va (v : SV false) (k : cD → Option β) : Option β := fA v fun e => aA (e.length == 8) (cD.rd e k)
theorem cD.rd_l (x : cD) (k : cD → Option β) : cD.rd x.l k = k x := rfl
theorem cD.va_l (x : cD) (k : cD → Option β) : cD.va (.agg x.l) k = k x := rfl
def cD.of (e : El) : cD := ⟨cR e 0, aK0 e 1, cR e 2, cR e 3, cR e 4, mQ e 5, mQ e 6, mQ e 7⟩
theorem cD.of_l (x : cD) : cD.of x.l = x := rfl
theorem cD.len (x : cD) : x.l.length = 8 := rfl
theorem atP : (∀ (β : Type) (x : eM), (∀ k : ByteArray → Option β, dW x.l 0 k = k x.a0) ∧ (∀ k : ByteArray → Option β, dW x.l 1 k = k x.a1)) ∧ (∀ (β : Type) (x : cG), (∀ k : Int → Option β, zW x.l 0 k = k x.a0) ∧ (∀ k : ByteArray → Option β, dW x.l 1 k = k x.a1) ∧ (∀ k : List El → Option β, aSl x.l 2 k = k x.a2) ∧ (∀ k : List El → Option β, aSl x.l 3 k = k x.a3)) ∧ (∀ (β : Type) (x : dL), (∀ k : ByteArray → Option β, dW x.l 0 k = k x.a0) ∧ (∀ k : Int → Option β, zW x.l 1 k = k x.a1) ∧ (∀ k : ByteArray → Option β, dW x.l 2 k = k x.a2) ∧ (∀ k : List El → Option β, aSl x.l 3 k = k x.a3) ∧ (∀ k : List El → Option β, aSl x.l 4 k = k x.a4)) ∧ (∀ (β : Type) (x : pF), (∀ k : ByteArray → Option β, dW x.l 0 k = k x.a0) ∧ (∀ k : List El → Option β, aSl x.l 1 k = k x.a1)) ∧ (∀ (β : Type) (x : bV), (∀ k : ByteArray → Option β, dW x.l 0 k = k x.a0) ∧ (∀ k : ByteArray → Option β, dW x.l 1 k = k x.a1) ∧ (∀ k : ByteArray → Option β, dW x.l 2 k = k x.a2) ∧ (∀ k : ByteArray → Option β, dW x.l 3 k = k x.a3) ∧ (∀ k : Bool → Option β, aET x.l 4 k = k x.a4) ∧ (∀ k : Int → Option β, zW x.l 5 k = k x.a5) ∧ (∀ k : ByteArray → Option β, dW x.l 6 k = k x.a6) ∧ (∀ k : List El → Option β, aSl x.l 7 k = k x.a7) ∧ (∀ k : List El → Option β, aSl x.l 8 k = k x.a8) ∧ (∀ k : List El → Option β, aSl x.l 9 k = k x.a9)) ∧ (∀ (β : Type) (x : bS), (∀ k : ByteArray → Option β, dW x.l 0 k = k x.a0) ∧ (∀ k : ByteArray → Option β, dW x.l 1 k = k x.a1) ∧ (∀ k : List El → Option β, aSl x.l 2 k = k x.a2) ∧ (∀ k : ByteArray → Option β, dW x.l 3 k = k x.a3) ∧ (∀ k : ByteArray → Option β, dW x.l 4 k = k x.a4) ∧ (∀ k : List El → Option β, aSl x.l 5 k = k x.a5)) ∧ (∀ (β : Type) (x : lX), (∀ k : ByteArray → Option β, dW x.l 0 k = k x.a0) ∧ (∀ k : ByteArray → Option β, dW x.l 1 k = k x.a1) ∧ (∀ k : List El → Option β, aSl x.l 2 k = k x.a2)) ∧ (∀ (β : Type) (x : vO), (∀ k : Int → Option β, zW x.l 0 k = k x.a0) ∧ (∀ k : ByteArray → Option β, dW x.l 1 k = k x.a1)) ∧ (∀ (β : Type) (x : aJ), (∀ k : Int → Option β, zW x.l 0 k = k x.a0) ∧ (∀ k : Bool → Option β, aET x.l 1 k = k x.a1) ∧ (∀ k : ByteArray → Option β, dW x.l 2 k = k x.a2) ∧ (∀ k : ByteArray → Option β, dW x.l 3 k = k x.a3) ∧ (∀ k : List El → Option β, aSl x.l 4 k = k x.a4) ∧ (∀ k : List El → Option β, aSl x.l 5 k = k x.a5) ∧ (∀ k : List El → Option β, aSl x.l 6 k = k x.a6) ∧ (∀ k : List El → Option β, aSl x.l 7 k = k x.a7) ∧ (∀ k : List El → Option β, aSl x.l 8 k = k x.a8) ∧ (∀ k : Bool → Option β, aET x.l 9 k = k x.a9) ∧ (∀ k : List El → Option β, aSl x.l 10 k = k x.a10)) ∧ (∀ (β : Type) (x : bU), (∀ k : List El → Option β, aSl x.l 0 k = k x.a0) ∧ (∀ k : List El → Option β, aSl x.l 1 k = k x.a1) ∧ (∀ k : List El → Option β, aSl x.l 2 k = k x.a2)) ∧ (∀ (β : Type) (x : nR), (∀ k : Int → Option β, zW x.l 0 k = k x.a0) ∧ (∀ k : ByteArray → Option β, dW x.l 1 k = k x.a1) ∧ (∀ k : ByteArray → Option β, dW x.l 2 k = k x.a2)) ∧ (∀ (β : Type) (x : bC), (∀ k : Int → Option β, zW x.l 0 k = k x.a0) ∧ (∀ k : ByteArray → Option β, dW x.l 1 k = k x.a1) ∧ (∀ k : ByteArray → Option β, dW x.l 2 k = k x.a2) ∧ (∀ k : ByteArray → Option β, dW x.l 3 k = k x.a3) ∧ (∀ k : List El → Option β, aSl x.l 4 k = k x.a4) ∧ (∀ k : List El → Option β, aSl x.l 5 k = k x.a5) ∧ (∀ k : List El → Option β, aSl x.l 6 k = k x.a6)) ∧ (∀ (β : Type) (x : cD), (∀ k : ByteArray → Option β, dW x.l 0 k = k x.a0) ∧ (∀ k : Int → Option β, zW x.l 1 k = k x.a1) ∧ (∀ k : ByteArray → Option β, dW x.l 2 k = k x.a2) ∧ (∀ k : ByteArray → Option β, dW x.l 3 k = k x.a3) ∧ (∀ k : ByteArray → Option β, dW x.l 4 k = k x.a4) ∧ (∀ k : List El → Option β, aSl x.l 5 k = k x.a5) ∧ (∀ k : List El → Option β, aSl x.l 6 k = k x.a6) ∧ (∀ k : List El → Option β, aSl x.l 7 k = k x.a7)) := ⟨fun _ _ => ⟨fun _ => rfl, fun _ => rfl⟩, fun _ _ => ⟨fun _ => rfl, fun _ => rfl, fun _ => rfl, fun _ => rfl⟩, fun _ _ => ⟨fun _ => rfl, fun _ => rfl, fun _ => rfl, fun _ => rfl, fun _ => rfl⟩, fun _ _ => ⟨fun _ => rfl, fun _ => rfl⟩, fun _ _ => ⟨fun _ => rfl, fun _ => rfl, fun _ => rfl, fun _ => rfl, fun _ => rfl, fun _ => rfl, fun _ => rfl, fun _ => rfl, fun _ => rfl, fun _ => rfl⟩, fun _ _ => ⟨fun _ => rfl, fun _ => rfl, fun _ => rfl, fun _ => rfl, fun _ => rfl, fun _ => rfl⟩, fun _ _ => ⟨fun _ => rfl, fun _ => rfl, fun _ => rfl⟩, fun _ _ => ⟨fun _ => rfl, fun _ => rfl⟩, fun _ _ => ⟨fun _ => rfl, fun _ => rfl, fun _ => rfl, fun _ => rfl, fun _ => rfl, fun _ => rfl, fun _ => rfl, fun _ => rfl, fun _ => rfl, fun _ => rfl, fun _ => rfl⟩, fun _ _ => ⟨fun _ => rfl, fun _ => rfl, fun _ => rfl⟩, fun _ _ => ⟨fun _ => rfl, fun _ => rfl, fun _ => rfl⟩, fun _ _ => ⟨fun _ => rfl, fun _ => rfl, fun _ => rfl, fun _ => rfl, fun _ => rfl, fun _ => rfl, fun _ => rfl⟩, fun _ _ => ⟨fun _ => rfl, fun _ => rfl, fun _ => rfl, fun _ => rfl, fun _ => rfl, fun _ => rfl, fun _ => rfl, fun _ => rfl⟩⟩
end Go.Vs
end
section
set_option linter.unusedVariables false
namespace Go.Vs
theorem aV {i : Nat} (h : i < maxLen) : IntKind.i64.wrap ((i : Int) + 1) = ((i + 1 : Nat) : Int) := by
  have hm : maxLen = 9223372036854775807 := rfl
  rw [nS (by omega) (by omega)]; rfl
mutual
def szF : aC false → Int → Int
  | .str s, n => if IntKind.i64.wrap (n - (s.size : Int)) < 0 then -1 else IntKind.i64.wrap (n - (s.size : Int))
  | .sl _ es, n => if IntKind.i64.wrap (n - (es.length : Int)) < 0 then -1 else szE es (IntKind.i64.wrap (n - (es.length : Int)))
  | .bool _, n => n
  | .int _ _, n => n
  | .unk, n => n
  | .nl _, n => n
def szL : List (aC false) → Int → Int
  | [], n => n
  | l :: r, n => if szF l n < 0 then -1 else szL r (szF l n)
def szE : List (List (aC false)) → Int → Int
  | [], n => n
  | e :: es, n => if szL e n < 0 then -1 else szE es (szL e n)
end
theorem aNf : ∀ (a b : List (aC false)) (n : Int), 0 ≤ n → szL (a ++ b) n = if szL a n < 0 then -1 else szL b (szL a n)
  | [], b, n, h => by simp [szL, Int.not_lt.2 h]
  | l :: a, b, n, h => by
    simp only [List.cons_append, szL]
    by_cases h1 : szF l n < 0
    · simp [h1]
    · simp only [h1, if_false]
      exact aNf a b _ (by omega)
section
variable {r : List (aC false)} {n : Int}
abbrev aI (n : Int) : SV false := .leaf (.int .i64 n)
abbrev aH (b : Bool) : SV false := .leaf (.bool b)
abbrev vsl (es : List (List (aC false))) : SV false := .leaf (.sl fP es)
abbrev Res := Option (SV false × List (List (SV false)))
theorem qK {s : ByteArray} {Y : Res} (g : 0 ≤ IntKind.i64.wrap (n - (s.size : Int)) → Y = some (aI (szL r (IntKind.i64.wrap (n - (s.size : Int)))), [])) :
    aB (decide (IntKind.i64.wrap (n - (s.size : Int)) < 0)) (some (SV.leaf (aC.int .i64 (-1)), [])) Y = some (aI (szL (.str s :: r) n), []) := by
  rw [lR]
  by_cases h : IntKind.i64.wrap (n - (s.size : Int)) < 0
  · simp [h, szL, szF]
  · simp only [h, decide_false, Bool.false_eq_true, if_false, szL, szF]
    exact g (by omega)
theorem aPj {k : IntKind} {z : Int} {Y : Res} (hn : 0 ≤ n) (g : Y = some (aI (szL r n), [])) : Y = some (aI (szL (.int k z :: r) n), []) := by
  rw [g]; simp [szL, szF, Int.not_lt.2 hn]
theorem aO7 {b : Bool} {Y : Res} (hn : 0 ≤ n) (g : Y = some (aI (szL r n), [])) : Y = some (aI (szL (.bool b :: r) n), []) := by
  rw [g]; simp [szL, szF, Int.not_lt.2 hn]
theorem aLQ {d : Res} {a : List (aC false)} {Y : Int → Res} (hd : d = some (aI (szL a n), [])) (hn : 0 ≤ n) (g : ∀ k, 0 ≤ k → Y k = some (aI (szL r k), [])) :
    (d.bind fun r => aM r.fst fun l => dG .i64 l fun n => aB (decide (n < 0)) (some (SV.leaf (aC.int .i64 (-1)), [])) (Y n)) = some (aI (szL (a ++ r) n), []) := by
  rw [hd, aNf _ _ _ hn]
  simp only [Option.bind_some, aX, cB, lR]
  by_cases h : szL a n < 0
  · simp [h]
  · simp only [h, decide_false, Bool.false_eq_true, if_false]
    exact g _ (by omega)
theorem iV {d : Res} {es : List (List (aC false))} {Y : Int → Res} (hd : d = some (aI (szF (.sl fP es) n), [])) (g : ∀ k, 0 ≤ k → Y k = some (aI (szL r k), [])) :
    (d.bind fun r => aM r.fst fun l => dG .i64 l fun n => aB (decide (n < 0)) (some (SV.leaf (aC.int .i64 (-1)), [])) (Y n)) = some (aI (szL (.sl fP es :: r) n), []) := by
  rw [hd]
  simp only [Option.bind_some, aX, cB, lR, szL]
  by_cases h : szF (.sl fP es) n < 0
  · simp [h]
  · simp only [h, decide_false, Bool.false_eq_true, if_false]
    exact g _ (by omega)
theorem aBq {es : List (List (aC false))} {Y : Res} (g : 0 ≤ IntKind.i64.wrap (n - (es.length : Int)) → Y = some (aI (szE es (IntKind.i64.wrap (n - (es.length : Int)))), [])) :
    aB (decide (IntKind.i64.wrap (n - (es.length : Int)) < 0)) (some (SV.leaf (aC.int .i64 (-1)), [])) Y = some (aI (szF (.sl fP es) n), []) := by
  rw [lR, szF]
  by_cases h : IntKind.i64.wrap (n - (es.length : Int)) < 0
  · simp [h]
  · simp only [h, decide_false, Bool.false_eq_true, if_false]
    exact g (by omega)
theorem zR {e : List (aC false)} {es : List (List (aC false))} {d : Res} {Y : Int → Res} (hd : d = some (aI (szL e n), [])) (g : ∀ k, 0 ≤ k → Y k = some (aI (szE es k), [])) :
    (d.bind fun r => aM r.fst fun l => dG .i64 l fun n => aB (decide (n < 0)) (some (SV.leaf (aC.int .i64 (-1)), [])) (Y n)) = some (aI (szE (e :: es) n), []) := by
  rw [hd]
  simp only [Option.bind_some, aX, cB, lR, szE]
  by_cases h : szL e n < 0
  · simp [h]
  · simp only [h, decide_false, Bool.false_eq_true, if_false]
    exact g _ (by omega)
theorem aTm {s : ByteArray} {es : List (List (aC false))} {Y : Res} (g : 0 ≤ IntKind.i64.wrap (n - (s.size : Int)) → Y = some (aI (szE es (IntKind.i64.wrap (n - (s.size : Int)))), [])) :
    aB (decide (IntKind.i64.wrap (n - (s.size : Int)) < 0)) (some (SV.leaf (aC.int .i64 (-1)), [])) Y = some (aI (szE ([.str s] :: es) n), []) := by
  rw [lR]
  by_cases h : IntKind.i64.wrap (n - (s.size : Int)) < 0
  · simp [h, szE, szL, szF]
  · simp only [h, decide_false, Bool.false_eq_true, if_false, szE, szL, szF]
    exact g (by omega)
end
mutual
def mkF : aC false → Int → Int
  | .str _, k => IntKind.i64.wrap (k + 1)
  | .bool _, k => IntKind.i64.wrap (k + 1)
  | .int _ _, k => IntKind.i64.wrap (k + 1)
  | .sl _ es, k => mkE es k
  | .unk, k => k
  | .nl _, k => k
def mkL : List (aC false) → Int → Int
  | [], k => k
  | l :: r, k => mkL r (mkF l k)
def mkE : List (List (aC false)) → Int → Int
  | [], k => k
  | e :: es, k => mkE es (mkL e k)
end
mutual
def tF : aC false → Nat
  | .sl _ es => es.length + tE es
  | _ => 0
def tL : List (aC false) → Nat
  | [] => 0
  | l :: r => tF l + tL r
def tE : List (List (aC false)) → Nat
  | [] => 0
  | e :: es => tL e + tE es
end
mutual
def okF (z : Nat) : aC false → Prop
  | .str s => s.size ≤ maxLen
  | .sl _ es => es.length ≤ maxLen ∧ okE z es
  | _ => True
def okL (z : Nat) : List (aC false) → Prop
  | [] => True
  | l :: r => okF z l ∧ okL z r
def okE (z : Nat) : List (List (aC false)) → Prop
  | [] => True
  | e :: es => e.length ≤ z ∧ okL z e ∧ okE z es
end
def cap : Int := 4611686018427387904
mutual
theorem aTa {z : Nat} : ∀ (l : aC false) (n : Int), okF z l → 0 ≤ n → n ≤ cap → 0 ≤ szF l n → szF l n ≤ n ∧ (tF l : Int) ≤ n - szF l n
  | .str s, n, ho, h0, hn, h => by
    have hm : maxLen = 9223372036854775807 := rfl
    simp only [okF] at ho
    simp only [szF, tF, cap] at *
    rw [nS (by omega) (by omega)] at h ⊢
    split at h <;> simp_all <;> omega
  | .sl _ es, n, ho, h0, hn, h => by
    have hm : maxLen = 9223372036854775807 := rfl
    simp only [okF] at ho
    simp only [szF, tF] at *
    rw [nS (by simp only [cap] at hn; omega) (by simp only [cap] at hn; omega)] at h ⊢
    by_cases hl : n - (es.length : Int) < 0
    · simp [hl] at h
    · simp only [hl, if_false] at h ⊢
      have := aU6 es (n - es.length) ho.2 (by omega) (by omega) h
      omega
  | .bool _, n, _, _, _, _ => by simp [szF, tF]
  | .int _ _, n, _, _, _, _ => by simp [szF, tF]
  | .unk, n, _, _, _, _ => by simp [szF, tF]
  | .nl _, n, _, _, _, _ => by simp [szF, tF]
theorem aRD {z : Nat} : ∀ (l : List (aC false)) (n : Int), okL z l → 0 ≤ n → n ≤ cap → 0 ≤ szL l n → szL l n ≤ n ∧ (tL l : Int) ≤ n - szL l n
  | [], n, _, _, _, _ => by simp [szL, tL]
  | l :: r, n, ho, h0, hn, h => by
    simp only [okL] at ho
    simp only [szL, tL] at *
    by_cases hl : szF l n < 0
    · simp [hl] at h
    · simp only [hl, if_false] at h ⊢
      have h1 := aTa l n ho.1 h0 hn (by omega)
      have h2 := aRD r _ ho.2 (by omega) (by omega) h
      omega
theorem aU6 {z : Nat} : ∀ (l : List (List (aC false))) (n : Int), okE z l → 0 ≤ n → n ≤ cap → 0 ≤ szE l n → szE l n ≤ n ∧ (tE l : Int) ≤ n - szE l n
  | [], n, _, _, _, _ => by simp [szE, tE]
  | e :: r, n, ho, h0, hn, h => by
    simp only [okE] at ho
    simp only [szE, tE] at *
    by_cases hl : szL e n < 0
    · simp [hl] at h
    · simp only [hl, if_false] at h ⊢
      have h1 := aRD e n ho.2.1 h0 hn (by omega)
      have h2 := aU6 r _ ho.2.2 (by omega) (by omega) h
      omega
end
mutual
theorem aV8 {z : Nat} : ∀ (l : aC false) (k : Int), okF z l → 0 ≤ k → k + 1 + z * tF l ≤ cap → k ≤ mkF l k ∧ mkF l k ≤ k + 1 + z * tF l
  | .str s, k, _, h0, hn => by simp only [mkF, tF, cap] at *; rw [nS (by omega) (by omega)]; omega
  | .bool s, k, _, h0, hn => by simp only [mkF, tF, cap] at *; rw [nS (by omega) (by omega)]; omega
  | .int _ s, k, _, h0, hn => by simp only [mkF, tF, cap] at *; rw [nS (by omega) (by omega)]; omega
  | .unk, k, _, h0, hn => by simp only [mkF, tF]; omega
  | .nl _, k, _, h0, hn => by simp only [mkF, tF]; omega
  | .sl _ es, k, ho, h0, hn => by
    simp only [okF] at ho
    simp only [mkF, tF] at *
    have e : (z : Int) * ((es.length + tE es : Nat) : Int) = z * es.length + z * tE es := by push_cast; rw [Int.mul_add]
    rw [e] at hn ⊢
    have := aRS es k ho.2 h0 (by omega)
    omega
theorem aVg {z : Nat} : ∀ (l : List (aC false)) (k : Int), okL z l → 0 ≤ k → k + l.length + z * tL l ≤ cap → k ≤ mkL l k ∧ mkL l k ≤ k + l.length + z * tL l
  | [], k, _, _, _ => by simp [mkL, tL]
  | l :: r, k, ho, h0, hn => by
    simp only [okL] at ho
    have e : (z : Int) * ((tF l + tL r : Nat) : Int) = z * tF l + z * tL r := by push_cast; rw [Int.mul_add]
    have e2 : (((l :: r).length : Nat) : Int) = r.length + 1 := by simp
    rw [show tL (l :: r) = tF l + tL r by simp [tL], e, e2] at hn ⊢
    rw [show mkL (l :: r) k = mkL r (mkF l k) by simp [mkL]]
    have p1 : 0 ≤ (z : Int) * tF l := Int.mul_nonneg (by omega) (by omega)
    have p2 : 0 ≤ (z : Int) * tL r := Int.mul_nonneg (by omega) (by omega)
    have h1 := aV8 l k ho.1 h0 (by omega)
    have h2 := aVg r (mkF l k) ho.2 (by omega) (by omega)
    omega
theorem aRS {z : Nat} : ∀ (l : List (List (aC false))) (k : Int), okE z l → 0 ≤ k → k + z * l.length + z * tE l ≤ cap → k ≤ mkE l k ∧ mkE l k ≤ k + z * l.length + z * tE l
  | [], k, _, _, _ => by simp [mkE, tE]
  | e :: r, k, ho, h0, hn => by
    simp only [okE] at ho
    have e1 : (z : Int) * ((tL e + tE r : Nat) : Int) = z * tL e + z * tE r := by push_cast; rw [Int.mul_add]
    have e2 : (z : Int) * (((e :: r).length : Nat) : Int) = z * r.length + z := by rw [List.length_cons]; push_cast; rw [Int.mul_add, Int.mul_one]
    rw [show tE (e :: r) = tL e + tE r by simp [tE], e1, e2] at hn ⊢
    rw [show mkE (e :: r) k = mkE r (mkL e k) by simp [mkE]]
    have p1 : 0 ≤ (z : Int) * tL e := Int.mul_nonneg (by omega) (by omega)
    have p2 : 0 ≤ (z : Int) * tE r := Int.mul_nonneg (by omega) (by omega)
    have p3 : 0 ≤ (z : Int) * r.length := Int.mul_nonneg (by omega) (by omega)
    have h1 := aVg e k ho.2.1 h0 (by omega)
    have h2 := aRS r (mkL e k) ho.2.2 (by omega) (by omega)
    omega
end
theorem bI {m : Bool} {l : List (List (aC m))} {i : Nat} (h : i < l.length) : l.getD i [] = l[i] := by simp [List.getD, h]
theorem gS {α : Type} {l : List α} {i : Nat} (h : i < l.length) : l.drop i = l[i] :: l.drop (i + 1) := List.drop_eq_getElem_cons h
theorem aN {m : Bool} {z : Nat} {es : List (List (aC m))} (h : ∀ e ∈ es, e.length = z) : sized z es = true := by
  simp only [sized, List.all_eq_true, beq_iff_eq]; exact h
theorem jU {m m' : Bool} {φ : Fl m → Fl m'} {z : Nat} {es : List (List (aC m))} (h : ∀ e ∈ es, e.length = z) : ∀ e ∈ reE φ es, e.length = z := by
  intro e he
  rw [aBg] at he
  obtain ⟨x, hx, rfl⟩ := List.mem_map.1 he
  rw [aCC]; exact h x hx
theorem vC {m m' : Bool} {φ : Fl m → Fl m'} {es : List (List (aC m))} {i : Nat} (h : i < (reE φ es).length) : (reE φ es)[i] = reL φ (es[i]'(by rwa [bX] at h)) := by
  simp only [aBg, List.getElem_map]
theorem rU {m m' : Bool} {φ : Fl m → Fl m'} {es : List (List (aC m))} {i : Nat} (h : i < es.length) : (reE φ es).getD i [] = reL φ es[i] := by
  rw [bI (by rwa [bX]), vC (by rwa [bX])]
theorem aRQ : ∀ l : List (aC false), soL l = l.map soF
  | [] => by rw [soL]; rfl
  | l :: r => by rw [soL, List.map_cons, aRQ r]
theorem aLP : ∀ l : List (List (aC false)), soE l = l.map soL
  | [] => by rw [soE]; rfl
  | l :: r => by rw [soE, List.map_cons, aLP r]
theorem nB (l : List (List (aC false))) : (soE l).length = l.length := by rw [aLP, List.length_map]
theorem xK {z : Nat} {es : List (List (aC false))} (h : ∀ e ∈ es, e.length = z) : ∀ e ∈ soE es, e.length = z := by
  intro e he
  rw [aLP] at he
  obtain ⟨x, hx, rfl⟩ := List.mem_map.1 he
  rw [aRQ, List.length_map]; exact h x hx
theorem rN {es : List (List (aC false))} {i : Nat} (h : i < es.length) : (soE es).getD i [] = soL es[i] := by
  rw [aLP, List.getD_eq_getElem?_getD, List.getElem?_map, List.getElem?_eq_getElem h]; rfl
theorem kL {z : Nat} : ∀ {es : List (List (aC false))}, (∀ e ∈ es, e.length ≤ z ∧ okL z e) → okE z es
  | [], _ => by simp [okE]
  | e :: r, h => by
    simp only [okE]
    exact ⟨(h e (by simp)).1, (h e (by simp)).2, kL fun x hx => h x (by simp [hx])⟩
theorem aAm : ∀ {es : List (List (aC false))} {e : List (aC false)}, e ∈ es → tL e ≤ tE es
  | x :: r, e, h => by
    simp only [tE]
    rcases List.mem_cons.1 h with rfl | h
    · omega
    · have := aAm h; omega
def jS (e : List (aC false)) : Prop := ∃ s : ByteArray, e = [.str s] ∧ s.size ≤ maxLen
theorem jS.len {e : List (aC false)} (h : jS e) : e.length = 1 := by obtain ⟨s, rfl, _⟩ := h; rfl
theorem jS.ok {e : List (aC false)} (h : jS e) : okL 16 e := by obtain ⟨s, rfl, hs⟩ := h; simp only [okL, okF]; exact ⟨hs, trivial⟩
theorem lE : Fl.isSoft fW = true := rfl
theorem xH {α : Type} {p : Prop} [Decidable p] {a b : α} (h : p) : (if p then a else b) = a := if_pos h
end Go.Vs
namespace Go.Vs
variable {m : Bool}
theorem aNV {v l1 l2 : List (SV m)} {p q : Nat} (hq : q = p + l1.length) (h : p + l1.length + l2.length ≤ v.length) : gN (gN v p l1) q l2 = gN v p (l1 ++ l2) := by
  subst hq
  unfold gN
  have h1 : (v.take p).length = p := by rw [List.length_take]; omega
  have e1 : (v.take p ++ l1 ++ v.drop (p + l1.length)).take (p + l1.length) = v.take p ++ l1 := by
    rw [List.take_append_of_le_length (by rw [List.length_append, h1]; omega), List.take_of_length_le (by rw [List.length_append, h1]; omega)]
  have e2 : (v.take p ++ l1 ++ v.drop (p + l1.length)).drop (p + l1.length + l2.length) = v.drop (p + (l1.length + l2.length)) := by
    rw [List.drop_append, List.drop_of_length_le (by rw [List.length_append, h1]; omega), List.nil_append, List.drop_drop, List.length_append, h1]
    congr 1; omega
  rw [e1, e2, List.length_append]
  simp only [List.append_assoc]
theorem aI1 {v l : List (SV m)} {p : Nat} (h : p + l.length ≤ v.length) : (gN v p l).length = v.length := by
  unfold gN
  simp only [List.length_append, List.length_take, List.length_drop]
  omega
theorem aKE {α : Type} {z : Nat} : ∀ {l : List (List α)} {i o : Nat} (hl : ∀ e ∈ l, e.length = z) (hi : i < l.length) (ho : o < z), l.flatten[i * z + o]? = (l[i])[o]?
  | e :: l, 0, o, hl, hi, ho => by
    rw [List.flatten_cons, List.getElem?_append_left (by rw [hl e (by simp)]; omega)]
    simp
  | e :: l, i + 1, o, hl, hi, ho => by
    have he := hl e (by simp)
    rw [List.flatten_cons, List.getElem?_append_right (by rw [he, Nat.add_mul]; omega), he]
    have : (i + 1) * z + o - z = i * z + o := by rw [Nat.add_mul]; omega
    rw [this, List.getElem_cons_succ]
    exact aKE (fun e h => hl e (by simp [h])) (by simpa using hi) ho
theorem aTu {β : Type} {l : List (List (aC m))} {z : Nat} {r : List (SV m)} {i o p : Nat} (hl : ∀ e ∈ l, e.length = z) (hi : i < l.length) (ho : o < z) (hp : p = i * z + o) (k : SV m → Option β) :
    aHw (fV l l.length r) p k = k (.leaf ((l[i])[o]'(by rw [hl _ (List.getElem_mem hi)]; exact ho))) := by
  subst hp
  have hlen : l.flatten.length = l.length * z := tY hl
  have hm : i * z + o < l.flatten.length := by
    rw [hlen]
    have : (i + 1) * z ≤ l.length * z := Nat.mul_le_mul_right z hi
    rw [Nat.add_mul] at this; omega
  unfold aHw fV
  rw [List.take_length, List.getElem?_append_left (by rw [List.length_map]; exact hm), List.getElem?_map, aKE hl hi ho, List.getElem?_eq_getElem (by rw [hl _ (List.getElem_mem hi)]; exact ho)]
  rfl
theorem aHW {l : List (List (aC m))} {i : Nat} {r : List (SV m)} (h : r.all SV.flat = true) : (fV l i r).all SV.flat = true := by
  unfold fV
  rw [List.all_append, h, Bool.and_true, List.all_map]
  exact List.all_eq_true.2 fun _ _ => rfl
end Go.Vs
namespace Go.Vs
def msL : List (aC false) → Int → Int
  | [], k => k
  | .sl _ es :: r, k => msL r (mkE es k)
  | .bool _ :: r, k => msL r k
  | .int _ _ :: r, k => msL r k
  | .str _ :: r, k => msL r k
  | .unk :: r, k => msL r k
  | .nl _ :: r, k => msL r k
theorem aMs {z : Nat} : ∀ (l : List (aC false)) (k : Int), okL z l → 0 ≤ k → k + z * tL l ≤ cap → k ≤ msL l k ∧ msL l k ≤ k + z * tL l
  | [], k, _, _, _ => by simp [msL, tL]
  | .sl c es :: r, k, ho, h0, hn => by
    simp only [okL, okF] at ho
    have e1 : (z : Int) * ((tL (.sl c es :: r) : Nat) : Int) = z * es.length + z * tE es + z * tL r := by
      rw [show tL (.sl c es :: r) = es.length + tE es + tL r by simp [tL, tF]]
      push_cast; rw [Int.mul_add, Int.mul_add]
    rw [e1] at hn ⊢
    rw [show msL (.sl c es :: r) k = msL r (mkE es k) by simp [msL]]
    have p1 : 0 ≤ (z : Int) * es.length := Int.mul_nonneg (by omega) (by omega)
    have p2 : 0 ≤ (z : Int) * tE es := Int.mul_nonneg (by omega) (by omega)
    have p3 : 0 ≤ (z : Int) * tL r := Int.mul_nonneg (by omega) (by omega)
    have h1 := aRS es k ho.1.2 h0 (by omega)
    have h2 := aMs r (mkE es k) ho.2 (by omega) (by omega)
    omega
  | .bool b :: r, k, ho, h0, hn => by
    simp only [okL] at ho
    have e : tL (.bool b :: r) = tL r := by simp [tL, tF]
    rw [e] at hn ⊢
    exact aMs r k ho.2 h0 hn
  | .int kk b :: r, k, ho, h0, hn => by
    simp only [okL] at ho
    have e : tL (.int kk b :: r) = tL r := by simp [tL, tF]
    rw [e] at hn ⊢
    exact aMs r k ho.2 h0 hn
  | .str b :: r, k, ho, h0, hn => by
    simp only [okL] at ho
    have e : tL (.str b :: r) = tL r := by simp [tL, tF]
    rw [e] at hn ⊢
    exact aMs r k ho.2 h0 hn
  | .unk :: r, k, ho, h0, hn => by
    simp only [okL] at ho
    have e : tL (.unk :: r) = tL r := by simp [tL, tF]
    rw [e] at hn ⊢
    exact aMs r k ho.2 h0 hn
  | .nl b :: r, k, ho, h0, hn => by
    simp only [okL] at ho
    have e : tL (.nl b :: r) = tL r := by simp [tL, tF]
    rw [e] at hn ⊢
    exact aMs r k ho.2 h0 hn
end Go.Vs
end
section
open Go Go.Vs Go.Proofs
namespace Go.Vs
noncomputable abbrev atA {m : Bool} (D : bK m) (f : FuncId) (x : List Nat × St m) : Ret m := atF Tryz.prog D Hs f x.1 0 x.2
end Go.Vs
end
section
open Go Go.Vs Go.Proofs
set_option maxRecDepth 100000
set_option linter.unusedVariables false
namespace Go.Vs
def kI (c0_0 : Fl true) (e0_0 : LT) (c0_1 : Fl true) (e0_1 : LT) (c0_2 : Fl true) (e0_2 : LT) (s1 : ByteArray) (c2 : Fl true) (e2 : LT) : St true := St.mk [.agg [.sl c0_0 e0_0,.sl c0_1 e0_1,.sl c0_2 e0_2],.leaf (.str s1),.leaf (.sl c2 e2),.any,.any,.any,.any,.any,.any,.any,.any,.any,.any,.any,.any,.any,.any,.any,.any,.any,.any,.any,.any,.any,.any,.any,.any,.any,.any,.any,.any,.any,.any,.any,.any,.any,.any,.any,.any,.any,.any,.any,.any,.any,.any,.any,.any,.any,.any,.any,.any,.any,.any,.any,.any,.any,.any,.any,.any,.any,.any,.any,.any,.any,.any,.any,.any,.any,.any,.any,.any,.any,.any,.any,.any,.any,.any,.any,.any,.any,.any,.any,.any,.any,.any,.any,.any,.any,.any,.any,.any,.any,.any,.any,.any,.any,.any,.any,.any,.any] [none,none,none,none,none,none,none,none,none,none,none,none,none,none,none,none,none,none,none,none,none,none,none,none,none,none,none,none,none,none,none,none,none,none,none,none,none,none,none,none,none,none,none,none,none,none,none,none,none,none,none,none,none,none,none,none,none,none,none,none,none,none,none,none,none,none,none,none,none,none,none,none,none,none,none,none,none,none,none,none,none,none,none,none,none,none,none,none,none,none,none,none,none,none,none,none,none,none,none,none]
theorem iD (D : bK true) (J : PT → Ret true) (c0_0 : Fl true) (e0_0 : LT) (c0_1 : Fl true) (e0_1 : LT) (c0_2 : Fl true) (e0_2 : LT) (s1 : ByteArray) (c2 : Fl true) (e2 : LT) : aAx Tryz.prog D Hs F.aWN [way 8] 0 J (way 0,kI c0_0 e0_0 c0_1 e0_1 c0_2 e0_2 s1 c2 e2) = aB (decide ((↑s1.size : Int) > 1048576)) (some (.leaf (.bool true),[])) ((D F.aXW [.agg [.sl c0_0 e0_0,.sl c0_1 e0_1,.sl c0_2 e0_2],.leaf (.int .i64 1048576)] []).bind fun r => aM r.fst fun l => dG .i64 l fun n => aB (decide (n < 0)) (some (.leaf (.bool true),[])) ((D F.aYF [.leaf (.sl c2 e2),.leaf (.int .i64 n)] []).bind fun r => aM r.fst fun l => dG .i64 l fun n => aB (decide (n < 0)) (some (.leaf (.bool true),[])) ((D F.aX1 [.agg [.sl c0_0 e0_0,.sl c0_1 e0_1,.sl c0_2 e0_2]] []).bind fun r => fA r.fst fun cs => aA (cs.length == 3) (atK cs 0 fun l => slK l fun c es => atK cs 1 fun l => slK l fun c_1 es_1 => atK cs 2 fun l => slK l fun c_2 es_2 => (D F.aYu [.leaf (.sl c2 e2)] []).bind fun r => kO r.fst fun c_3 es_3 => (D F.aWT [.agg [.sl c es,.sl c_1 es_1,.sl c_2 es_2],.leaf (.str s1),.leaf (.sl c_3 es_3)] []).bind fun r => pN T.aYr r.fst fun es => J (way 8,St.mk [.any,.leaf (.str s1),.leaf (.sl c2 e2),.ptr 3 0,.any,.any,.any,.any,.own (some T.aYr) es,.any,.any,.any,.any,.any,.any,.any,.any,.any,.any,.any,.any,.any,.any,.any,.any,.any,.any,.any,.any,.any,.any,.any,.any,.any,.any,.any,.any,.any,.any,.any,.any,.any,.any,.any,.any,.any,.any,.any,.any,.any,.any,.any,.any,.any,.any,.any,.any,.any,.any,.any,.any,.any,.any,.any,.any,.any,.any,.any,.any,.any,.any,.any,.any,.any,.any,.any,.any,.any,.any,.any,.any,.any,.any,.any,.any,.any,.any,.any,.any,.any,.any,.any,.any,.any,.any,.any,.any,.any,.any,.any] [none,none,none,some [.leaf (.sl c0_0 e0_0),.leaf (.sl c0_1 e0_1),.leaf (.sl c0_2 e0_2)],none,none,none,none,none,none,none,none,none,none,none,none,none,none,none,none,none,none,none,none,none,none,none,none,none,none,none,none,none,none,none,none,none,none,none,none,none,none,none,none,none,none,none,none,none,none,none,none,none,none,none,none,none,none,none,none,none,none,none,none,none,none,none,none,none,none,none,none,none,none,none,none,none,none,none,none,none,none,none,none,none,none,none,none,none,none,none,none,none,none,none,none,none,none,none,none]))))) := by revert J; refine id ?_; intro J; kernel_rfl
def dQ (s1 : ByteArray) (c2 : Fl true) (e2 : LT) (c3 c3_0 : Fl true) (e3_0 : LT) (c3_1 : Fl true) (e3_1 : LT) (c3_2 : Fl true) (e3_2 : LT) (c8 : Fl true) (e8 : LT) : St true := St.mk [.any,.leaf (.str s1),.leaf (.sl c2 e2),.eptr c3 [.sl c3_0 e3_0,.sl c3_1 e3_1,.sl c3_2 e3_2] 0,.any,.any,.any,.any,.leaf (.sl c8 e8),.any,.any,.any,.any,.any,.any,.any,.any,.any,.any,.any,.any,.any,.any,.any,.any,.any,.any,.any,.any,.any,.any,.any,.any,.any,.any,.any,.any,.any,.any,.any,.any,.any,.any,.any,.any,.any,.any,.any,.any,.any,.any,.any,.any,.any,.any,.any,.any,.any,.any,.any,.any,.any,.any,.any,.any,.any,.any,.any,.any,.any,.any,.any,.any,.any,.any,.any,.any,.any,.any,.any,.any,.any,.any,.any,.any,.any,.any,.any,.any,.any,.any,.any,.any,.any,.any,.any,.any,.any,.any,.any] [none,none,none,none,none,none,none,none,none,none,none,none,none,none,none,none,none,none,none,none,none,none,none,none,none,none,none,none,none,none,none,none,none,none,none,none,none,none,none,none,none,none,none,none,none,none,none,none,none,none,none,none,none,none,none,none,none,none,none,none,none,none,none,none,none,none,none,none,none,none,none,none,none,none,none,none,none,none,none,none,none,none,none,none,none,none,none,none,none,none,none,none,none,none,none,none,none,none,none,none]
theorem yW (D : bK true) (J : PT → Ret true) (s1 : ByteArray) (c2 : Fl true) (e2 : LT) (c3 : Fl true) (c3_0 : Fl true) (e3_0 : LT) (c3_1 : Fl true) (e3_1 : LT) (c3_2 : Fl true) (e3_2 : LT) (c8 : Fl true) (e8 : LT) : aAx Tryz.prog D Hs F.aWN [way 10] 0 J (way 8,dQ s1 c2 e2 c3 c3_0 e3_0 c3_1 e3_1 c3_2 e3_2 c8 e8) = (D F.aX1 [.agg [.sl c3_0 e3_0,.sl c3_1 e3_1,.sl c3_2 e3_2]] []).bind fun r => fA r.fst fun cs => aA (cs.length == 3) (atK cs 0 fun l => slK l fun c es => atK cs 1 fun l => slK l fun c_1 es_1 => atK cs 2 fun l => slK l fun c_2 es_2 => (D F.aYu [.leaf (.sl c2 e2)] []).bind fun r => kO r.fst fun c_3 es_3 => J (way 10,St.mk [.any,.leaf (.str s1),.leaf (.sl c2 e2),.eptr c3 [.sl c3_0 e3_0,.sl c3_1 e3_1,.sl c3_2 e3_2] 0,.any,.any,.any,.any,.leaf (.sl c8 e8),.ptr 9 0,.leaf (.sl c_3 es_3),.any,.any,.any,.any,.any,.any,.any,.any,.any,.any,.any,.any,.any,.any,.any,.any,.any,.any,.any,.any,.any,.any,.any,.any,.any,.any,.any,.any,.any,.any,.any,.any,.any,.any,.any,.any,.any,.any,.any,.any,.any,.any,.any,.any,.any,.any,.any,.any,.any,.any,.any,.any,.any,.any,.any,.any,.any,.any,.any,.any,.any,.any,.any,.any,.any,.any,.any,.any,.any,.any,.any,.any,.any,.any,.any,.any,.any,.any,.any,.any,.any,.any,.any,.any,.any,.any,.any,.any,.any] [none,none,none,none,none,none,none,none,none,some [.leaf (.sl c es),.leaf (.sl c_1 es_1),.leaf (.sl c_2 es_2)],none,none,none,none,none,none,none,none,none,none,none,none,none,none,none,none,none,none,none,none,none,none,none,none,none,none,none,none,none,none,none,none,none,none,none,none,none,none,none,none,none,none,none,none,none,none,none,none,none,none,none,none,none,none,none,none,none,none,none,none,none,none,none,none,none,none,none,none,none,none,none,none,none,none,none,none,none,none,none,none,none,none,none,none,none,none,none,none,none,none])) := by revert J; refine id ?_; intro J; kernel_rfl
def bR (s1 : ByteArray) (c2 : Fl true) (e2 : LT) (c3 c3_0 : Fl true) (e3_0 : LT) (c3_1 : Fl true) (e3_1 : LT) (c3_2 : Fl true) (e3_2 : LT) (c8 : Fl true) (e8 : LT) (c9 c9_0 : Fl true) (e9_0 : LT) (c9_1 : Fl true) (e9_1 : LT) (c9_2 : Fl true) (e9_2 : LT) (c10 : Fl true) (e10 : LT) : St true := St.mk [.any,.leaf (.str s1),.leaf (.sl c2 e2),.eptr c3 [.sl c3_0 e3_0,.sl c3_1 e3_1,.sl c3_2 e3_2] 0,.any,.any,.any,.any,.leaf (.sl c8 e8),.eptr c9 [.sl c9_0 e9_0,.sl c9_1 e9_1,.sl c9_2 e9_2] 0,.leaf (.sl c10 e10),.any,.any,.any,.any,.any,.any,.any,.any,.any,.any,.any,.any,.any,.any,.any,.any,.any,.any,.any,.any,.any,.any,.any,.any,.any,.any,.any,.any,.any,.any,.any,.any,.any,.any,.any,.any,.any,.any,.any,.any,.any,.any,.any,.any,.any,.any,.any,.any,.any,.any,.any,.any,.any,.any,.any,.any,.any,.any,.any,.any,.any,.any,.any,.any,.any,.any,.any,.any,.any,.any,.any,.any,.any,.any,.any,.any,.any,.any,.any,.any,.any,.any,.any,.any,.any,.any,.any,.any,.any] [none,none,none,none,none,none,none,none,none,none,none,none,none,none,none,none,none,none,none,none,none,none,none,none,none,none,none,none,none,none,none,none,none,none,none,none,none,none,none,none,none,none,none,none,none,none,none,none,none,none,none,none,none,none,none,none,none,none,none,none,none,none,none,none,none,none,none,none,none,none,none,none,none,none,none,none,none,none,none,none,none,none,none,none,none,none,none,none,none,none,none,none,none,none,none,none,none,none,none,none]
theorem yQ (D : bK true) (J : PT → Ret true) (s1 : ByteArray) (c2 : Fl true) (e2 : LT) (c3 : Fl true) (c3_0 : Fl true) (e3_0 : LT) (c3_1 : Fl true) (e3_1 : LT) (c3_2 : Fl true) (e3_2 : LT) (c8 : Fl true) (e8 : LT) (c9 : Fl true) (c9_0 : Fl true) (e9_0 : LT) (c9_1 : Fl true) (e9_1 : LT) (c9_2 : Fl true) (e9_2 : LT) (c10 : Fl true) (e10 : LT) : aAx Tryz.prog D Hs F.aWN [way 14] 0 J (way 10,bR s1 c2 e2 c3 c3_0 e3_0 c3_1 e3_1 c3_2 e3_2 c8 e8 c9 c9_0 e9_0 c9_1 e9_1 c9_2 e9_2 c10 e10) = (D F.aWR [.agg [.sl c9_0 e9_0,.sl c9_1 e9_1,.sl c9_2 e9_2],.leaf (.str s1),.leaf (.sl c10 e10)] []).bind fun r => pN T.aYr r.fst fun es => (D F.aXn [.leaf (.sl aQ es),.leaf (.sl c8 e8)] []).bind fun r => aM r.fst fun l => dY l fun b => aB (!b) (some (.leaf (.bool false),[])) ((D F.aX1 [.agg [.sl c3_0 e3_0,.sl c3_1 e3_1,.sl c3_2 e3_2]] []).bind fun r => fA r.fst fun cs => aA (cs.length == 3) (atK cs 0 fun l => slK l fun c es_1 => atK cs 1 fun l => slK l fun c_1 es_2 => atK cs 2 fun l => slK l fun c_2 es_3 => (D F.aX6 [.agg [.sl c9_0 e9_0,.sl c9_1 e9_1,.sl c9_2 e9_2],.agg [.sl c es_1,.sl c_1 es_2,.sl c_2 es_3]] []).bind fun r => aM r.fst fun l => dY l fun b => aB (!b) (some (.leaf (.bool false),[])) ((D F.aYu [.leaf (.sl c2 e2)] []).bind fun r => kO r.fst fun c es_4 => (D F.aYL [.leaf (.sl c10 e10),.leaf (.sl c es_4)] []).bind fun r => aM r.fst fun l => dY l fun b => aB (!b) (some (.leaf (.bool false),[])) (J (way 14,St.mk [.any,.leaf (.str s1),.leaf (.sl c2 e2),.eptr c3 [.sl c3_0 e3_0,.sl c3_1 e3_1,.sl c3_2 e3_2] 0,.any,.any,.any,.any,.leaf (.sl c8 e8),.eptr c9 [.sl c9_0 e9_0,.sl c9_1 e9_1,.sl c9_2 e9_2] 0,.leaf (.sl c10 e10),.own (some T.aYr) es,.any,.any,.any,.any,.any,.any,.any,.any,.any,.any,.any,.any,.any,.any,.any,.any,.any,.any,.any,.any,.any,.any,.any,.any,.any,.any,.any,.any,.any,.any,.any,.any,.any,.any,.any,.any,.any,.any,.any,.any,.any,.any,.any,.any,.any,.any,.any,.any,.any,.any,.any,.any,.any,.any,.any,.any,.any,.any,.any,.any,.any,.any,.any,.any,.any,.any,.any,.any,.any,.any,.any,.any,.any,.any,.any,.any,.any,.any,.any,.any,.any,.any,.any,.any,.any,.any,.any,.any] [none,none,none,none,none,none,none,none,none,none,none,none,none,none,none,none,none,none,none,none,none,none,none,none,none,none,none,none,none,none,none,none,none,none,none,none,none,none,none,none,none,none,none,none,none,none,none,none,none,none,none,none,none,none,none,none,none,none,none,none,none,none,none,none,none,none,none,none,none,none,none,none,none,none,none,none,none,none,none,none,none,none,none,none,none,none,none,none,none,none,none,none,none,none,none,none,none,none,none,none]))))) := by revert J; refine id ?_; intro J; kernel_rfl
def bQ (s1 : ByteArray) (c2 : Fl true) (e2 : LT) (c3 c3_0 : Fl true) (e3_0 : LT) (c3_1 : Fl true) (e3_1 : LT) (c3_2 : Fl true) (e3_2 : LT) (c8 : Fl true) (e8 : LT) (c9 c9_0 : Fl true) (e9_0 : LT) (c9_1 : Fl true) (e9_1 : LT) (c9_2 : Fl true) (e9_2 : LT) (c10 : Fl true) (e10 : LT) (c11 : Fl true) (e11 : LT) : St true := St.mk [.any,.leaf (.str s1),.leaf (.sl c2 e2),.eptr c3 [.sl c3_0 e3_0,.sl c3_1 e3_1,.sl c3_2 e3_2] 0,.any,.any,.any,.any,.leaf (.sl c8 e8),.eptr c9 [.sl c9_0 e9_0,.sl c9_1 e9_1,.sl c9_2 e9_2] 0,.leaf (.sl c10 e10),.leaf (.sl c11 e11),.any,.any,.any,.any,.any,.any,.any,.any,.any,.any,.any,.any,.any,.any,.any,.any,.any,.any,.any,.any,.any,.any,.any,.any,.any,.any,.any,.any,.any,.any,.any,.any,.any,.any,.any,.any,.any,.any,.any,.any,.any,.any,.any,.any,.any,.any,.any,.any,.any,.any,.any,.any,.any,.any,.any,.any,.any,.any,.any,.any,.any,.any,.any,.any,.any,.any,.any,.any,.any,.any,.any,.any,.any,.any,.any,.any,.any,.any,.any,.any,.any,.any,.any,.any,.any,.any,.any,.any] [none,none,none,none,none,none,none,none,none,none,none,none,none,none,none,none,none,none,none,none,none,none,none,none,none,none,none,none,none,none,none,none,none,none,none,none,none,none,none,none,none,none,none,none,none,none,none,none,none,none,none,none,none,none,none,none,none,none,none,none,none,none,none,none,none,none,none,none,none,none,none,none,none,none,none,none,none,none,none,none,none,none,none,none,none,none,none,none,none,none,none,none,none,none,none,none,none,none,none,none]
theorem yU (D : bK true) (J : PT → Ret true) (s1 : ByteArray) (c2 : Fl true) (e2 : LT) (c3 : Fl true) (c3_0 : Fl true) (e3_0 : LT) (c3_1 : Fl true) (e3_1 : LT) (c3_2 : Fl true) (e3_2 : LT) (c8 : Fl true) (e8 : LT) (c9 : Fl true) (c9_0 : Fl true) (e9_0 : LT) (c9_1 : Fl true) (e9_1 : LT) (c9_2 : Fl true) (e9_2 : LT) (c10 : Fl true) (e10 : LT) (c11 : Fl true) (e11 : LT) : aAx Tryz.prog D Hs F.aWN [way 18] 0 J (way 14,bQ s1 c2 e2 c3 c3_0 e3_0 c3_1 e3_1 c3_2 e3_2 c8 e8 c9 c9_0 e9_0 c9_1 e9_1 c9_2 e9_2 c10 e10 c11 e11) = (D F.aXi [.agg [.sl c9_0 e9_0,.sl c9_1 e9_1,.sl c9_2 e9_2],.leaf (.int .i64 1)] []).bind fun r => jT r.snd (aM r.fst fun l => dG .i64 l fun n => (D F.aX2 [.leaf (.sl c10 e10),.leaf (.int .i64 n)] []).bind fun r => jT r.snd (aM r.fst fun l => dG .i64 l fun n => aB (decide (n < 0) == false) ((D F.aXn [.leaf (.sl c11 e11),.leaf (.sl c8 e8)] []).bind fun r => aM r.fst fun l => dY l fun b => aB (!b) (some (.leaf (.bool false),[])) (J (way 18,St.mk [.any,.leaf (.str s1),.leaf (.sl c2 e2),.eptr c3 [.sl c3_0 e3_0,.sl c3_1 e3_1,.sl c3_2 e3_2] 0,.any,.any,.any,.any,.leaf (.sl c8 e8),.any,.any,.leaf (.sl c11 e11),.any,.any,.any,.any,.any,.any,.any,.any,.any,.any,.any,.any,.any,.any,.any,.any,.any,.any,.any,.any,.any,.any,.any,.any,.any,.any,.any,.any,.any,.any,.any,.any,.any,.any,.any,.any,.any,.any,.any,.any,.any,.any,.any,.any,.any,.any,.any,.any,.any,.any,.any,.any,.any,.any,.any,.any,.any,.any,.any,.any,.any,.any,.any,.any,.any,.any,.any,.any,.any,.any,.any,.any,.any,.any,.any,.any,.any,.any,.any,.any,.any,.any,.any,.any,.any,.any,.any,.any] [none,none,none,none,none,none,none,none,none,none,none,none,none,none,none,none,none,none,none,none,none,none,none,none,none,none,none,none,none,none,none,none,none,none,none,none,none,none,none,none,none,none,none,none,none,none,none,none,none,none,none,none,none,none,none,none,none,none,none,none,none,none,none,none,none,none,none,none,none,none,none,none,none,none,none,none,none,none,none,none,none,none,none,none,none,none,none,none,none,none,none,none,none,none,none,none,none,none,none,none]))) (some (.leaf (.bool false),[])))) := by revert J; refine id ?_; intro J; kernel_rfl
def dR (s1 : ByteArray) (c2 : Fl true) (e2 : LT) (c3 c3_0 : Fl true) (e3_0 : LT) (c3_1 : Fl true) (e3_1 : LT) (c3_2 : Fl true) (e3_2 : LT) (c8 : Fl true) (e8 : LT) (c11 : Fl true) (e11 : LT) : St true := St.mk [.any,.leaf (.str s1),.leaf (.sl c2 e2),.eptr c3 [.sl c3_0 e3_0,.sl c3_1 e3_1,.sl c3_2 e3_2] 0,.any,.any,.any,.any,.leaf (.sl c8 e8),.any,.any,.leaf (.sl c11 e11),.any,.any,.any,.any,.any,.any,.any,.any,.any,.any,.any,.any,.any,.any,.any,.any,.any,.any,.any,.any,.any,.any,.any,.any,.any,.any,.any,.any,.any,.any,.any,.any,.any,.any,.any,.any,.any,.any,.any,.any,.any,.any,.any,.any,.any,.any,.any,.any,.any,.any,.any,.any,.any,.any,.any,.any,.any,.any,.any,.any,.any,.any,.any,.any,.any,.any,.any,.any,.any,.any,.any,.any,.any,.any,.any,.any,.any,.any,.any,.any,.any,.any,.any,.any,.any,.any,.any,.any] [none,none,none,none,none,none,none,none,none,none,none,none,none,none,none,none,none,none,none,none,none,none,none,none,none,none,none,none,none,none,none,none,none,none,none,none,none,none,none,none,none,none,none,none,none,none,none,none,none,none,none,none,none,none,none,none,none,none,none,none,none,none,none,none,none,none,none,none,none,none,none,none,none,none,none,none,none,none,none,none,none,none,none,none,none,none,none,none,none,none,none,none,none,none,none,none,none,none,none,none]
theorem yR (D : bK true) (J : PT → Ret true) (s1 : ByteArray) (c2 : Fl true) (e2 : LT) (c3 : Fl true) (c3_0 : Fl true) (e3_0 : LT) (c3_1 : Fl true) (e3_1 : LT) (c3_2 : Fl true) (e3_2 : LT) (c8 : Fl true) (e8 : LT) (c11 : Fl true) (e11 : LT) : aAx Tryz.prog D Hs F.aWN [] 0 J (way 18,dR s1 c2 e2 c3 c3_0 e3_0 c3_1 e3_1 c3_2 e3_2 c8 e8 c11 e11) = (D F.aWV [.leaf (.sl c11 e11),.leaf (.int .i64 1)] []).bind fun r => jT r.snd (aM r.fst fun l => dG .i64 l fun n => (D F.aWX [.leaf (.sl c11 e11),.leaf (.int .i64 1)] []).bind fun r => jT r.snd (aM r.fst fun l => dG .i64 l fun n_1 => aB (decide (n_1 < 0)) (some (.leaf (.bool false),[])) (aB (n_1 != n) (some (.leaf (.bool false),[])) ((D F.aX1 [.agg [.sl c3_0 e3_0,.sl c3_1 e3_1,.sl c3_2 e3_2]] []).bind fun r => fA r.fst fun cs => aA (cs.length == 3) (atK cs 0 fun l => slK l fun c es => atK cs 1 fun l => slK l fun c_1 es_1 => atK cs 2 fun l => slK l fun c_2 es_2 => (D F.aYu [.leaf (.sl c2 e2)] []).bind fun r => kO r.fst fun c_3 es_3 => (D F.aWR [.agg [.sl c es,.sl c_1 es_1,.sl c_2 es_2],.leaf (.str s1),.leaf (.sl c_3 es_3)] []).bind fun r => pN T.aYr r.fst fun es => (D F.aXn [.leaf (.sl aQ es),.leaf (.sl c8 e8)] []).bind fun r => aM r.fst fun l => dY l fun b => aB (!b) (some (.leaf (.bool false),[])) ((D F.aWX [.leaf (.sl c11 e11),.leaf (.int .i64 1)] []).bind fun r => jT r.snd (aM r.fst fun l => dG .i64 l fun n_2 => aB (decide (n_2 < 0)) (some (.leaf (.bool false),[])) (aB (n_2 != n) (some (.leaf (.bool false),[])) (some (.leaf (.bool true),[])))))))))) := by revert J; refine id ?_; intro J; kernel_rfl
def oC (s1 : ByteArray) (c2 : Fl true) (e2 : LT) (c3 c3_0 : Fl true) (e3_0 : LT) (c3_1 : Fl true) (e3_1 : LT) (c3_2 : Fl true) (e3_2 : LT) (c8 : Fl true) (e8 : LT) (n11 : Nat) (vx11 : List (SV true)) : St true := St.mk [.any,.leaf (.str s1),.leaf (.sl c2 e2),.eptr c3 [.sl c3_0 e3_0,.sl c3_1 e3_1,.sl c3_2 e3_2] 0,.any,.any,.any,.any,.leaf (.sl c8 e8),.any,.any,.bsl 11 3 0 n11,.any,.any,.any,.any,.any,.any,.any,.any,.any,.any,.any,.any,.any,.any,.any,.any,.any,.any,.any,.any,.any,.any,.any,.any,.any,.any,.any,.any,.any,.any,.any,.any,.any,.any,.any,.any,.any,.any,.any,.any,.any,.any,.any,.any,.any,.any,.any,.any,.any,.any,.any,.any,.any,.any,.any,.any,.any,.any,.any,.any,.any,.any,.any,.any,.any,.any,.any,.any,.any,.any,.any,.any,.any,.any,.any,.any,.any,.any,.any,.any,.any,.any,.any,.any,.any,.any,.any,.any] [none,none,none,none,none,none,none,none,none,none,none,some vx11,none,none,none,none,none,none,none,none,none,none,none,none,none,none,none,none,none,none,none,none,none,none,none,none,none,none,none,none,none,none,none,none,none,none,none,none,none,none,none,none,none,none,none,none,none,none,none,none,none,none,none,none,none,none,none,none,none,none,none,none,none,none,none,none,none,none,none,none,none,none,none,none,none,none,none,none,none,none,none,none,none,none,none,none,none,none,none,none]
theorem xS (D : bK true) (J : PT → Ret true) (s1 : ByteArray) (c2 : Fl true) (e2 : LT) (c3 : Fl true) (c3_0 : Fl true) (e3_0 : LT) (c3_1 : Fl true) (e3_1 : LT) (c3_2 : Fl true) (e3_2 : LT) (c8 : Fl true) (e8 : LT) (n11 : Nat) (vx11 : List (SV true)) : aAx Tryz.prog D Hs F.aWN [] 0 J (way 18,oC s1 c2 e2 c3 c3_0 e3_0 c3_1 e3_1 c3_2 e3_2 c8 e8 n11 vx11) = aA ([vx11].all fun x => x.all SV.flat) ((D F.aWV [.bsl 0 3 0 n11,.leaf (.int .i64 1)] [vx11]).bind fun r => mO r.snd fun d r_1 => jT r_1 (aM r.fst fun l => dG .i64 l fun n => aA ([d].all fun x => x.all SV.flat) ((D F.aWX [.bsl 0 3 0 n11,.leaf (.int .i64 1)] [d]).bind fun r => mO r.snd fun d r_2 => jT r_2 (aM r.fst fun l => dG .i64 l fun n_1 => aB (decide (n_1 < 0)) (some (.leaf (.bool false),[])) (aB (n_1 != n) (some (.leaf (.bool false),[])) ((D F.aX1 [.agg [.sl c3_0 e3_0,.sl c3_1 e3_1,.sl c3_2 e3_2]] []).bind fun r => fA r.fst fun cs => aA (cs.length == 3) (atK cs 0 fun l => slK l fun c es => atK cs 1 fun l => slK l fun c_1 es_1 => atK cs 2 fun l => slK l fun c_2 es_2 => (D F.aYu [.leaf (.sl c2 e2)] []).bind fun r => kO r.fst fun c_3 es_3 => (D F.aWR [.agg [.sl c es,.sl c_1 es_1,.sl c_2 es_2],.leaf (.str s1),.leaf (.sl c_3 es_3)] []).bind fun r => pN T.aYr r.fst fun es => (D F.aXn [.leaf (.sl aQ es),.leaf (.sl c8 e8)] []).bind fun r => aM r.fst fun l => dY l fun b => aB (!b) (some (.leaf (.bool false),[])) (aA ([d].all fun x => x.all SV.flat) ((D F.aWX [.bsl 0 3 0 n11,.leaf (.int .i64 1)] [d]).bind fun r => mO r.snd fun d r_3 => jT r_3 (aM r.fst fun l => dG .i64 l fun n_2 => aB (decide (n_2 < 0)) (some (.leaf (.bool false),[])) (aB (n_2 != n) (some (.leaf (.bool false),[])) (some (.leaf (.bool true),[]))))))))))))) := by revert J; refine id ?_; intro J; kernel_rfl
end Go.Vs
end
section
namespace Go.Vs
open Go Go.RowKit
variable {m : Bool} {P : Program} {N : Env} {s : St m} {tmps : Array Value} {w w' : World} {F : Fr} {Ow : Own} {bm : Nat → Nat}
theorem aKP (h : Inv P s tmps w F N Ow bm) (hb : Below w.heap.size w w') : eN N w F w' F := by
  refine eN.mk' (fun g j hj => ?_) (fun g => Nat.le_refl _) (fun g hg => ?_) (fun g n hg => ?_)
  · have hg : g < w.heap.size := Nat.lt_of_not_le fun hn => by have := (h.new g hn).1; omega
    unfold World.cell?
    simp only [hb.block g hg]
  · obtain ⟨cur, e, hc⟩ := hg
    exact ⟨cur, e, by rw [hb.block g (Array.getElem?_eq_some_iff.1 hc).1]; exact hc⟩
  · obtain ⟨cur, e, z, hc, hn⟩ := hg
    exact ⟨cur, e, z, by rw [hb.block g (Array.getElem?_eq_some_iff.1 hc).1]; exact hc, hn⟩
theorem aSH (h : Inv P s tmps w F N Ow bm) (hb : Below w.heap.size w w') : Far N w F Ow w' F Ow :=
  ⟨hb.os, hb.tape, hb.output, hb.size, aKP h hb, fun g hg ho => ⟨fun _ => hb.block g hg, rfl, ho⟩⟩
theorem aSg (h : Inv P s tmps w F N Ow bm) (hb : Below w.heap.size w w') {l : aC m} {v : Value} (hv : eB w' F N l v) :
    Inv P { tmps := [SV.leaf l], boxes := ([] : List (List (SV m))).map some } #[v] w' F N Ow bm := by
  refine ⟨rfl, fun t => ?_, fun b cs hc => by simp [aW] at hc, h.low.to (aKP h hb) hb.size, fun g hg => h.new g (Nat.le_trans hb.size hg), fun b cs hc => by simp [aW] at hc, fun g hz => ?_⟩
  · cases t with
    | zero => exact aR.leaf hv
    | succ t => simp only [List.getD_cons_succ, List.getD_nil]; exact aR.any
  · obtain ⟨h1, cur, e, h2⟩ := h.zow g hz
    exact ⟨h1, cur, e, by rw [hb.block g (Nat.lt_of_lt_of_le (N.lt g hz) h.low.le)]; exact h2⟩
theorem aUR {a : ByteArray} {bs : List (Option (List (SV m)))} (h : Inv P { tmps := [.leaf (.str a)], boxes := bs } tmps w F N Ow bm) : tmps = #[.string a] := by
  have hl := h.len
  have hs := h.slot 0
  have hv : tmps.getD 0 undef = .string a := by
    have h1 : eB w F N (aC.str a : aC m) (tmps.getD 0 undef) := by simpa [aR, dF] using hs
    generalize tmps.getD 0 undef = v at h1
    cases h1; rfl
  have h1 : tmps.size = 1 := hl.symm
  apply Array.ext
  · simpa using h1
  · intro i hi hi2
    have : i = 0 := by omega
    subst this
    simpa [Array.getD, hi] using hv
end Go.Vs
end
