/- What the program's functions compute, read off their text by the shadow runner (VsNames, VsLst, VsRaw, VsInPlace, VsSort, WP); no condition. -/
import Derived.Laws.Strings
import Derived.Sort.Walk0
import Derived.Sort.Grow
import Derived.Sort.EncStr
import Derived.Test.YtdbomanmhhhndaaGreatVB4
section
set_option linter.unusedVariables false
namespace Go.Vs
def key (e : El) : List UInt8 := (bC e 0).toList
theorem leT {a b c : List UInt8} (h : a ≤ b) (k : b ≤ c) : a ≤ c := List.le_trans h k
theorem leR (a : List UInt8) : a ≤ a := List.le_refl a
theorem leN {a b : List UInt8} (h : ¬ a ≤ b) : b ≤ a := (List.le_total a b).resolve_left h
theorem leA {a b : List UInt8} (h : a ≤ b) (k : b ≤ a) : a = b := List.le_antisymm h k
theorem ltI {a b : List UInt8} : ¬ a < b ↔ b ≤ a := List.not_lt
def rZ (l : List El) : Prop := l.Pairwise fun a b => key a ≤ key b
def tV (out : List El) (x : El) : List El := if (out.getLast?.map key) = some (key x) then out else out ++ [x]
theorem aHD {out : List El} {x : El} {s : List UInt8} : (∃ e ∈ tV out x, key e = s) ↔ (∃ e ∈ out, key e = s) ∨ key x = s := by
  unfold tV
  split
  · rename_i h
    rw [Option.map_eq_some_iff] at h
    obtain ⟨l, hl, hk⟩ := h
    constructor
    · exact .inl
    · rintro (h | h)
      · exact h
      · exact ⟨l, List.mem_of_getLast? hl, hk.trans h⟩
  · constructor
    · rintro ⟨e, he, hs⟩
      rcases List.mem_append.1 he with he | he
      · exact .inl ⟨e, he, hs⟩
      · rw [List.mem_singleton.1 he] at hs; exact .inr hs
    · rintro (⟨e, he, hs⟩ | h)
      · exact ⟨e, List.mem_append_left _ he, hs⟩
      · exact ⟨x, by simp, h⟩
theorem jP {out : List El} {x e : El} (h : e ∈ tV out x) : e ∈ out ∨ e = x := by
  unfold tV at h
  split at h
  · exact .inl h
  · rcases List.mem_append.1 h with h | h
    · exact .inl h
    · exact .inr (List.mem_singleton.1 h)
theorem aBe (out : List El) (x : El) : (tV out x).length ≤ out.length + 1 := by unfold tV; split <;> simp
theorem aAf {out : List El} {x : El} (h : rZ out) (hx : ∀ o ∈ out, key o ≤ key x) : rZ (tV out x) := by
  unfold tV
  split
  · exact h
  · exact List.pairwise_append.2 ⟨h, by simp, fun a ha b hb => by rw [List.mem_singleton.1 hb]; exact hx a ha⟩
def fin (xs ys out : List El) : List El := match xs, ys with
  | [], [] => out
  | x :: xs, [] => fin xs [] (tV out x)
  | [], y :: ys => fin [] ys (tV out y)
  | x :: xs, y :: ys => if key x ≤ key y then fin xs (y :: ys) (tV out x) else fin (x :: xs) ys (tV out y)
termination_by xs.length + ys.length
structure aTC (xs ys out r : List El) : Prop where
  up : rZ r
  mem : ∀ s, (∃ e ∈ r, key e = s) ↔ (∃ e ∈ out, key e = s) ∨ (∃ e ∈ xs, key e = s) ∨ ∃ e ∈ ys, key e = s
  len : r.length ≤ out.length + xs.length + ys.length
  sub : ∀ e ∈ r, e ∈ out ∨ e ∈ xs ∨ e ∈ ys
theorem aMo : ∀ (n : Nat) (xs ys out : List El), xs.length + ys.length = n → rZ xs → rZ ys → rZ out → (∀ o ∈ out, ∀ x ∈ xs, key o ≤ key x) → (∀ o ∈ out, ∀ y ∈ ys, key o ≤ key y) → aTC xs ys out (fin xs ys out) := by
  intro n
  induction n using Nat.strongRecOn with
  | ind n ih =>
    intro xs ys out hn hx hy ho h1 h2
    match xs, ys with
    | [], [] => unfold fin; exact ⟨ho, fun s => by simp, by simp, fun e he => .inl he⟩
    | x :: xs, [] =>
      unfold fin
      have hx' := List.pairwise_cons.1 hx
      have j := ih (xs.length + 0) (by simp at hn; omega) xs [] (tV out x) rfl hx'.2 hy (aAf ho fun o h => h1 o h x (by simp)) (fun o h z hz => by
        rcases jP h with h | rfl
        · exact h1 o h z (by simp [hz])
        · exact hx'.1 z hz) (fun o h z hz => by simp at hz)
      refine ⟨j.up, fun s => ?_, by have := j.len; have := aBe out x; simp at *; omega, fun e he => ?_⟩
      · rw [j.mem, aHD]; simp [or_assoc]
      · rcases j.sub e he with h | h | h
        · rcases jP h with h | rfl
          · exact .inl h
          · exact .inr (.inl (by simp))
        · exact .inr (.inl (by simp [h]))
        · simp at h
    | [], y :: ys =>
      unfold fin
      have hy' := List.pairwise_cons.1 hy
      have j := ih (0 + ys.length) (by simp at hn; omega) [] ys (tV out y) rfl hx hy'.2 (aAf ho fun o h => h2 o h y (by simp)) (fun o h z hz => by simp at hz) (fun o h z hz => by
        rcases jP h with h | rfl
        · exact h2 o h z (by simp [hz])
        · exact hy'.1 z hz)
      refine ⟨j.up, fun s => ?_, by have := j.len; have := aBe out y; simp at *; omega, fun e he => ?_⟩
      · rw [j.mem, aHD]; simp [or_assoc]
      · rcases j.sub e he with h | h | h
        · rcases jP h with h | rfl
          · exact .inl h
          · exact .inr (.inr (by simp))
        · simp at h
        · exact .inr (.inr (by simp [h]))
    | x :: xs, y :: ys =>
      have hx' := List.pairwise_cons.1 hx
      have hy' := List.pairwise_cons.1 hy
      unfold fin
      by_cases hc : key x ≤ key y
      · rw [if_pos hc]
        have j := ih (xs.length + (y :: ys).length) (by simp at hn ⊢; omega) xs (y :: ys) (tV out x) rfl hx'.2 hy (aAf ho fun o h => h1 o h x (by simp)) (fun o h z hz => by
          rcases jP h with h | rfl
          · exact h1 o h z (by simp [hz])
          · exact hx'.1 z hz) (fun o h z hz => by
          rcases jP h with h | rfl
          · exact h2 o h z hz
          · rcases List.mem_cons.1 hz with rfl | hz
            · exact hc
            · exact leT hc (hy'.1 z hz))
        refine ⟨j.up, fun s => ?_, by have := j.len; have := aBe out x; simp at *; omega, fun e he => ?_⟩
        · rw [j.mem, aHD]; simp [or_assoc]
        · rcases j.sub e he with h | h | h
          · rcases jP h with h | rfl
            · exact .inl h
            · exact .inr (.inl (by simp))
          · exact .inr (.inl (by simp [h]))
          · exact .inr (.inr h)
      · rw [if_neg hc]
        have hc' := leN hc
        have j := ih ((x :: xs).length + ys.length) (by simp at hn ⊢; omega) (x :: xs) ys (tV out y) rfl hx hy'.2 (aAf ho fun o h => h2 o h y (by simp)) (fun o h z hz => by
          rcases jP h with h | rfl
          · exact h1 o h z hz
          · rcases List.mem_cons.1 hz with rfl | hz
            · exact hc'
            · exact leT hc' (hx'.1 z hz)) (fun o h z hz => by
          rcases jP h with h | rfl
          · exact h2 o h z (by simp [hz])
          · exact hy'.1 z hz)
        refine ⟨j.up, fun s => ?_, by have := j.len; have := aBe out y; simp at *; omega, fun e he => ?_⟩
        · rw [j.mem, aHD]
          simp only [List.mem_cons, exists_eq_or_imp]
          constructor
          · rintro ((h | h) | h | h) <;> simp [h]
          · rintro (h | (h | h) | h | h) <;> simp [h]
        · rcases j.sub e he with h | h | h
          · rcases jP h with h | rfl
            · exact .inl h
            · exact .inr (.inr (by simp))
          · exact .inr (.inl h)
          · exact .inr (.inr (by simp [h]))
theorem aS2 {l : List El} (hr : rZ l) {s : List UInt8} {lo : Nat} (hlo : ∀ (j : Nat) (h : j < l.length), j < lo → key l[j] < s) (hhi : ∀ (j : Nat) (h : j < l.length), lo ≤ j → s ≤ key l[j]) :
    (∃ e ∈ l, key e = s) ↔ ∃ h : lo < l.length, key l[lo] = s := by
  constructor
  · rintro ⟨e, he, hs⟩
    obtain ⟨j, hj, rfl⟩ := List.getElem_of_mem he
    have hjl : lo ≤ j := by
      rcases Nat.lt_or_ge j lo with h | h
      · have := hlo j hj h
        rw [hs] at this
        exact absurd this (ltI.2 (leR s))
      · exact h
    have hlt : lo < l.length := Nat.lt_of_le_of_lt hjl hj
    refine ⟨hlt, leA ?_ (hhi lo hlt (Nat.le_refl _))⟩
    rw [← hs]
    rcases Nat.eq_or_lt_of_le hjl with h | h
    · subst h; exact leR _
    · exact (List.pairwise_iff_getElem.1 hr) lo j hlt hj h
  · rintro ⟨h, hs⟩; exact ⟨l[lo], List.getElem_mem h, hs⟩
theorem aML {l : List El} (hr : rZ l) {i j : Nat} (h : i ≤ j) (hj : j < l.length) : key l[i] ≤ key l[j] := by
  rcases Nat.eq_or_lt_of_le h with h | h
  · subst h; exact leR _
  · exact (List.pairwise_iff_getElem.1 hr) i j (by omega) hj h
end Go.Vs
end
section
set_option linter.unusedVariables false
namespace Go.Vs
abbrev nul : ByteArray := ByteArray.mk #[]
def aQV : aA false → Bool | .sl _ _ => false | .nl _ => false | _ => true
theorem aRv {φ ψ : Fl false → Fl true} {l : aA false} (h : aQV l = true) : reF φ l = reF ψ l := by cases l <;> first | rfl | simp [aQV] at h
theorem aRB {φ ψ : Fl false → Fl true} {l : List El} (h : ∀ e ∈ l, e.all aQV = true) : reE φ l = reE ψ l := by
  rw [zU, zU]
  refine List.map_congr_left fun e he => ?_
  rw [vJ, vJ]
  exact List.map_congr_left fun x hx => aRv (List.all_eq_true.1 (h e he) x hx)
def lB (p : El → Bool) : Int → List El → Int
  | _, [] => -1
  | i, e :: es => if p e = true then i else lB p (i + 1) es
theorem aNj (p : El → Bool) : ∀ (es : List El) (i : Int), 0 ≤ i → lB p i es = -1 ∨ (i ≤ lB p i es ∧ lB p i es < i + es.length)
  | [], i, h => .inl rfl
  | e :: es, i, h => by
    unfold lB
    split
    · right; simp; omega
    · rcases aNj p es (i + 1) (by omega) with h1 | h1
      · exact .inl h1
      · right; simp only [List.length_cons]; push_cast; omega
theorem aP8 (p : El → Bool) : ∀ (es : List El) (i j : Nat), lB p (i : Int) es = (j : Int) → ∃ h : j - i < es.length, i ≤ j ∧ p es[j - i] = true
  | [], i, j, h => by simp [lB] at h
  | e :: es, i, j, h => by
    unfold lB at h
    split at h
    · rename_i hp
      have : i = j := by omega
      subst this
      refine ⟨by simp, Nat.le_refl _, ?_⟩
      simp only [Nat.sub_self, List.getElem_cons_zero]; exact hp
    · obtain ⟨h1, h2, h3⟩ := aP8 p es (i + 1) j (by push_cast; exact h)
      have hj : j - i = (j - (i + 1)) + 1 := by omega
      refine ⟨by simp; omega, by omega, ?_⟩
      simp only [hj, List.getElem_cons_succ]
      exact h3
theorem aHZ {p : El → Bool} {es : List El} (h : ¬ lB p 0 es < 0) : ∃ (j : Nat) (hj : j < es.length), lB p 0 es = (j : Int) ∧ p es[j] = true := by
  rcases aNj p es 0 (by omega) with h1 | ⟨h1, h2⟩
  · omega
  · obtain ⟨j, hj⟩ : ∃ j : Nat, lB p 0 es = (j : Int) := ⟨(lB p 0 es).toNat, by omega⟩
    obtain ⟨a, _, b⟩ := aP8 p es 0 j hj
    exact ⟨j, by simpa using a, hj, by simpa using b⟩
theorem aDT (p : El → Bool) : ∀ (es : List El) (i : Int), 0 ≤ i → decide (lB p i es ≥ 0) = es.any p
  | [], i, h => by simp [lB]
  | e :: es, i, h => by
    unfold lB
    cases hp : p e with
    | true => simp [hp]; omega
    | false => simpa [hp] using aDT p es (i + 1) (by omega)
abbrev at3 (s : ByteArray) (e : El) : Bool := (bC e 3).toList == s.toList
section
variable {β : Type} {es : List El}
theorem aQ1 {p : El → Bool} {A : Int → Option β} {yes : Int → Option β} {no : Option β} (hend : A es.length = no)
    (hstep : ∀ (i : Nat) (hi : i < es.length), A i = aC (p es[i]) (yes i) (A ((i + 1 : Nat) : Int))) :
    ∀ i : Nat, i ≤ es.length → A i = if lB p i (es.drop i) < 0 then no else yes (lB p i (es.drop i)) := by
  refine bY ?_ ?_
  · rw [hend]; simp [lB]
  · intro i hi ih
    rw [hstep i hi, cY hi, ih, bZ, show lB p (i : Int) (es[i] :: es.drop (i + 1)) = if p es[i] = true then (i : Int) else lB p (i + 1) (es.drop (i + 1)) from rfl]
    by_cases hp : p es[i] = true
    · rw [if_pos hp, if_pos hp, if_neg (by omega)]
    · rw [if_neg hp, if_neg hp]; push_cast; rfl
theorem uU {p : El → Bool} {A : Int → Option β} {yes : Int → Option β} {no : Option β} (hend : A es.length = no)
    (hstep : ∀ (i : Nat) (hi : i < es.length), A i = aC (p es[i]) (yes i) (A ((i + 1 : Nat) : Int))) :
    A 0 = if lB p 0 es < 0 then no else yes (lB p 0 es) := by
  have := aQ1 hend hstep 0 (Nat.zero_le _)
  simpa using this
theorem aDf {p : El → Bool} {A : Int → Ret false} {bs : List (List (SV false))} (hend : A es.length = some (aJ (-1), bs))
    (hstep : ∀ (i : Nat) (hi : i < es.length), A i = aC (p es[i]) (some (aJ i, bs)) (A ((i + 1 : Nat) : Int))) : A 0 = some (aJ (lB p 0 es), bs) := by
  rw [uU (yes := fun i => some (aJ i, bs)) hend hstep]
  split
  · rename_i h
    rcases aNj p es 0 (by omega) with h1 | h1
    · rw [h1]
    · omega
  · rfl
theorem aKZ {p : El → Bool} {A : Int → Option β} {yes no : Option β} (hend : A es.length = no)
    (hstep : ∀ (i : Nat) (hi : i < es.length), A i = aC (p es[i]) yes (A ((i + 1 : Nat) : Int))) :
    A 0 = if es.any p = true then yes else no := by
  have h := uU (yes := fun _ => yes) hend hstep
  rw [h, ← aDT p es 0 (by omega)]
  by_cases hc : lB p 0 es < 0
  · rw [if_pos hc, if_neg (by simp; omega)]
  · rw [if_neg hc, if_pos (by simp; omega)]
def nP (g : Nat → El → List El) : Nat → List El → List El
  | _, [] => []
  | i, e :: r => g i e ++ nP g (i + 1) r
theorem aJD (g : El → List El) : ∀ (l : List El) (i : Nat), nP (fun _ => g) i l = l.flatMap g
  | [], _ => rfl
  | e :: r, i => by rw [nP, aJD g r, List.flatMap_cons]
theorem sJ {g : Nat → El → List El} {c : Nat} : ∀ (l : List El) (i : Nat), (∀ (j : Nat) (hj : j < l.length), (g (i + j) l[j]).length ≤ c) → (nP g i l).length ≤ l.length * c
  | [], _, _ => by simp [nP]
  | e :: r, i, h => by
    have h0 := h 0 (by simp)
    have h1 := sJ (g := g) (c := c) r (i + 1) (fun j hj => by have := h (j + 1) (by simpa using hj); simpa [Nat.add_assoc, Nat.add_comm 1 j] using this)
    simp at h0
    rw [nP, List.length_append, List.length_cons, Nat.add_mul]; omega
theorem aMC {g : Nat → El → List El} {x : El} : ∀ (l : List El) (i : Nat), x ∈ nP g i l → ∃ (j : Nat) (hj : j < l.length), x ∈ g (i + j) l[j]
  | [], _, h => by simp [nP] at h
  | e :: r, i, h => by
    rw [nP] at h
    rcases List.mem_append.1 h with h | h
    · exact ⟨0, by simp, by simpa using h⟩
    · obtain ⟨j, hj, hx⟩ := aMC r (i + 1) h
      exact ⟨j + 1, by simpa using hj, by simpa [Nat.add_assoc, Nat.add_comm 1 j] using hx⟩
theorem aSk {g : Nat → El → List El} {A : List El → Int → Option β} {fin : List El → Option β} {c N : Nat} (hg : ∀ (j : Nat) (hj : j < es.length), (g j es[j]).length ≤ c)
    (hend : ∀ out, out.length ≤ N → A out es.length = fin out)
    (hstep : ∀ (i : Nat) (hi : i < es.length) (out : List El), out.length + c ≤ N → A out i = A (out ++ g i es[i]) ((i + 1 : Nat) : Int)) :
    ∀ i : Nat, i ≤ es.length → ∀ out : List El, out.length + (es.length - i) * c ≤ N → A out i = fin (out ++ nP g i (es.drop i)) := by
  refine bY ?_ ?_
  · intro out ho; rw [hend out (by simpa using ho)]; simp [nP]
  · intro i hi ih out ho
    have e1 : (es.length - i) * c = (es.length - (i + 1)) * c + c := by rw [show es.length - i = (es.length - (i + 1)) + 1 by omega, Nat.add_mul, Nat.one_mul]
    rw [hstep i hi out (by omega), ih _ (by have := hg i hi; rw [List.length_append]; omega), cY hi, nP, List.append_assoc]
theorem sL {g : Nat → El → List El} {A : List El → Int → Option β} {fin : List El → Option β} {c N : Nat} (hg : ∀ (j : Nat) (hj : j < es.length), (g j es[j]).length ≤ c)
    (hend : ∀ out, out.length ≤ N → A out es.length = fin out)
    (hstep : ∀ (i : Nat) (hi : i < es.length) (out : List El), out.length + c ≤ N → A out i = A (out ++ g i es[i]) ((i + 1 : Nat) : Int))
    {out : List El} (ho : out.length + es.length * c ≤ N) : A out 0 = fin (out ++ nP g 0 es) := by
  have := aSk hg hend hstep 0 (Nat.zero_le _) out (by simpa using ho)
  simpa using this
theorem aQp {g : Nat → El → List El} {A : List El → Int → Option β} {fin : List El → Option β} {c N : Nat} (hg : ∀ (j : Nat) (hj : j < es.length), (g j es[j]).length ≤ c)
    (hend : ∀ out, out.length ≤ N → A out es.length = fin out)
    (hstep : ∀ (i : Nat) (hi : i < es.length) (out : List El), out.length + c ≤ N → A out i = A (out ++ g i es[i]) ((i + 1 : Nat) : Int))
    (ho : es.length * c ≤ N) : A [] 0 = fin (nP g 0 es) :=
  sL hg hend hstep (out := []) (by simpa using ho)
end
def ifP (q : Bool) (x : El) : List El := if q = true then [x] else []
theorem uY (q : Bool) (x : El) : (ifP q x).length ≤ 1 := by unfold ifP; split <;> simp
theorem aSu {q : Bool} {x y : El} (h : y ∈ ifP q x) : q = true ∧ y = x := by unfold ifP at h; split at h <;> simp_all
@[simp] theorem vW (x : El) : ifP true x = [x] := rfl
@[simp] theorem yE (x : El) : ifP false x = [] := rfl
theorem aNL {n k z : Nat} (h : n + k ≤ 1000000000000) (hz : z ≤ 100) : decide ((n + k) * z ≤ aH) = true := by
  have hb : aH = 140737488355328 := rfl
  rw [decide_eq_true_eq]
  calc (n + k) * z ≤ 1000000000000 * 100 := Nat.mul_le_mul h hz
    _ ≤ aH := by rw [hb]; decide
end Go.Vs
end
section
set_option linter.unusedVariables false
namespace Go.Vs
open Go
variable {m : Bool}
end Go.Vs
end
section
set_option linter.unusedVariables false
namespace Go.Vs
open Go Go.RowKit
variable {m : Bool} {P : Program} {N : Env}
theorem Inv.inPlace {a r : SV m} {cs cs' : List (SV m)} {vals : Array Value} {w w' : World} {F : Fr} {Ow : Own} {bm : Nat → Nat} {cur cur' : Array Value} {e : TypeId} {v : Value}
    (h : Inv P { tmps := [a], boxes := [some cs] } vals w F N Ow bm) (hb : w.heap[bm 0]? = some (.cells cur e (0, 0))) (hF : F (bm 0) = 0) (hO : Ow (bm 0) = some (.blk 0))
    (os : w'.os = w.os) (tape : w'.tape = w.tape) (output : w'.output = w.output) (size : w.heap.size ≤ w'.heap.size) (block : ∀ k, k < w.heap.size → k ≠ bm 0 → w'.heap[k]? = w.heap[k]?)
    (hb' : w'.heap[bm 0]? = some (.cells cur' e (0, 0))) (hs : cur'.size = cur.size) (hl : cs'.length ≤ cur'.size)
    (hrep : ∀ (j : Nat) (c : SV m) (u : Value), cs'[j]? = some c → cur'[j]? = some u → aW P w' F N Ow bm (fun b => (bA [some cs'] b).isSome) (.box 0 j) c u)
    (hr : aW P w' F N Ow bm (fun b => (bA [some cs'] b).isSome) (.tmp 0) r v) :
    Inv P { tmps := [r], boxes := [some cs'] } #[v] w' F N Ow bm ∧ Far N w F Ow w' F Ow := by
  have hg : bm 0 < w.heap.size := (Array.getElem?_eq_some_iff.1 hb).1
  have hk : eC N w F w' F := by
    refine .mk' (fun k j hj => ?_) (fun k => Nat.le_refl _) (lQ.but (bm 0) block fun _ => ⟨cur', e, hb'⟩) (BSz.but (bm 0) block (aHB hb hb' hs))
    by_cases hkg : k = bm 0
    · subst hkg; rw [hF] at hj; omega
    · by_cases hks : k < w.heap.size
      · simp only [World.cell?, block k hks hkg]
      · rw [(h.new k (by omega)).1] at hj; omega
  refine ⟨⟨rfl, fun t => ?_, fun b cs2 hc => ?_, h.low.to hk size, fun g hg' => h.new g (Nat.le_trans size hg'), fun b cs2 hc => ?_, fun g hz => ?_⟩, ⟨os, tape, output, size, hk, fun g hgs ho => ⟨fun _ => block g hgs (fun e1 => by subst e1; rw [hO] at ho; simp at ho), rfl, ho⟩⟩⟩
  · cases t with
    | zero => exact hr
    | succ t => simp only [List.getD_cons_succ, List.getD_nil]; exact aW.any
  · cases b with
    | zero =>
      obtain rfl : cs' = cs2 := by simpa [bA] using hc
      exact .inr ⟨cur', e, hb', hl, hF, hO, hrep⟩
    | succ b => simp [bA] at hc
  · cases b with
    | zero => exact h.bmn 0 cs (by simp [bA])
    | succ b => simp [bA] at hc
  · obtain ⟨h1, c1, e1, h2⟩ := h.zow g hz
    have hne : g ≠ bm 0 := fun e2 => by subst e2; rw [hO] at h1; simp at h1
    exact ⟨h1, c1, e1, by rw [block g (Nat.lt_of_lt_of_le (N.lt g hz) h.low.le) hne]; exact h2⟩
end Go.Vs
end
section
set_option linter.unusedVariables false
namespace Go.Vs
open Go Go.RowKit Go.Proofs
variable {P : Program} {N : Env}
def bsB (l : List UInt8) : ByteArray := ⟨l.toArray⟩
def nL (xs : List (List UInt8)) : List (SV false) := xs.map fun x => .leaf (.str (bsB x))
theorem aLl (xs : List (List UInt8)) : (nL xs).length = xs.length := by simp [nL]
theorem aIT (xs : List (List UInt8)) : ∀ x ∈ nL xs, x.flat = true := fun x hx => by obtain ⟨y, _, rfl⟩ := List.mem_map.1 hx; rfl
theorem aQy {w w' : World} {blk n : Nat} {cur : Array Value} {e : TypeId} {ys : List (List UInt8)} {os : Array Obj} (hb : w.heap[blk]? = some (.cells cur e (0, 0)))
    (hw : w' = Go.Sort.grow (Go.Sort.putRow encStr (Go.Sort.ahead w n) blk 0 ys.toArray) os) :
    w'.os = w.os ∧ w'.tape = w.tape ∧ w'.output = w.output ∧ w.heap.size ≤ w'.heap.size ∧ (∀ k, k < w.heap.size → k ≠ blk → w'.heap[k]? = w.heap[k]?) ∧
      w'.heap[blk]? = some (.cells (Go.Sort.putCells encStr 0 ys.toArray cur) e (0, 0)) := by
  have hblk : blk < w.heap.size := (Array.getElem?_eq_some_iff.1 hb).1
  have hsz : (Go.Sort.putRow encStr (Go.Sort.ahead w n) blk 0 ys.toArray).heap.size = w.heap.size := by rw [Go.Sort.size_putRow]; rfl
  subst hw
  refine ⟨rfl, rfl, rfl, by rw [Go.Sort.size_grow, hsz]; omega, fun k hk hne => ?_, ?_⟩
  · rw [Go.Sort.heap_grow_old _ _ (by rw [hsz]; exact hk)]
    unfold Go.Sort.putRow Go.Sort.mapBlock
    simp only [Array.getElem?_modify, show ¬ blk = k from fun h => hne h.symm, if_false]
    rfl
  · rw [Go.Sort.heap_grow_old _ _ (by rw [hsz]; exact hblk)]
    unfold Go.Sort.putRow Go.Sort.mapBlock
    simp only [Array.getElem?_modify, if_true]
    show Option.map _ w.heap[blk]? = _
    rw [hb]
    rfl
theorem aOk (ys : List (List UInt8)) (cur : Array Value) : (Go.Sort.putCells encStr 0 ys.toArray cur).size = cur.size := by simp [Go.Sort.putCells]
theorem aTm {ys : List (List UInt8)} {cur : Array Value} {j : Nat} {u : Value} {y : List UInt8} (hy : ys[j]? = some y) (hu : (Go.Sort.putCells encStr 0 ys.toArray cur)[j]? = some u) : u = .string (bsB y) := by
  have hj : j < ys.length := (List.getElem?_eq_some_iff.1 hy).1
  unfold Go.Sort.putCells at hu
  rw [Array.getElem?_mapIdx] at hu
  cases hc : cur[j]? with
  | none => rw [hc] at hu; simp at hu
  | some x =>
    rw [hc] at hu
    simp only [Option.map_some, Option.some.injEq, Nat.zero_le, true_and, Nat.zero_add, List.size_toArray, hj, if_true, Nat.sub_zero] at hu
    rw [← hu, show ys.toArray[j]! = y from by rw [getElem!_pos _ j (by simpa using hj)]; simpa using (List.getElem?_eq_some_iff.1 hy).2]
    rfl
theorem aL6 {s : St false} {tmps : Array Value} {w : World} {F : Fr} {Ow : Own} {bm : Nat → Nat} {xs : List (List UInt8)} (h : Inv P s tmps w F N Ow bm) (hs : bA s.boxes 0 = some (nL xs)) (hx : xs ≠ []) :
    ∃ cur e, w.heap[bm 0]? = some (.cells cur e (0, 0)) ∧ xs.length ≤ cur.size ∧ F (bm 0) = 0 ∧ Ow (bm 0) = some (.blk 0) ∧ Go.Sort.Holds encStr w (bm 0) 0 xs.toArray := by
  rcases h.box 0 _ hs with h0 | ⟨cur, e, hb, hl, hF, hO, hr⟩
  · cases xs with
    | nil => exact absurd rfl hx
    | cons x xs => simp [nL] at h0
  · rw [aLl] at hl
    refine ⟨cur, e, hb, hl, hF, hO, fun j hj => ?_⟩
    have hj' : j < xs.length := by simpa using hj
    have hc : cur[j]? = some cur[j] := Array.getElem?_eq_getElem (by omega)
    have := hr j (.leaf (.str (bsB xs[j]))) cur[j] (by simp [nL, hj']) hc
    have hR : dT w F N (aA.str (bsB xs[j]) : aA false) cur[j] := by simpa [aW, dC] using this
    have hv : cur[j] = .string (bsB xs[j]) := by generalize cur[j] = u at hR; cases hR; rfl
    refine ⟨?_, ?_⟩
    · simp only [World.cell?, hb, Nat.zero_add]
      rw [if_neg (by simp), hc, hv, getElem!_pos _ j hj]
      simp [bsB]
    · simp only [World.frozen?, hb]
      simp
theorem aKs {a r : SV false} {cs : List (SV false)} {vals : Array Value} {w w' : World} {F : Fr} {Ow : Own} {bm : Nat → Nat} {cur : Array Value} {e : TypeId} {v : Value} {n : Nat} {ys : List (List UInt8)} {os : Array Obj}
    (h : Inv P { tmps := [a], boxes := [some cs] } vals w F N Ow bm) (hb : w.heap[bm 0]? = some (.cells cur e (0, 0))) (hl : ys.length ≤ cur.size) (hF : F (bm 0) = 0) (hO : Ow (bm 0) = some (.blk 0))
    (hw : w' = Go.Sort.grow (Go.Sort.putRow encStr (Go.Sort.ahead w n) (bm 0) 0 ys.toArray) os)
    (hr : aW P w' F N Ow bm (fun b => (bA [some (nL ys)] b).isSome) (.tmp 0) r v) :
    Inv P { tmps := [r], boxes := [some (nL ys)] } #[v] w' F N Ow bm ∧ Far N w F Ow w' F Ow := by
  obtain ⟨f1, f2, f3, f4, f5, f6⟩ := aQy hb hw
  refine h.inPlace hb hF hO f1 f2 f3 f4 f5 f6 (aOk _ _) (by rw [aLl, aOk]; exact hl) (fun j c u hc hu => ?_) hr
  unfold nL at hc
  rw [List.getElem?_map] at hc
  cases hy : ys[j]? with
  | none => rw [hy] at hc; simp at hc
  | some y =>
    rw [hy] at hc
    simp only [Option.map_some, Option.some.injEq] at hc
    subst hc
    rw [aTm hy hu]
    exact aW.leaf (dT.str _)
theorem aLp {a r : SV false} {cs : List (SV false)} {vals : Array Value} {w : World} {F : Fr} {Ow : Own} {bm : Nat → Nat} {v : Value}
    (h : Inv P { tmps := [a], boxes := [some cs] } vals w F N Ow bm) (hr : aW P w F N Ow bm (fun b => (bA [some cs] b).isSome) (.tmp 0) r v) :
    Inv P { tmps := [r], boxes := [some cs] } #[v] w F N Ow bm ∧ Far N w F Ow w F Ow := by
  refine ⟨⟨rfl, fun t => ?_, h.box, h.low, h.new, h.bmn, h.zow⟩, Far.refl _ _ _⟩
  cases t with
  | zero => exact hr
  | succ t => simp only [List.getD_cons_succ, List.getD_nil]; exact aW.any
end Go.Vs
end
section
open Go Go.Vs Go.Proofs
set_option maxRecDepth 100000
set_option linter.unusedVariables false
namespace Go.Vs
noncomputable section
variable (D : aO false)
section
variable (b26 : Bool) (e5 : LE) (i6 : Int) (s7 s8 : ByteArray) (b44 b57 : Bool) (i9 i12 : Int) (e11 : LE) (i13 i14 i15 : Int) (x2 x3 x0 x1 : cT)
def aK := atA D F.aWf
def aAb : PS := ([1,1,0,1],St.mk ([.any,.any,.ptr 2 0,.ptr 3 0,.any,.own (some T.aVQ) []] ++ bJ 20 ++ [aP b26] ++ bJ 191) ([none,none,some x2.b,some x3.b] ++ noB 214))
def pP : PS := ([1,1,1,0,1,0],St.mk ([.any,.any,.ptr 2 0,.ptr 3 0,.any,.own (some T.aVQ) e5,aJ i6] ++ bJ 211) ([none,none,some x2.b,some x3.b] ++ noB 214))
def zV : PS := ([1,1,1,0,1,0,0,1,0,0,1,1,0,1],St.mk ([.any,.any,.ptr 2 0,.ptr 3 0,.any,.own (some T.aVQ) e5,aJ i6,.leaf (.str s7),.leaf (.str s8)] ++ bJ 35 ++ [aP b44] ++ bJ 173) ([none,none,some x2.b,some x3.b] ++ noB 214))
def wD : PS := ([1,1,1,0,1,0,0,1,0,0,1,1,1],St.mk ([.any,.any,.ptr 2 0,.ptr 3 0,.any,.own (some T.aVQ) e5,aJ i6,.leaf (.str s7),.leaf (.str s8)] ++ bJ 209) ([none,none,some x2.b,some x3.b] ++ noB 214))
def aAm : PS := ([1,1,1,0,1,0,0,1,0,0,1,1,1,1],St.mk ([.any,.any,.ptr 2 0,.ptr 3 0,.any,.own (some T.aVQ) e5,aJ i6,.any,.leaf (.str s8)] ++ bJ 48 ++ [aP b57] ++ bJ 160) ([none,none,some x2.b,some x3.b] ++ noB 214))
def aEc : PS := ([1,1,1,0,1,0,0,1,1],St.mk ([.any,.any,.ptr 2 0,.ptr 3 0,.any,.own (some T.aVQ) e5,aJ i6] ++ bJ 211) ([none,none,some x2.b,some x3.b] ++ noB 214))
def sD : PS := ([1,1,1,1,0,1,0],St.mk ([.any,.any,.ptr 2 0,.ptr 3 0,.any,.own (some T.aVQ) e5,.any,.any,.any,aJ i9] ++ bJ 208) ([none,none,some x2.b,some x3.b] ++ noB 214))
def aEd : PS := ([1,1,1,1,0,1,0,0,1,1],St.mk ([.any,.any,.ptr 2 0,.ptr 3 0,.any,.own (some T.aVQ) e5,.any,.any,.any,aJ i9] ++ bJ 208) ([none,none,some x2.b,some x3.b] ++ noB 214))
def pQ : PS := ([1,1,1,1,1,1,0,1,0],St.mk ([.any,.any,.ptr 2 0,.ptr 3 0,.any,.own (some T.aVQ) e5] ++ bJ 5 ++ [.own (some T.aWl) [],aJ i12] ++ bJ 205) ([none,none,some x2.b,some x3.b] ++ noB 214))
def aCO : PS := ([1,1,1,1,1,1,0,1,0,0,1,1],St.mk ([.any,.any,.ptr 2 0,.ptr 3 0,.any,.own (some T.aVQ) e5] ++ bJ 5 ++ [.own (some T.aWl) [],aJ i12] ++ bJ 205) ([none,none,some x2.b,some x3.b] ++ noB 214))
def mA : PS := ([1,1,1,1,1,1,1,0,1,0],St.mk ([.any,.any,.ptr 2 0,.ptr 3 0,.any,.own (some T.aVQ) e5] ++ bJ 5 ++ [.own (some T.aWl) e11,.any,aJ i13] ++ bJ 204) ([none,none,some x2.b,some x3.b] ++ noB 214))
def oG : PS := ([1,1,1,1,1,1,1,1,0,1,0],St.mk ([.any,.any,.ptr 2 0,.ptr 3 0,.any,.own (some T.aVQ) e5] ++ bJ 5 ++ [.own (some T.aWl) e11,.any,.any,aJ i14] ++ bJ 203) ([none,none,some x2.b,some x3.b] ++ noB 214))
def oB : PS := ([1,1,1,1,1,1,1,1,1,1,0,1,0],St.mk ([.any,.any,.ptr 2 0,.ptr 3 0,.any,.own (some T.aVQ) e5] ++ bJ 5 ++ [.own (some T.aWl) e11,.any,.any,.any,aJ i15] ++ bJ 202) ([none,none,some x2.b,some x3.b] ++ noB 214))
def yA : PS := ([1,1,1,1,1,1,1,1,1,1,0,1,0,0,1,1],St.mk ([.any,.any,.ptr 2 0,.ptr 3 0,.any,.own (some T.aVQ) e5] ++ bJ 5 ++ [.own (some T.aWl) e11,.any,.any,.any,aJ i15] ++ bJ 202) ([none,none,some x2.b,some x3.b] ++ noB 214))
def gL : List (List Nat) := [[1,1,0,1],[1,1,1,0,1,0],[1,1,1,0,1,0,0,1,1],[1,1,1,0,1,0,0,1,0,0,1,1,1],[1,1,1,0,1,0,0,1,0,0,1,1,0,1],[1,1,1,0,1,0,0,1,0,0,1,1,1,1],[1,1,1,1,0,1,0],[1,1,1,1,0,1,0,0,1,1],[1,1,1,1,1,1,0,1,0],[1,1,1,1,1,1,0,1,0,0,1,1],[1,1,1,1,1,1,1,0,1,0],[1,1,1,1,1,1,1,1,0,1,0],[1,1,1,1,1,1,1,1,1,1,0,1,0],[1,1,1,1,1,1,1,1,1,1,0,1,0,0,1,1]]
theorem zL : aK D (aAb b26 x2 x3) = aC b26 (some (.own (some T.aVQ) [],[])) (aK D (pP [] 1 x2 x3)) := by refine (aL (J := aK D) (fun _ _ => rfl) gL _).trans ?_; generalize aK D = J; revert J; refine id ?_; intro J; kernel_rfl
theorem aDI : aK D (pP e5 i6 x2 x3) = aC (decide (i6 ≤ 3)) (aJU (D F.aVH [.agg x2.l,aJ i6] []) fun s => aJU (D F.aVH [.agg x3.l,aJ i6] []) fun s_1 => aC ((!s.toList == (ByteArray.mk #[]).toList) == true) (aK D (zV e5 i6 s s_1 (!s.toList == s_1.toList) x2 x3)) (aK D (zV e5 i6 s s_1 false x2 x3))) (aK D (sD e5 0 x2 x3)) := by refine (aL (J := aK D) (fun _ _ => rfl) gL _).trans ?_; generalize aK D = J; revert J; refine id ?_; intro J; kernel_rfl
theorem aKD : aK D (zV e5 i6 s7 s8 b44 x2 x3) = aC b44 (aJU (D F.aVD [aJ i6] []) fun s => aB (decide ((e5.length + 1) * 40 ≤ aH) && true) (aK D (wD (e5 ++ [[.int .i64 1,.str s,.str s7]]) i6 s7 s8 x2 x3))) (aK D (wD e5 i6 s7 s8 x2 x3)) := by refine (aL (J := aK D) (fun _ _ => rfl) gL _).trans ?_; generalize aK D = J; revert J; refine id ?_; intro J; kernel_rfl
theorem aLv : aK D (wD e5 i6 s7 s8 x2 x3) = aC ((s7.toList == (ByteArray.mk #[]).toList) == true) (aK D (aAm e5 i6 s8 (!s8.toList == (ByteArray.mk #[]).toList) x2 x3)) (aK D (aAm e5 i6 s8 false x2 x3)) := by refine (aL (J := aK D) (fun _ _ => rfl) gL _).trans ?_; generalize aK D = J; revert J; refine id ?_; intro J; kernel_rfl
theorem aKQ : aK D (aAm e5 i6 s8 b57 x2 x3) = aC b57 (aJU (D F.aVD [aJ i6] []) fun s => aB (decide ((e5.length + 1) * 40 ≤ aH) && true) (aK D (aEc (e5 ++ [[.int .i64 16,.str s,.str s8]]) i6 x2 x3))) (aK D (aEc e5 i6 x2 x3)) := by refine (aL (J := aK D) (fun _ _ => rfl) gL _).trans ?_; generalize aK D = J; revert J; refine id ?_; intro J; kernel_rfl
theorem aLu : aK D (aEc e5 i6 x2 x3) = aK D (pP e5 (IntKind.i64.wrap (i6 + 1)) x2 x3) := by refine (aL (J := aK D) (fun _ _ => rfl) gL _).trans ?_; generalize aK D = J; revert J; refine id ?_; intro J; kernel_rfl
theorem aEg : aK D (sD e5 i9 x2 x3) = aC (decide (i9 < (↑x2.a0.length : Int))) (aB (decide (0 ≤ i9) && decide (i9 < (↑x2.a0.length : Int)) && sized 11 x2.a0) (gP (x2.a0.getD i9.toNat []) 3 fun s => aKN (D F.aVS [.agg x3.l,.leaf (.str s)] []) fun n => aC (decide (n < 0)) (aB (decide (0 ≤ i9) && decide (i9 < (↑x2.a0.length : Int)) && sized 11 x2.a0) (gP (x2.a0.getD i9.toNat []) 3 fun s => aB (decide ((e5.length + 1) * 40 ≤ aH) && true) (aK D (aEd (e5 ++ [[.int .i64 2,.str s,.str (ByteArray.mk #[])]]) i9 x2 x3)))) (aB (decide (0 ≤ i9) && decide (i9 < (↑x2.a0.length : Int)) && sized 11 x2.a0) (aE.rd (x2.a0.getD i9.toNat []) fun x => aB (decide (0 ≤ n) && decide (n < (↑x3.a0.length : Int)) && sized 11 x3.a0) (aE.rd (x3.a0.getD n.toNat []) fun x_1 => zN T.aVQ (D F.aUx [.agg x.l,.agg x_1.l] []) fun es => aB (decide ((e5.length + es.length) * 40 ≤ aH) && sized 3 es) (aK D (aEd (e5 ++ es) i9 x2 x3))))))) (aK D (pQ e5 0 x2 x3)) := by refine (aL (J := aK D) (fun _ _ => rfl) gL _).trans ?_; generalize aK D = J; revert J; refine id ?_; intro J; kernel_rfl
theorem aCX : aK D (aEd e5 i9 x2 x3) = aK D (sD e5 (IntKind.i64.wrap (i9 + 1)) x2 x3) := by refine (aL (J := aK D) (fun _ _ => rfl) gL _).trans ?_; generalize aK D = J; revert J; refine id ?_; intro J; kernel_rfl
theorem aCP : aK D (pQ e5 i12 x2 x3) = aC (decide (i12 < (↑x3.a0.length : Int))) (aB (decide (0 ≤ i12) && decide (i12 < (↑x3.a0.length : Int)) && sized 11 x3.a0) (gP (x3.a0.getD i12.toNat []) 3 fun s => aKN (D F.aVS [.agg x2.l,.leaf (.str s)] []) fun n => aC (decide (n < 0)) (aB (decide (0 ≤ i12) && decide (i12 < (↑x3.a0.length : Int)) && sized 11 x3.a0) (gP (x3.a0.getD i12.toNat []) 3 fun s => aB (decide ((e5.length + 1) * 40 ≤ aH) && true) (aK D (aCO (e5 ++ [[.int .i64 17,.str s,.str (ByteArray.mk #[])]]) i12 x2 x3)))) (aK D (aCO e5 i12 x2 x3)))) (aK D (mA e5 [] 0 x2 x3)) := by refine (aL (J := aK D) (fun _ _ => rfl) gL _).trans ?_; generalize aK D = J; revert J; refine id ?_; intro J; kernel_rfl
theorem aK2 : aK D (aCO e5 i12 x2 x3) = aK D (pQ e5 (IntKind.i64.wrap (i12 + 1)) x2 x3) := by refine (aL (J := aK D) (fun _ _ => rfl) gL _).trans ?_; generalize aK D = J; revert J; refine id ?_; intro J; kernel_rfl
theorem aB2 : aK D (mA e5 e11 i13 x2 x3) = aC (decide (i13 < (↑x2.a1.length : Int))) (aB (decide (0 ≤ i13) && decide (i13 < (↑x2.a1.length : Int)) && sized 11 x2.a1) (gP (x2.a1.getD i13.toNat []) 3 fun s => aB (decide ((e11.length + 1) * 16 ≤ aH) && true) (aK D (mA e5 (e11 ++ [[.str s]]) (IntKind.i64.wrap (i13 + 1)) x2 x3)))) (aK D (oG e5 e11 0 x2 x3)) := by refine (aL (J := aK D) (fun _ _ => rfl) gL _).trans ?_; generalize aK D = J; revert J; refine id ?_; intro J; kernel_rfl
theorem aB5 : aK D (oG e5 e11 i14 x2 x3) = aC (decide (i14 < (↑x3.a1.length : Int))) (aB (decide (0 ≤ i14) && decide (i14 < (↑x3.a1.length : Int)) && sized 11 x3.a1) (gP (x3.a1.getD i14.toNat []) 3 fun s => aB (decide ((e11.length + 1) * 16 ≤ aH) && true) (aK D (oG e5 (e11 ++ [[.str s]]) (IntKind.i64.wrap (i14 + 1)) x2 x3)))) (zN T.aWl (D F.aUO [vsl e11] []) fun es => aK D (oB e5 es 0 x2 x3)) := by refine (aL (J := aK D) (fun _ _ => rfl) gL _).trans ?_; generalize aK D = J; revert J; refine id ?_; intro J; kernel_rfl
theorem aCo : aK D (oB e5 e11 i15 x2 x3) = aC (decide (i15 < (↑e11.length : Int))) (aB (decide (0 ≤ i15) && decide (i15 < (↑e11.length : Int)) && sized 1 e11) (gP (e11.getD i15.toNat []) 0 fun s => (D F.aVF [.agg x2.l,.leaf (.str s)] []).bind fun r => jZ r.fst fun vs => gA vs fun v r => aE.va v fun x => gA r fun v r => aCc v fun b => jM r (aB (decide (0 ≤ i15) && decide (i15 < (↑e11.length : Int)) && sized 1 e11) (gP (e11.getD i15.toNat []) 0 fun s => (D F.aVF [.agg x3.l,.leaf (.str s)] []).bind fun r => jZ r.fst fun vs => gA vs fun v r => aE.va v fun x_1 => gA r fun v r => aCc v fun b_1 => jM r (aC (!b_1) (aB (decide (0 ≤ i15) && decide (i15 < (↑e11.length : Int)) && sized 1 e11) (gP (e11.getD i15.toNat []) 0 fun s => aB (decide ((e5.length + 1) * 40 ≤ aH) && true) (aK D (yA (e5 ++ [[.int .i64 13,.str s,.str (ByteArray.mk #[])]]) e11 i15 x2 x3)))) (aC (!b) (aB (decide (0 ≤ i15) && decide (i15 < (↑e11.length : Int)) && sized 1 e11) (gP (e11.getD i15.toNat []) 0 fun s => aB (decide ((e5.length + 1) * 40 ≤ aH) && true) (aK D (yA (e5 ++ [[.int .i64 25,.str s,.str (ByteArray.mk #[])]]) e11 i15 x2 x3)))) (zN T.aVQ (D F.aUx [.agg x.l,.agg x_1.l] []) fun es => aB (decide ((e5.length + es.length) * 40 ≤ aH) && sized 3 es) (aK D (yA (e5 ++ es) e11 i15 x2 x3))))))))) (some (.own (some T.aVQ) e5,[])) := by refine (aL (J := aK D) (fun _ _ => rfl) gL _).trans ?_; generalize aK D = J; revert J; refine id ?_; intro J; kernel_rfl
theorem wT : aK D (yA e5 e11 i15 x2 x3) = aK D (oB e5 e11 (IntKind.i64.wrap (i15 + 1)) x2 x3) := by refine (aL (J := aK D) (fun _ _ => rfl) gL _).trans ?_; generalize aK D = J; revert J; refine id ?_; intro J; kernel_rfl
theorem aL1 : bM Tryz.prog D Hs cB F.aWf [.agg x0.l,.agg x1.l] [] = aAN (D F.aVV [.agg x0.l] []) fun b => aC (b == false) (aAN (D F.aVV [.agg x1.l] []) fun b => aK D (aAb b x0 x1)) (aK D (aAb true x0 x1)) := by refine (aI (J := aK D) (by kernel_rfl) (fun _ _ => rfl) [[1,1,0,1],[1,1,1,0,1,0],[1,1,1,0,1,0,0,1,1],[1,1,1,0,1,0,0,1,0,0,1,1,1],[1,1,1,0,1,0,0,1,0,0,1,1,0,1],[1,1,1,0,1,0,0,1,0,0,1,1,1,1],[1,1,1,1,0,1,0],[1,1,1,1,0,1,0,0,1,1],[1,1,1,1,1,1,0,1,0],[1,1,1,1,1,1,0,1,0,0,1,1],[1,1,1,1,1,1,1,0,1,0],[1,1,1,1,1,1,1,1,0,1,0],[1,1,1,1,1,1,1,1,1,1,0,1,0],[1,1,1,1,1,1,1,1,1,1,0,1,0,0,1,1]]).trans ?_; generalize aK D = J; revert J; refine id ?_; intro J; kernel_rfl
end
section
variable (b26 : Bool) (i6 : Int) (s7 s8 : ByteArray) (e63 : LE) (i64 i65 : Int) (e89 : LE) (i90 i91 : Int) (s16 : ByteArray) (b18 b20 : Bool) (e107 : LE) (i108 i109 : Int) (b144 : Bool) (x2 x3 : cT) (x17 x19 : aE) (ex28_0 : LE) (x0 x1 : cT)
def aU := atA D F.aWg
def aAj : PS := ([1,0,1],St.mk ([.any,.any,.ptr 2 0,.ptr 3 0] ++ bJ 22 ++ [aP b26] ++ bJ 128) ([none,none,some x2.b,some x3.b] ++ noB 151))
def sG : PS := ([1,1,1,0,1,0],St.mk ([.any,.any,.ptr 2 0,.ptr 3 0,.any,.ptr 28 0,aJ i6] ++ bJ 148) ([none,none,some x2.b,some x3.b] ++ noB 24 ++ [some [.own (some T.aVQ) ex28_0]] ++ noB 126))
def zR : PS := ([1,1,1,0,1,0,0,1,0,0,1,1],St.mk ([.any,.any,.ptr 2 0,.ptr 3 0,.any,.ptr 28 0,aJ i6,.leaf (.str s7),.leaf (.str s8)] ++ bJ 146) ([none,none,some x2.b,some x3.b] ++ noB 24 ++ [some [.own (some T.aVQ) ex28_0]] ++ noB 126))
def aC6 : PS := ([1,1,1,0,1,0,0,1,1],St.mk ([.any,.any,.ptr 2 0,.ptr 3 0,.any,.ptr 28 0,aJ i6] ++ bJ 148) ([none,none,some x2.b,some x3.b] ++ noB 24 ++ [some [.own (some T.aVQ) ex28_0]] ++ noB 126))
def sQ : PS := ([1,1,1,1,0,1,0],St.mk ([.any,.any,.ptr 2 0,.ptr 3 0,.any,.ptr 28 0] ++ bJ 57 ++ [vsl e63,aJ i64,aJ i65] ++ bJ 89) ([none,none,some x2.b,some x3.b] ++ noB 24 ++ [some [.own (some T.aVQ) ex28_0]] ++ noB 126))
def aDj : PS := ([1,1,1,1,0,1,0,0,1,1,1],St.mk ([.any,.any,.ptr 2 0,.ptr 3 0,.any,.ptr 28 0] ++ bJ 57 ++ [vsl e63,aJ i64,aJ i65] ++ bJ 89) ([none,none,some x2.b,some x3.b] ++ noB 24 ++ [some [.own (some T.aVQ) ex28_0]] ++ noB 126))
def pJ : PS := ([1,1,1,1,1,0,1,0],St.mk ([.any,.any,.ptr 2 0,.ptr 3 0,.any,.ptr 28 0] ++ bJ 83 ++ [vsl e89,aJ i90,aJ i91] ++ bJ 63) ([none,none,some x2.b,some x3.b] ++ noB 24 ++ [some [.own (some T.aVQ) ex28_0]] ++ noB 126))
def pR : PS := ([1,1,1,1,1,1,0,1,0],St.mk ([.any,.any,.ptr 2 0,.ptr 3 0,.any,.ptr 28 0] ++ bJ 101 ++ [vsl e107,aJ i108,aJ i109] ++ bJ 45) ([none,none,some x2.b,some x3.b] ++ noB 24 ++ [some [.own (some T.aVQ) ex28_0]] ++ noB 126))
def aEh : PS := ([1,1,1,1,1,1,0,1,0,0,1,1,0,0,1,1,1,1],St.mk ([.any,.any,.ptr 2 0,.ptr 3 0,.any,.ptr 28 0] ++ bJ 10 ++ [.leaf (.str s16),.ptr 17 0,aP b18,.ptr 19 0,aP b20] ++ bJ 86 ++ [vsl e107,aJ i108,aJ i109] ++ bJ 45) ([none,none,some x2.b,some x3.b] ++ noB 13 ++ [some x17.b,none,some x19.b] ++ noB 8 ++ [some [.own (some T.aVQ) ex28_0]] ++ noB 126))
def aDH : PS := ([1,1,1,1,1,1,0,1,0,0,1,1,0,0,1,1,1,1,1],St.mk ([.any,.any,.ptr 2 0,.ptr 3 0,.any,.ptr 28 0] ++ bJ 11 ++ [.ptr 17 0,aP b18,.ptr 19 0,aP b20] ++ bJ 86 ++ [vsl e107,aJ i108,aJ i109] ++ bJ 45) ([none,none,some x2.b,some x3.b] ++ noB 13 ++ [some x17.b,none,some x19.b] ++ noB 8 ++ [some [.own (some T.aVQ) ex28_0]] ++ noB 126))
def aBX : PS := ([1,1,1,1,1,1,0,1,0,0,1,1,0,0,1,1,1,1,1,1],St.mk ([.any,.any,.ptr 2 0,.ptr 3 0,.any,.ptr 28 0] ++ bJ 11 ++ [.ptr 17 0,.any,.ptr 19 0] ++ bJ 87 ++ [vsl e107,aJ i108,aJ i109] ++ bJ 34 ++ [aP b144] ++ bJ 10) ([none,none,some x2.b,some x3.b] ++ noB 13 ++ [some x17.b,none,some x19.b] ++ noB 8 ++ [some [.own (some T.aVQ) ex28_0]] ++ noB 126))
def aBs : PS := ([1,1,1,1,1,1,0,1,0,0,1,1,1],St.mk ([.any,.any,.ptr 2 0,.ptr 3 0,.any,.ptr 28 0] ++ bJ 101 ++ [vsl e107,aJ i108,aJ i109] ++ bJ 45) ([none,none,some x2.b,some x3.b] ++ noB 24 ++ [some [.own (some T.aVQ) ex28_0]] ++ noB 126))
def iW : List (List Nat) := [[1,0,1],[1,1,1,0,1,0],[1,1,1,0,1,0,0,1,1],[1,1,1,0,1,0,0,1,0,0,1,1],[1,1,1,1,0,1,0],[1,1,1,1,0,1,0,0,1,1,1],[1,1,1,1,1,0,1,0],[1,1,1,1,1,1,0,1,0],[1,1,1,1,1,1,0,1,0,0,1,1,1],[1,1,1,1,1,1,0,1,0,0,1,1,0,0,1,1,1,1],[1,1,1,1,1,1,0,1,0,0,1,1,0,0,1,1,1,1,1],[1,1,1,1,1,1,0,1,0,0,1,1,0,0,1,1,1,1,1,1]]
theorem zF : aU D (aAj b26 x2 x3) = aC b26 (some (.own (some T.aVQ) [],[])) (aU D (sG 1 x2 x3 [])) := by refine (aL (J := aU D) (fun _ _ => rfl) iW _).trans ?_; generalize aU D = J; revert J; refine id ?_; intro J; kernel_rfl
theorem aEj : aU D (sG i6 x2 x3 ex28_0) = aC (decide (i6 ≤ 3)) (aJU (D F.aVU [.agg x2.l,aJ i6] []) fun s => aJU (D F.aVU [.agg x3.l,aJ i6] []) fun s_1 => aC ((!s.toList == (ByteArray.mk #[]).toList) == true) (aJU (D F.aVG [aJ i6] []) fun s_2 => mP T.aVQ (D F.aUi [.ptr 0 0,.leaf (.bool !s.toList == s_1.toList),aJ 1,.leaf (.str s_2),.leaf (.str s)] [[.own (some T.aVQ) ex28_0]]) fun es => aU D (zR i6 s s_1 x2 x3 es)) (aJU (D F.aVG [aJ i6] []) fun s_2 => mP T.aVQ (D F.aUi [.ptr 0 0,aP false,aJ 1,.leaf (.str s_2),.leaf (.str s)] [[.own (some T.aVQ) ex28_0]]) fun es => aU D (zR i6 s s_1 x2 x3 es))) (aU D (sQ x2.a0 (↑x2.a0.length : Int) 0 x2 x3 ex28_0)) := by refine (aL (J := aU D) (fun _ _ => rfl) iW _).trans ?_; generalize aU D = J; revert J; refine id ?_; intro J; kernel_rfl
theorem aKp : aU D (zR i6 s7 s8 x2 x3 ex28_0) = aC ((s7.toList == (ByteArray.mk #[]).toList) == true) (aJU (D F.aVG [aJ i6] []) fun s => mP T.aVQ (D F.aUi [.ptr 0 0,.leaf (.bool !s8.toList == (ByteArray.mk #[]).toList),aJ 16,.leaf (.str s),.leaf (.str s8)] [[.own (some T.aVQ) ex28_0]]) fun es => aU D (aC6 i6 x2 x3 es)) (aJU (D F.aVG [aJ i6] []) fun s => mP T.aVQ (D F.aUi [.ptr 0 0,aP false,aJ 16,.leaf (.str s),.leaf (.str s8)] [[.own (some T.aVQ) ex28_0]]) fun es => aU D (aC6 i6 x2 x3 es)) := by refine (aL (J := aU D) (fun _ _ => rfl) iW _).trans ?_; generalize aU D = J; revert J; refine id ?_; intro J; kernel_rfl
theorem aKH : aU D (aC6 i6 x2 x3 ex28_0) = aU D (sG (IntKind.i64.wrap (i6 + 1)) x2 x3 ex28_0) := by refine (aL (J := aU D) (fun _ _ => rfl) iW _).trans ?_; generalize aU D = J; revert J; refine id ?_; intro J; kernel_rfl
theorem aC4 : aU D (sQ e63 i64 i65 x2 x3 ex28_0) = aC (decide (i65 < i64)) (aB (decide (0 ≤ i65) && decide (i65 < (↑e63.length : Int)) && sized 11 e63) (aE.rd (e63.getD i65.toNat []) fun x => (D F.aVm [.agg x3.l,.leaf (.str x.a3)] []).bind fun r => jZ r.fst fun vs => gA vs fun v r => aE.va v fun x_1 => gA r fun v r => aCc v fun b => jM r (aC (!b) (mP T.aVQ (D F.aUi [.ptr 0 0,aP true,aJ 2,.leaf (.str x.a3),.leaf (.str (ByteArray.mk #[]))] [[.own (some T.aVQ) ex28_0]]) fun es => aU D (aDj e63 i64 i65 x2 x3 es)) (zN T.aVQ (D F.aUF [.agg x.l,.agg x_1.l] []) fun es => mP T.aVQ (D F.aUk [.ptr 0 0,vsl es] [[.own (some T.aVQ) ex28_0]]) fun es => aU D (aDj e63 i64 i65 x2 x3 es))))) (aU D (pJ x3.a0 (↑x3.a0.length : Int) 0 x2 x3 ex28_0)) := by refine (aL (J := aU D) (fun _ _ => rfl) iW _).trans ?_; generalize aU D = J; revert J; refine id ?_; intro J; kernel_rfl
theorem aCQ : aU D (aDj e63 i64 i65 x2 x3 ex28_0) = aU D (sQ e63 i64 (IntKind.i64.wrap (i65 + 1)) x2 x3 ex28_0) := by refine (aL (J := aU D) (fun _ _ => rfl) iW _).trans ?_; generalize aU D = J; revert J; refine id ?_; intro J; kernel_rfl
theorem aDK : aU D (pJ e89 i90 i91 x2 x3 ex28_0) = aC (decide (i91 < i90)) (aB (decide (0 ≤ i91) && decide (i91 < (↑e89.length : Int)) && sized 11 e89) (aE.rd (e89.getD i91.toNat []) fun x => aKN (D F.aVW [.agg x2.l,.leaf (.str x.a3)] []) fun n => mP T.aVQ (D F.aUi [.ptr 0 0,.leaf (.bool (decide (n < 0))),aJ 17,.leaf (.str x.a3),.leaf (.str (ByteArray.mk #[]))] [[.own (some T.aVQ) ex28_0]]) fun es => aU D (pJ e89 i90 (IntKind.i64.wrap (i91 + 1)) x2 x3 es))) (rSl (D F.aVc [.agg x2.l,.agg x3.l] []) fun es => aU D (pR es (↑es.length : Int) 0 x2 x3 ex28_0)) := by refine (aL (J := aU D) (fun _ _ => rfl) iW _).trans ?_; generalize aU D = J; revert J; refine id ?_; intro J; kernel_rfl
theorem aDx : aU D (pR e107 i108 i109 x2 x3 ex28_0) = aC (decide (i109 < i108)) (aB (decide (0 ≤ i109) && decide (i109 < (↑e107.length : Int)) && sized 1 e107) (gP (e107.getD i109.toNat []) 0 fun s => (D F.aVE [.agg x2.l,.leaf (.str s)] []).bind fun r => jZ r.fst fun vs => gA vs fun v r => aE.va v fun x => gA r fun v r => aCc v fun b => jM r ((D F.aVE [.agg x3.l,.leaf (.str s)] []).bind fun r => jZ r.fst fun vs => gA vs fun v r => aE.va v fun x_1 => gA r fun v r => aCc v fun b_1 => jM r (aC (b == true) (mP T.aVQ (D F.aUi [.ptr 0 0,.leaf (.bool !b_1),aJ 13,.leaf (.str s),.leaf (.str (ByteArray.mk #[]))] [[.own (some T.aVQ) ex28_0]]) fun es => aU D (aEh s b b_1 e107 i108 i109 x2 x3 x x_1 es)) (mP T.aVQ (D F.aUi [.ptr 0 0,aP false,aJ 13,.leaf (.str s),.leaf (.str (ByteArray.mk #[]))] [[.own (some T.aVQ) ex28_0]]) fun es => aU D (aEh s b b_1 e107 i108 i109 x2 x3 x x_1 es)))))) (some (.own (some T.aVQ) ex28_0,[])) := by refine (aL (J := aU D) (fun _ _ => rfl) iW _).trans ?_; generalize aU D = J; revert J; refine id ?_; intro J; kernel_rfl
theorem yY : aU D (aEh s16 b18 b20 e107 i108 i109 x2 x3 x17 x19 ex28_0) = aC (b20 == true) (mP T.aVQ (D F.aUi [.ptr 0 0,.leaf (.bool !b18),aJ 25,.leaf (.str s16),.leaf (.str (ByteArray.mk #[]))] [[.own (some T.aVQ) ex28_0]]) fun es => aU D (aDH b18 b20 e107 i108 i109 x2 x3 x17 x19 es)) (mP T.aVQ (D F.aUi [.ptr 0 0,aP false,aJ 25,.leaf (.str s16),.leaf (.str (ByteArray.mk #[]))] [[.own (some T.aVQ) ex28_0]]) fun es => aU D (aDH b18 b20 e107 i108 i109 x2 x3 x17 x19 es)) := by refine (aL (J := aU D) (fun _ _ => rfl) iW _).trans ?_; generalize aU D = J; revert J; refine id ?_; intro J; kernel_rfl
theorem yT : aU D (aDH b18 b20 e107 i108 i109 x2 x3 x17 x19 ex28_0) = aC (b18 == true) (aU D (aBX e107 i108 i109 b20 x2 x3 x17 x19 ex28_0)) (aU D (aBX e107 i108 i109 false x2 x3 x17 x19 ex28_0)) := by refine (aL (J := aU D) (fun _ _ => rfl) iW _).trans ?_; generalize aU D = J; revert J; refine id ?_; intro J; kernel_rfl
theorem wQ : aU D (aBX e107 i108 i109 b144 x2 x3 x17 x19 ex28_0) = aC b144 (zN T.aVQ (D F.aUF [.agg x17.l,.agg x19.l] []) fun es => mP T.aVQ (D F.aUk [.ptr 0 0,vsl es] [[.own (some T.aVQ) ex28_0]]) fun es => aU D (aBs e107 i108 i109 x2 x3 es)) (aU D (aBs e107 i108 i109 x2 x3 ex28_0)) := by refine (aL (J := aU D) (fun _ _ => rfl) iW _).trans ?_; generalize aU D = J; revert J; refine id ?_; intro J; kernel_rfl
theorem wS : aU D (aBs e107 i108 i109 x2 x3 ex28_0) = aU D (pR e107 i108 (IntKind.i64.wrap (i109 + 1)) x2 x3 ex28_0) := by refine (aL (J := aU D) (fun _ _ => rfl) iW _).trans ?_; generalize aU D = J; revert J; refine id ?_; intro J; kernel_rfl
theorem aLZ : bM Tryz.prog D Hs cB F.aWg [.agg x0.l,.agg x1.l] [] = aAN (D F.aU1 [.agg x0.l] []) fun b => aC (b == false) (aAN (D F.aU1 [.agg x1.l] []) fun b => aU D (aAj b x0 x1)) (aU D (aAj true x0 x1)) := by refine (aI (J := aU D) (by kernel_rfl) (fun _ _ => rfl) [[1,0,1],[1,1,1,0,1,0],[1,1,1,0,1,0,0,1,1],[1,1,1,0,1,0,0,1,0,0,1,1],[1,1,1,1,0,1,0],[1,1,1,1,0,1,0,0,1,1,1],[1,1,1,1,1,0,1,0],[1,1,1,1,1,1,0,1,0],[1,1,1,1,1,1,0,1,0,0,1,1,1],[1,1,1,1,1,1,0,1,0,0,1,1,0,0,1,1,1,1],[1,1,1,1,1,1,0,1,0,0,1,1,0,0,1,1,1,1,1],[1,1,1,1,1,1,0,1,0,0,1,1,0,0,1,1,1,1,1,1]]).trans ?_; generalize aU D = J; revert J; refine id ?_; intro J; kernel_rfl
end
def aCj := atA D F.aVa
theorem aH5 (e0_0 e0_1 e0_2 : LE) (i1 : Int) : bM Tryz.prog D Hs cB F.aVa [.agg [.sl fP e0_0,.sl fP e0_1,.sl fP e0_2],aJ i1] [] = (D F.aVT [vsl e0_0,aJ i1] []).bind fun r => aM r.fst fun l => dF .i64 l fun n => aC (decide (n < 0)) (some (aJ (-1),[])) ((D F.aVT [vsl e0_1,aJ n] []).bind fun r => aM r.fst fun l => dF .i64 l fun n => aC (decide (n < 0)) (some (aJ (-1),[])) ((D F.aVq [vsl e0_2,aJ n] []).bind fun r => aM r.fst fun l => dF .i64 l fun n => aC (decide (n < 0)) (some (aJ (-1),[])) (some (aJ n,[])))) := by refine (aI (J := aCj D) (by kernel_rfl) (fun _ _ => rfl) []).trans ?_; generalize aCj D = J; revert J; refine id ?_; intro J; kernel_rfl
section
variable (e0 e1 : LE) (i5 : Int)
def gX := atA D F.aUV
def pW : PS := ([1,1,0,1,0],St.mk ([vsl e0,vsl e1,.any,.any,.any,aJ i5] ++ bJ 21) (noB 27))
theorem xS : gX D (pW e0 e1 i5) = aC (decide (i5 < (↑e0.length : Int))) (aB (decide (0 ≤ i5) && decide (i5 < (↑e0.length : Int)) && sized 3 e0) (fB (e0.getD i5.toNat []) fun e => atK e 0 fun l => dF .i64 l fun n => atK e 1 fun l => bO l fun s => atK e 2 fun l => bO l fun s_1 => aB (decide (0 ≤ i5) && decide (i5 < (↑e1.length : Int)) && sized 3 e1) (fB (e1.getD i5.toNat []) fun e => atK e 0 fun l => dF .i64 l fun n_1 => atK e 1 fun l => bO l fun s_2 => atK e 2 fun l => bO l fun s_3 => (D F.aVi [.agg [.int .i64 n,.str s,.str s_1],.agg [.int .i64 n_1,.str s_2,.str s_3]] []).bind fun r => aM r.fst fun l => cL l fun b => aC (!b) (some (aP false,[])) (gX D (pW e0 e1 (IntKind.i64.wrap (i5 + 1))))))) (some (aP true,[])) := by refine (aL (J := gX D) (fun _ _ => rfl) [[1,1,0,1,0]] _).trans ?_; generalize gX D = J; revert J; refine id ?_; intro J; kernel_rfl
theorem aGm : bM Tryz.prog D Hs cB F.aUV [vsl e0,vsl e1] [] = aC ((↑e0.length : Int) != (↑e1.length : Int)) (some (aP false,[])) (gX D (pW e0 e1 0)) := by refine (aI (J := gX D) (by kernel_rfl) (fun _ _ => rfl) [[1,1,0,1,0]]).trans ?_; generalize gX D = J; revert J; refine id ?_; intro J; kernel_rfl
end
def aB8 := atA D F.aU9
theorem aHp (e0_0 e0_1 e0_2 e1_0 e1_1 e1_2 : LE) : bM Tryz.prog D Hs cB F.aU9 [.agg [.sl fP e0_0,.sl fP e0_1,.sl fP e0_2],.agg [.sl fP e1_0,.sl fP e1_1,.sl fP e1_2]] [] = (D F.aVz [vsl e0_0,vsl e1_0] []).bind fun r => aM r.fst fun l => cL l fun b => aC (!b) (some (aP false,[])) ((D F.aVz [vsl e0_1,vsl e1_1] []).bind fun r => aM r.fst fun l => cL l fun b => aC (!b) (some (aP false,[])) ((D F.aVp [vsl e0_2,vsl e1_2] []).bind fun r => aM r.fst fun l => cL l fun b => aC (!b) (some (aP false,[])) (some (aP true,[])))) := by refine (aI (J := aB8 D) (by kernel_rfl) (fun _ _ => rfl) []).trans ?_; generalize aB8 D = J; revert J; refine id ?_; intro J; kernel_rfl
section
variable (n0 : Nat) (i1 i5 : Int) (vx36 vb0 : List (SV false))
def dZ (x : PS) : Ret false := atF Tryz.prog D Hs F.aUs x.1 1 x.2
def lL : PS := ([1,0,1,0],St.mk ([.bsl 36 3 0 n0,aJ i1,.any,.any,.any,aJ i5] ++ bJ 30) (noB 36 ++ [some vx36]))
theorem qX : dZ D (lL n0 i1 i5 vx36) = aC (decide (i5 < (↑n0 : Int))) (aB (decide (0 ≤ i5) && decide (i5 < (↑n0 : Int))) (aB (decide ((0 + i5.toNat) * 3 + #[Go.Field.mk "Code" 3 0 false "" "" 0,Go.Field.mk "Name" 9 1 false "" "" 8,Go.Field.mk "Part" 9 2 false "" "" 24][0].offset + 1 ≤ vx36.length)) ((D F.aVe [.leaf (.int .i64 (IntKind.i64.wrap (i1 + 1)))] []).bind fun r => aM r.fst fun l => bO l fun s => aB (decide (0 ≤ i5) && decide (i5 < (↑n0 : Int))) (aB (decide ((0 + i5.toNat) * 3 + #[Go.Field.mk "Code" 3 0 false "" "" 0,Go.Field.mk "Name" 9 1 false "" "" 8,Go.Field.mk "Part" 9 2 false "" "" 24][1].offset + 1 ≤ (jK vx36 ((0 + i5.toNat) * 3 + #[Go.Field.mk "Code" 3 0 false "" "" 0,Go.Field.mk "Name" 9 1 false "" "" 8,Go.Field.mk "Part" 9 2 false "" "" 24][0].offset) [aJ i1]).length)) ((D F.aVe [.leaf (.int .i64 (IntKind.i64.wrap (IntKind.i64.wrap (i1 + 1) + 1)))] []).bind fun r => aM r.fst fun l => bO l fun s_1 => aB (decide (0 ≤ i5) && decide (i5 < (↑n0 : Int))) (aB (decide ((0 + i5.toNat) * 3 + #[Go.Field.mk "Code" 3 0 false "" "" 0,Go.Field.mk "Name" 9 1 false "" "" 8,Go.Field.mk "Part" 9 2 false "" "" 24][2].offset + 1 ≤ (jK (jK vx36 ((0 + i5.toNat) * 3 + #[Go.Field.mk "Code" 3 0 false "" "" 0,Go.Field.mk "Name" 9 1 false "" "" 8,Go.Field.mk "Part" 9 2 false "" "" 24][0].offset) [aJ i1]) ((0 + i5.toNat) * 3 + #[Go.Field.mk "Code" 3 0 false "" "" 0,Go.Field.mk "Name" 9 1 false "" "" 8,Go.Field.mk "Part" 9 2 false "" "" 24][1].offset) [.leaf (.str s)]).length)) (dZ D (lL n0 (IntKind.i64.wrap (IntKind.i64.wrap (IntKind.i64.wrap (i1 + 1) + 1) + 1)) (IntKind.i64.wrap (i5 + 1)) (jK (jK (jK vx36 ((0 + i5.toNat) * 3 + #[Go.Field.mk "Code" 3 0 false "" "" 0,Go.Field.mk "Name" 9 1 false "" "" 8,Go.Field.mk "Part" 9 2 false "" "" 24][0].offset) [aJ i1]) ((0 + i5.toNat) * 3 + #[Go.Field.mk "Code" 3 0 false "" "" 0,Go.Field.mk "Name" 9 1 false "" "" 8,Go.Field.mk "Part" 9 2 false "" "" 24][1].offset) [.leaf (.str s)]) ((0 + i5.toNat) * 3 + #[Go.Field.mk "Code" 3 0 false "" "" 0,Go.Field.mk "Name" 9 1 false "" "" 8,Go.Field.mk "Part" 9 2 false "" "" 24][2].offset) [.leaf (.str s_1)]))))))))) (aB ([vx36].all fun x => x.all SV.flat) (some (aJ i1,[vx36]))) := by refine (aL (J := dZ D) (fun _ _ => rfl) [[1,0,1,0]] _).trans ?_; generalize dZ D = J; revert J; refine id ?_; intro J; kernel_rfl
theorem aA8 : bM Tryz.prog D Hs cB F.aUs [.bsl 0 3 0 n0,aJ i1] [vb0] = dZ D (lL n0 i1 0 vb0) := by refine (aI (J := dZ D) (by kernel_rfl) (fun _ _ => rfl) [[1,0,1,0]]).trans ?_; generalize dZ D = J; revert J; refine id ?_; intro J; kernel_rfl
end
section
variable (e0 : LE) (i1 : Int)
def jJ := atA D F.aUs
def yO : PS := ([1,0,1,0],St.mk ([vsl e0,aJ i1,.any,.any,.any,aJ 0] ++ bJ 30) (noB 36))
theorem aCD : jJ D (yO e0 i1) = aC (decide (0 < (↑e0.length : Int))) (aB (decide (0 < (↑e0.length : Int)) && sized 3 e0) none) (some (aJ i1,[])) := by refine (aL (J := jJ D) (fun _ _ => rfl) [[1,0,1,0]] _).trans ?_; generalize jJ D = J; revert J; refine id ?_; intro J; kernel_rfl
theorem aEa : bM Tryz.prog D Hs cB F.aUs [vsl e0,aJ i1] [] = jJ D (yO e0 i1) := by refine (aI (J := jJ D) (by kernel_rfl) (fun _ _ => rfl) [[1,0,1,0]]).trans ?_; generalize jJ D = J; revert J; refine id ?_; intro J; kernel_rfl
end
section
variable (n0 : Nat) (i1 i5 : Int) (vx42 vb0 : List (SV false))
def eA (x : PS) : Ret false := atF Tryz.prog D Hs F.aUm x.1 1 x.2
def lJ : PS := ([1,0,1,0],St.mk ([.bsl 42 3 0 n0,aJ i1,.any,.any,.any,aJ i5] ++ bJ 36) (noB 42 ++ [some vx42]))
theorem rA : eA D (lJ n0 i1 i5 vx42) = aC (decide (i5 < (↑n0 : Int))) (aB (decide (0 ≤ i5) && decide (i5 < (↑n0 : Int))) (aGP vx42 ((0 + i5.toNat) * 3 + #[Go.Field.mk "Code" 3 0 false "" "" 0,Go.Field.mk "Name" 9 1 false "" "" 8,Go.Field.mk "Part" 9 2 false "" "" 24][0].offset) fun c => aM c.drop fun l => dF .i64 l fun n => aC (n != i1) (aB ([vx42].all fun x => x.all SV.flat) (some (aJ (-1),[vx42]))) (aB (decide (0 ≤ i5) && decide (i5 < (↑n0 : Int))) (aGP vx42 ((0 + i5.toNat) * 3 + #[Go.Field.mk "Code" 3 0 false "" "" 0,Go.Field.mk "Name" 9 1 false "" "" 8,Go.Field.mk "Part" 9 2 false "" "" 24][1].offset) fun c => aM c.drop fun l => bO l fun s => (D F.aVe [.leaf (.int .i64 (IntKind.i64.wrap (i1 + 1)))] []).bind fun r => aM r.fst fun l => bO l fun s_1 => aC (!s.toList == s_1.toList) (aB ([vx42].all fun x => x.all SV.flat) (some (aJ (-1),[vx42]))) (aB (decide (0 ≤ i5) && decide (i5 < (↑n0 : Int))) (aGP vx42 ((0 + i5.toNat) * 3 + #[Go.Field.mk "Code" 3 0 false "" "" 0,Go.Field.mk "Name" 9 1 false "" "" 8,Go.Field.mk "Part" 9 2 false "" "" 24][2].offset) fun c => aM c.drop fun l => bO l fun s => (D F.aVe [.leaf (.int .i64 (IntKind.i64.wrap (IntKind.i64.wrap (i1 + 1) + 1)))] []).bind fun r => aM r.fst fun l => bO l fun s_2 => aC (!s.toList == s_2.toList) (aB ([vx42].all fun x => x.all SV.flat) (some (aJ (-1),[vx42]))) (eA D (lJ n0 (IntKind.i64.wrap (IntKind.i64.wrap (IntKind.i64.wrap (i1 + 1) + 1) + 1)) (IntKind.i64.wrap (i5 + 1)) vx42)))))))) (aB ([vx42].all fun x => x.all SV.flat) (some (aJ i1,[vx42]))) := by refine (aL (J := eA D) (fun _ _ => rfl) [[1,0,1,0]] _).trans ?_; generalize eA D = J; revert J; refine id ?_; intro J; kernel_rfl
theorem aAQ : bM Tryz.prog D Hs cB F.aUm [.bsl 0 3 0 n0,aJ i1] [vb0] = eA D (lJ n0 i1 0 vb0) := by refine (aI (J := eA D) (by kernel_rfl) (fun _ _ => rfl) [[1,0,1,0]]).trans ?_; generalize eA D = J; revert J; refine id ?_; intro J; kernel_rfl
end
section
variable (e0 : LE) (i1 i5 : Int)
def gS := atA D F.aUm
def rY : PS := ([1,0,1,0],St.mk ([vsl e0,aJ i1,.any,.any,.any,aJ i5] ++ bJ 36) (noB 42))
theorem aCG : gS D (rY e0 i1 i5) = aC (decide (i5 < (↑e0.length : Int))) (aB (decide (0 ≤ i5) && decide (i5 < (↑e0.length : Int)) && sized 3 e0) (atK (e0.getD i5.toNat []) 0 fun l => dF .i64 l fun n => aC (n != i1) (some (aJ (-1),[])) (aB (decide (0 ≤ i5) && decide (i5 < (↑e0.length : Int)) && sized 3 e0) (atK (e0.getD i5.toNat []) 1 fun l => bO l fun s => (D F.aVe [.leaf (.int .i64 (IntKind.i64.wrap (i1 + 1)))] []).bind fun r => aM r.fst fun l => bO l fun s_1 => aC (!s.toList == s_1.toList) (some (aJ (-1),[])) (aB (decide (0 ≤ i5) && decide (i5 < (↑e0.length : Int)) && sized 3 e0) (atK (e0.getD i5.toNat []) 2 fun l => bO l fun s => (D F.aVe [.leaf (.int .i64 (IntKind.i64.wrap (IntKind.i64.wrap (i1 + 1) + 1)))] []).bind fun r => aM r.fst fun l => bO l fun s_2 => aC (!s.toList == s_2.toList) (some (aJ (-1),[])) (gS D (rY e0 (IntKind.i64.wrap (IntKind.i64.wrap (IntKind.i64.wrap (i1 + 1) + 1) + 1)) (IntKind.i64.wrap (i5 + 1)))))))))) (some (aJ i1,[])) := by refine (aL (J := gS D) (fun _ _ => rfl) [[1,0,1,0]] _).trans ?_; generalize gS D = J; revert J; refine id ?_; intro J; kernel_rfl
theorem aDv : bM Tryz.prog D Hs cB F.aUm [vsl e0,aJ i1] [] = gS D (rY e0 i1 0) := by refine (aI (J := gS D) (by kernel_rfl) (fun _ _ => rfl) [[1,0,1,0]]).trans ?_; generalize gS D = J; revert J; refine id ?_; intro J; kernel_rfl
end
section
variable (i0 : Int) (s3 : ByteArray)
def iR := atA D F.aVe
def rN : PS := ([1,1,1,0,0],St.mk ([aJ i0,.any,.any,.leaf (.str s3)] ++ bJ 16) (noB 20))
theorem rV : iR D (rN i0 s3) = aC (decide (i0 > 0)) (aB (decide ((ByteArray.mk (List.map (aLg (m := false)) [[.int IntKind.u8 (IntKind.u8.wrap (IntKind.i64.wrap (48 + i0.tmod 10)))]]).toArray).size + s3.size ≤ 140737488355328)) (iR D (rN (IntKind.i64.wrap (i0.tdiv 10)) (ByteArray.mk (List.map (aLg (m := false)) [[.int IntKind.u8 (IntKind.u8.wrap (IntKind.i64.wrap (48 + i0.tmod 10)))]]).toArray ++ s3)))) (aB (decide ((ByteArray.mk #[109]).size + s3.size ≤ 140737488355328)) (some (.leaf (.str (ByteArray.mk #[109] ++ s3)),[]))) := by refine (aL (J := iR D) (fun _ _ => rfl) [[1,1,1,0,0]] _).trans ?_; generalize iR D = J; revert J; refine id ?_; intro J; kernel_rfl
theorem aHA : bM Tryz.prog D Hs cB F.aVe [aJ i0] [] = aC (decide (i0 ≤ 0)) (some (.leaf (.str (ByteArray.mk #[109,48])),[])) (iR D (rN i0 (ByteArray.mk #[]))) := by refine (aI (J := iR D) (by kernel_rfl) (fun _ _ => rfl) [[1,1,1,0,0]]).trans ?_; generalize iR D = J; revert J; refine id ?_; intro J; kernel_rfl
end
section
variable (x0 : cT) (i1 i5 : Int) (x2 : cT)
def kO := atA D F.aVH
def vG : PS := ([1,0,1,0],St.mk ([.any,aJ i1,.ptr 2 0,.any,.any,aJ i5] ++ bJ 21) ([none,none,some x2.b] ++ noB 24))
theorem aBb : kO D (vG i1 i5 x2) = aC (decide (i5 < (↑x2.a2.length : Int))) (aB (decide (0 ≤ i5) && decide (i5 < (↑x2.a2.length : Int)) && sized 2 x2.a2) (aEU (x2.a2.getD i5.toNat []) 0 fun n => aC (n == i1) (aB (decide (0 ≤ i5) && decide (i5 < (↑x2.a2.length : Int)) && sized 2 x2.a2) (gP (x2.a2.getD i5.toNat []) 1 fun s => some (.leaf (.str s),[]))) (kO D (vG i1 (IntKind.i64.wrap (i5 + 1)) x2)))) (some (.leaf (.str (ByteArray.mk #[])),[])) := by refine (aL (J := kO D) (fun _ _ => rfl) [[1,0,1,0]] _).trans ?_; generalize kO D = J; revert J; refine id ?_; intro J; kernel_rfl
theorem aJ4 : bM Tryz.prog D Hs cB F.aVH [.agg x0.l,aJ i1] [] = kO D (vG i1 0 x0) := by refine (aI (J := kO D) (by kernel_rfl) (fun _ _ => rfl) [[1,0,1,0]]).trans ?_; generalize kO D = J; revert J; refine id ?_; intro J; kernel_rfl
end
def aFU := atA D F.aVD
theorem aJW (i0 : Int) : bM Tryz.prog D Hs cB F.aVD [aJ i0] [] = aC (i0 == 1) (some (.leaf (.str (ByteArray.mk #[113,117,101,114,121])),[])) (aC (i0 == 2) (some (.leaf (.str (ByteArray.mk #[109,117,116,97,116,105,111,110])),[])) (aC (i0 == 3) (some (.leaf (.str (ByteArray.mk #[115,117,98,115,99,114,105,112,116,105,111,110])),[])) (some (.leaf (.str (ByteArray.mk #[])),[])))) := by refine (aI (J := aFU D) (by kernel_rfl) (fun _ _ => rfl) []).trans ?_; generalize aFU D = J; revert J; refine id ?_; intro J; kernel_rfl
section
variable (x0 : cT) (s1 : ByteArray) (i5 : Int) (b16 : Bool) (x2 : cT)
def eU := atA D F.aVS
def vE : PS := ([1,0,1,0],St.mk ([.any,.leaf (.str s1),.ptr 2 0,.any,.any,aJ i5] ++ bJ 22) ([none,none,some x2.b] ++ noB 25))
def aAx : PS := ([1,0,1,0,0,0,1],St.mk ([.any,.leaf (.str s1),.ptr 2 0,.any,.any,aJ i5] ++ bJ 10 ++ [aP b16] ++ bJ 11) ([none,none,some x2.b] ++ noB 25))
def aFx : List (List Nat) := [[1,0,1,0],[1,0,1,0,0,0,1]]
theorem uV : eU D (vE s1 i5 x2) = aC (decide (i5 < (↑x2.a0.length : Int)) == true) (eU D (aAx s1 i5 (decide ((↑x2.a0.length : Int) ≤ 60)) x2)) (eU D (aAx s1 i5 false x2)) := by refine (aL (J := eU D) (fun _ _ => rfl) aFx _).trans ?_; generalize eU D = J; revert J; refine id ?_; intro J; kernel_rfl
theorem uM : eU D (aAx s1 i5 b16 x2) = aC b16 (aB (decide (0 ≤ i5) && decide (i5 < (↑x2.a0.length : Int)) && sized 11 x2.a0) (gP (x2.a0.getD i5.toNat []) 3 fun s => aC (s.toList == s1.toList) (some (aJ i5,[])) (eU D (vE s1 (IntKind.i64.wrap (i5 + 1)) x2)))) (some (aJ (-1),[])) := by refine (aL (J := eU D) (fun _ _ => rfl) aFx _).trans ?_; generalize eU D = J; revert J; refine id ?_; intro J; kernel_rfl
theorem aJ5 : bM Tryz.prog D Hs cB F.aVS [.agg x0.l,.leaf (.str s1)] [] = eU D (vE s1 0 x0) := by refine (aI (J := eU D) (by kernel_rfl) (fun _ _ => rfl) [[1,0,1,0],[1,0,1,0,0,0,1]]).trans ?_; generalize eU D = J; revert J; refine id ?_; intro J; kernel_rfl
end
section
variable (e5 : LE) (s6 : ByteArray) (i38 : Int) (b39 b101 b113 : Bool) (x2 x3 x0 x1 : aE)
end
section
variable (e3 e4 e5 : LE) (i6 i7 : Int) (b37 b58 : Bool) (s8 : ByteArray) (b83 : Bool) (e0 : LE)
end
section
variable (x0 : cT) (s1 : ByteArray) (i6 : Int) (b19 : Bool) (x2 : cT) (e7 : LE) (i8 : Int)
def dB := atA D F.aVF
def vS : PS := ([1,0,1,0],St.mk ([.any,.leaf (.str s1),.ptr 2 0,.any,.ptr 4 0,.any,aJ i6] ++ bJ 47) ([none,none,some x2.b,none,some [aJ 0,aP false,.leaf (.str (ByteArray.mk #[])),.leaf (.str (ByteArray.mk #[])),.own (some T.aWl) [],.own (some T.aVb) [],.own (some T.aWc) [],.own (some T.aVj) [],.own (some T.aWd) [],aP false,.own (some T.aWi) []]] ++ noB 49))
def vA : PS := ([1,0,1,0,0,0,1],St.mk ([.any,.leaf (.str s1),.ptr 2 0,.any,.ptr 4 0,.any,aJ i6] ++ bJ 12 ++ [aP b19] ++ bJ 34) ([none,none,some x2.b,none,some [aJ 0,aP false,.leaf (.str (ByteArray.mk #[])),.leaf (.str (ByteArray.mk #[])),.own (some T.aWl) [],.own (some T.aVb) [],.own (some T.aWc) [],.own (some T.aVj) [],.own (some T.aWd) [],aP false,.own (some T.aWi) []]] ++ noB 49))
def qW : PS := ([1,1,1,0,1,0],St.mk ([.any,.leaf (.str s1),.any,.any,.ptr 4 0,.any,.any,.own (some T.aWj) e7,aJ i8] ++ bJ 45) ([none,none,none,none,some [aJ 0,aP false,.leaf (.str (ByteArray.mk #[])),.leaf (.str (ByteArray.mk #[])),.own (some T.aWl) [],.own (some T.aVb) [],.own (some T.aWc) [],.own (some T.aVj) [],.own (some T.aWd) [],aP false,.own (some T.aWi) []]] ++ noB 49))
def aAu : List (List Nat) := [[1,0,1,0],[1,0,1,0,0,0,1],[1,1,1,0,1,0]]
theorem uX : dB D (vS s1 i6 x2) = aC (decide (i6 < (↑x2.a1.length : Int)) == true) (dB D (vA s1 i6 (decide ((↑x2.a1.length : Int) ≤ 60)) x2)) (dB D (vA s1 i6 false x2)) := by refine (aL (J := dB D) (fun _ _ => rfl) aAu _).trans ?_; generalize dB D = J; revert J; refine id ?_; intro J; kernel_rfl
theorem aAD : dB D (vA s1 i6 b19 x2) = aC b19 (aB (decide (0 ≤ i6) && decide (i6 < (↑x2.a1.length : Int)) && sized 11 x2.a1) (gP (x2.a1.getD i6.toNat []) 3 fun s => aC (s.toList == s1.toList) (aB (decide (0 ≤ i6) && decide (i6 < (↑x2.a1.length : Int)) && sized 11 x2.a1) (aE.rd (x2.a1.getD i6.toNat []) fun x => some (.tup [.agg x.l,aP true],[]))) (dB D (vS s1 (IntKind.i64.wrap (i6 + 1)) x2)))) (zN T.aWj (D F.aUQ [] []) fun es => dB D (qW s1 es 0)) := by refine (aL (J := dB D) (fun _ _ => rfl) aAu _).trans ?_; generalize dB D = J; revert J; refine id ?_; intro J; kernel_rfl
theorem aA4 : dB D (qW s1 e7 i8) = aC (decide (i8 < (↑e7.length : Int))) (aB (decide (0 ≤ i8) && decide (i8 < (↑e7.length : Int)) && sized 11 e7) (gP (e7.getD i8.toNat []) 3 fun s => aC (s.toList == s1.toList) (aB (decide (0 ≤ i8) && decide (i8 < (↑e7.length : Int)) && sized 11 e7) (aE.rd (e7.getD i8.toNat []) fun x => some (.tup [.agg x.l,aP true],[]))) (dB D (qW s1 e7 (IntKind.i64.wrap (i8 + 1)))))) (some (.tup [.agg (aE.l ⟨0,false,ByteArray.mk #[],ByteArray.mk #[],[],[],[],[],[],false,[]⟩),aP false],[])) := by refine (aL (J := dB D) (fun _ _ => rfl) aAu _).trans ?_; generalize dB D = J; revert J; refine id ?_; intro J; kernel_rfl
theorem aJT : bM Tryz.prog D Hs cB F.aVF [.agg x0.l,.leaf (.str s1)] [] = dB D (vS s1 0 x0) := by refine (aI (J := dB D) (by kernel_rfl) (fun _ _ => rfl) [[1,0,1,0],[1,0,1,0,0,0,1],[1,1,1,0,1,0]]).trans ?_; generalize dB D = J; revert J; refine id ?_; intro J; kernel_rfl
end
section
variable (b14 : Bool) (i3 i4 : Int) (x1 x0 : cT)
def cV := atA D F.aVV
def aAq : PS := ([1,0,1],St.mk ([.any,.ptr 1 0] ++ bJ 12 ++ [aP b14] ++ bJ 26) ([none,some x1.b] ++ noB 39))
def rB : PS := ([1,1,0,1,0],St.mk ([.any,.ptr 1 0,.any,aJ i3] ++ bJ 37) ([none,some x1.b] ++ noB 39))
def oP : PS := ([1,1,1,0,1,0],St.mk ([.any,.ptr 1 0,.any,.any,aJ i4] ++ bJ 36) ([none,some x1.b] ++ noB 39))
def aAA : List (List Nat) := [[1,0,1],[1,1,0,1,0],[1,1,1,0,1,0]]
theorem aIX : cV D (aAq b14 x1) = aC b14 (some (aP true,[])) (cV D (rB 0 x1)) := by refine (aL (J := cV D) (fun _ _ => rfl) aAA _).trans ?_; generalize cV D = J; revert J; refine id ?_; intro J; kernel_rfl
theorem aAH : cV D (rB i3 x1) = aC (decide (i3 < (↑x1.a0.length : Int))) (aB (decide (0 ≤ i3) && decide (i3 < (↑x1.a0.length : Int)) && sized 11 x1.a0) (aE.rd (x1.a0.getD i3.toNat []) fun x => aAN (D F.aVO [.agg x.l] []) fun b => aC b (some (aP true,[])) (cV D (rB (IntKind.i64.wrap (i3 + 1)) x1)))) (cV D (oP 0 x1)) := by refine (aL (J := cV D) (fun _ _ => rfl) aAA _).trans ?_; generalize cV D = J; revert J; refine id ?_; intro J; kernel_rfl
theorem aAI : cV D (oP i4 x1) = aC (decide (i4 < (↑x1.a1.length : Int))) (aB (decide (0 ≤ i4) && decide (i4 < (↑x1.a1.length : Int)) && sized 11 x1.a1) (aE.rd (x1.a1.getD i4.toNat []) fun x => aAN (D F.aVO [.agg x.l] []) fun b => aC b (some (aP true,[])) (cV D (oP (IntKind.i64.wrap (i4 + 1)) x1)))) (some (aP false,[])) := by refine (aL (J := cV D) (fun _ _ => rfl) aAA _).trans ?_; generalize cV D = J; revert J; refine id ?_; intro J; kernel_rfl
theorem aJQ : bM Tryz.prog D Hs cB F.aVV [.agg x0.l] [] = aC (decide ((↑x0.a0.length : Int) > 60) == false) (cV D (aAq (decide ((↑x0.a1.length : Int) > 60)) x0)) (cV D (aAq true x0)) := by refine (aI (J := cV D) (by kernel_rfl) (fun _ _ => rfl) [[1,0,1],[1,1,0,1,0],[1,1,1,0,1,0]]).trans ?_; generalize cV D = J; revert J; refine id ?_; intro J; kernel_rfl
end
section
variable (x0 : cT) (i1 : Int) (e8 : LE) (i9 i10 : Int)
def kN := atA D F.aVU
def vB : PS := ([1,0,1,0],St.mk ([.any,aJ i1] ++ bJ 6 ++ [vsl e8,aJ i9,aJ i10] ++ bJ 10) (noB 21))
theorem aA7 : kN D (vB i1 e8 i9 i10) = aC (decide (i10 < i9)) (aB (decide (0 ≤ i10) && decide (i10 < (↑e8.length : Int)) && sized 2 e8) (sR.rd (e8.getD i10.toNat []) fun x => aC (x.a0 == i1) (some (.leaf (.str x.a1),[])) (kN D (vB i1 e8 i9 (IntKind.i64.wrap (i10 + 1)))))) (some (.leaf (.str (ByteArray.mk #[])),[])) := by refine (aL (J := kN D) (fun _ _ => rfl) [[1,0,1,0]] _).trans ?_; generalize kN D = J; revert J; refine id ?_; intro J; kernel_rfl
theorem aJV : bM Tryz.prog D Hs cB F.aVU [.agg x0.l,aJ i1] [] = kN D (vB i1 x0.a2 (↑x0.a2.length : Int) 0) := by refine (aI (J := kN D) (by kernel_rfl) (fun _ _ => rfl) [[1,0,1,0]]).trans ?_; generalize kN D = J; revert J; refine id ?_; intro J; kernel_rfl
end
def aFR := atA D F.aVG
theorem aKf (i0 : Int) : bM Tryz.prog D Hs cB F.aVG [aJ i0] [] = aAN (D F.aWk [aJ i0,aJ 1,aJ 3] []) fun b => aC (!b) (some (.leaf (.str (ByteArray.mk #[])),[])) (aB (decide (0 ≤ i0) && decide (i0 < (↑4 : Int)) && true) (gP (([[.str (ByteArray.mk #[])],[.str (ByteArray.mk #[113,117,101,114,121])],[.str (ByteArray.mk #[109,117,116,97,116,105,111,110])],[.str (ByteArray.mk #[115,117,98,115,99,114,105,112,116,105,111,110])]] : LE).getD i0.toNat []) 0 fun s => some (.leaf (.str s),[]))) := by refine (aI (J := aFR D) (by kernel_rfl) (fun _ _ => rfl) []).trans ?_; generalize aFR D = J; revert J; refine id ?_; intro J; kernel_rfl
def aDb := atA D F.aVm
theorem aIU (x0 : cT) (s1 : ByteArray) : bM Tryz.prog D Hs cB F.aVm [.agg x0.l,.leaf (.str s1)] [] = aKN (D F.aVW [.agg x0.l,.leaf (.str s1)] []) fun n => aC (decide (n < 0)) (some (.tup [.agg (aE.l ⟨0,false,ByteArray.mk #[],ByteArray.mk #[],[],[],[],[],[],false,[]⟩),aP false],[])) (aB (decide (0 ≤ n) && decide (n < (↑x0.a0.length : Int)) && sized 11 x0.a0) (aE.rd (x0.a0.getD n.toNat []) fun x => some (.tup [.agg x.l,aP true],[]))) := by refine (aI (J := aDb D) (by kernel_rfl) (fun _ _ => rfl) []).trans ?_; generalize aDb D = J; revert J; refine id ?_; intro J; kernel_rfl
section
variable (s6 : ByteArray) (i37 : Int) (b38 : Bool) (x2 x3 : aE) (ex8_0 : LE) (x0 x1 : aE)
def aZ := atA D F.aUF
def oX : PS := ([1,1,1,1,1],St.mk ([.any,.any,.ptr 2 0,.ptr 3 0,.any,.ptr 8 0,.leaf (.str s6)] ++ bJ 121) ([none,none,some x2.b,some x3.b,none,none,none,none,some [.own (some T.aVQ) []]] ++ noB 119))
def oT : PS := ([1,1,1,1,1,1,0,1,0,1],St.mk ([.any,.any,.ptr 2 0,.ptr 3 0,.any,.ptr 8 0,.leaf (.str s6)] ++ bJ 30 ++ [aJ i37,aP b38] ++ bJ 89) ([none,none,some x2.b,some x3.b,none,none,none,none,some [.own (some T.aVQ) ex8_0]] ++ noB 119))
def iJ : PS := ([1,1,1,1,1,1,1],St.mk (bJ 5 ++ [.ptr 8 0] ++ bJ 122) (noB 8 ++ [some [.own (some T.aVQ) ex8_0]] ++ noB 119))
def oS : PS := ([1,1,1,1,1,1,0,1,0,1,1,1,1,1,1,1,1,1,0,1,1],St.mk ([.any,.any,.ptr 2 0,.ptr 3 0,.any,.ptr 8 0,.leaf (.str s6)] ++ bJ 121) ([none,none,some x2.b,some x3.b,none,none,none,none,some [.own (some T.aVQ) ex8_0]] ++ noB 119))
def pC : PS := ([1,1,1,1,1,1,0,1,0,1,1,1,1,1,1,1,1,1,0,1,1,1],St.mk ([.any,.any,.ptr 2 0,.ptr 3 0,.any,.ptr 8 0,.leaf (.str s6)] ++ bJ 121) ([none,none,some x2.b,some x3.b,none,none,none,none,some [.own (some T.aVQ) ex8_0]] ++ noB 119))
def lY : List (List Nat) := [[1,1,1,1,1],[1,1,1,1,1,1,1],[1,1,1,1,1,1,0,1,0,1],[1,1,1,1,1,1,0,1,0,1,1,1,1,1,1,1,1,1,0,1,1],[1,1,1,1,1,1,0,1,0,1,1,1,1,1,1,1,1,1,0,1,1,1]]
theorem aDR : aZ D (oX s6 x2 x3) = mP T.aVQ (D F.aUi [.ptr 0 0,.leaf (.bool !x2.a2.toList == x3.a2.toList),aJ 28,.leaf (.str s6),.leaf (.str (ByteArray.mk #[]))] [[.own (some T.aVQ) []]]) fun es => aC (x2.a0 == 2) (aZ D (oT s6 x2.a0 (x2.a0 == 2) x2 x3 es)) (aZ D (oT s6 x2.a0 (x2.a0 == 3) x2 x3 es)) := by refine (aL (J := aZ D) (fun _ _ => rfl) lY _).trans ?_; generalize aZ D = J; revert J; refine id ?_; intro J; kernel_rfl
theorem aC3 : aZ D (oT s6 i37 b38 x2 x3 ex8_0) = aC b38 (zN T.aVQ (D F.aUn [.leaf (.str s6),.leaf (.sl fP x2.a4),.leaf (.sl fP x3.a4),aJ 12,aJ 24] []) fun es => mP T.aVQ (D F.aUk [.ptr 0 0,vsl es] [[.own (some T.aVQ) ex8_0]]) fun es => zN T.aVQ (D F.aUh [.agg x2.l,.agg x3.l] []) fun es_1 => mP T.aVQ (D F.aUk [.ptr 0 0,vsl es_1] [[.own (some T.aVQ) es]]) fun es => aZ D (iJ es)) (aC (i37 == 4) (zN T.aVQ (D F.aUn [.leaf (.str s6),.leaf (.sl fP x2.a4),.leaf (.sl fP x3.a4),aJ 11,aJ 23] []) fun es => mP T.aVQ (D F.aUk [.ptr 0 0,vsl es] [[.own (some T.aVQ) ex8_0]]) fun es => aZ D (iJ es)) (aC (i37 == 5) (zN T.aWl (D F.aUD [.leaf (.sl fP x2.a7)] []) fun es => zN T.aWl (D F.aUD [.leaf (.sl fP x3.a7)] []) fun es_1 => zN T.aVQ (D F.aUn [.leaf (.str s6),vsl es,vsl es_1,aJ 10,aJ 22] []) fun es => mP T.aVQ (D F.aUk [.ptr 0 0,vsl es] [[.own (some T.aVQ) ex8_0]]) fun es => aZ D (iJ es)) (aC (i37 == 6) (zN T.aVQ (D F.aUN [.leaf (.str s6),.leaf (.sl fP x2.a6),.leaf (.sl fP x3.a6)] []) fun es => mP T.aVQ (D F.aUk [.ptr 0 0,vsl es] [[.own (some T.aVQ) ex8_0]]) fun es => aZ D (iJ es)) (aC (i37 == 7) (zN T.aVQ (D F.aUn [.leaf (.str s6),.leaf (.sl fP x2.a4),.leaf (.sl fP x3.a4),aJ 14,aJ 26] []) fun es => mP T.aVQ (D F.aUk [.ptr 0 0,vsl es] [[.own (some T.aVQ) ex8_0]]) fun es => aC (x2.a9 == true) (mP T.aVQ (D F.aUi [.ptr 0 0,.leaf (.bool !x3.a9),aJ 15,.leaf (.str s6),.leaf (.str (ByteArray.mk #[]))] [[.own (some T.aVQ) es]]) fun es => aZ D (oS s6 x2 x3 es)) (mP T.aVQ (D F.aUi [.ptr 0 0,aP false,aJ 15,.leaf (.str s6),.leaf (.str (ByteArray.mk #[]))] [[.own (some T.aVQ) es]]) fun es => aZ D (oS s6 x2 x3 es))) (aZ D (iJ ex8_0)))))) := by refine (aL (J := aZ D) (fun _ _ => rfl) lY _).trans ?_; generalize aZ D = J; revert J; refine id ?_; intro J; kernel_rfl
theorem hU : aZ D (iJ ex8_0) = some (.own (some T.aVQ) ex8_0,[]) := by refine (aL (J := aZ D) (fun _ _ => rfl) lY _).trans ?_; generalize aZ D = J; revert J; refine id ?_; intro J; kernel_rfl
theorem aDM : aZ D (oS s6 x2 x3 ex8_0) = aC ((!x2.a9) == true) (mP T.aVQ (D F.aUi [.ptr 0 0,.leaf (.bool x3.a9),aJ 27,.leaf (.str s6),.leaf (.str (ByteArray.mk #[]))] [[.own (some T.aVQ) ex8_0]]) fun es => aZ D (pC s6 x2 x3 es)) (mP T.aVQ (D F.aUi [.ptr 0 0,aP false,aJ 27,.leaf (.str s6),.leaf (.str (ByteArray.mk #[]))] [[.own (some T.aVQ) ex8_0]]) fun es => aZ D (pC s6 x2 x3 es)) := by refine (aL (J := aZ D) (fun _ _ => rfl) lY _).trans ?_; generalize aZ D = J; revert J; refine id ?_; intro J; kernel_rfl
theorem aDr : aZ D (pC s6 x2 x3 ex8_0) = zN T.aVQ (D F.aUN [.leaf (.str s6),.leaf (.sl fP x2.a6),.leaf (.sl fP x3.a6)] []) fun es => mP T.aVQ (D F.aUk [.ptr 0 0,vsl es] [[.own (some T.aVQ) ex8_0]]) fun es => aZ D (iJ es) := by refine (aL (J := aZ D) (fun _ _ => rfl) lY _).trans ?_; generalize aZ D = J; revert J; refine id ?_; intro J; kernel_rfl
theorem aE0 : bM Tryz.prog D Hs cB F.aUF [.agg x0.l,.agg x1.l] [] = aC (x0.a0 != x1.a0) (mP T.aVQ (D F.aUi [.ptr 0 0,aP true,aJ 3,.leaf (.str x0.a3),.leaf (.str (ByteArray.mk #[]))] [[.own (some T.aVQ) []]]) fun es => some (.own (some T.aVQ) es,[])) (aC (x0.a0 == 7) (aB (decide ((ByteArray.mk #[64]).size + x0.a3.size ≤ 140737488355328)) (aZ D (oX (ByteArray.mk #[64] ++ x0.a3) x0 x1))) (aZ D (oX x0.a3 x0 x1))) := by refine (aI (J := aZ D) (by kernel_rfl) (fun _ _ => rfl) [[1,1,1,1,1],[1,1,1,1,1,1,1],[1,1,1,1,1,1,0,1,0,1],[1,1,1,1,1,1,0,1,0,1,1,1,1,1,1,1,1,1,0,1,1],[1,1,1,1,1,1,0,1,0,1,1,1,1,1,1,1,1,1,0,1,1,1]]).trans ?_; generalize aZ D = J; revert J; refine id ?_; intro J; kernel_rfl
end
def yN (x : PS) : Ret false := atF Tryz.prog D Hs F.aUk x.1 1 x.2
theorem aEi (e1 eb0_0 : LE) : bM Tryz.prog D Hs cB F.aUk [.ptr 0 0,vsl e1] [[.own (some T.aVQ) eb0_0]] = aB (decide ((eb0_0.length + e1.length) * 40 ≤ aH) && sized 3 e1) (some (.tup [],[[.own (some T.aVQ) (eb0_0 ++ e1)]])) := by refine (aI (J := yN D) (by kernel_rfl) (fun _ _ => rfl) []).trans ?_; generalize yN D = J; revert J; refine id ?_; intro J; kernel_rfl
def aFS := atA D F.aVW
theorem aJR (x0 : cT) (s1 : ByteArray) : bM Tryz.prog D Hs cB F.aVW [.agg x0.l,.leaf (.str s1)] [] = aKN (D F.aV8 [.leaf (.sl fP x0.a0),.leaf (.str s1)] []) fun n => some (aJ n,[]) := by refine (aI (J := aFS D) (by kernel_rfl) (fun _ _ => rfl) []).trans ?_; generalize aFS D = J; revert J; refine id ?_; intro J; kernel_rfl
section
variable (e5 e14 : LE) (i15 i16 : Int) (x2 x3 x0 x1 : cT)
def iT := atA D F.aVc
def rL : PS := ([1,1,0,1,0],St.mk (bJ 5 ++ [SV.raw (some T.aWl) e5] ++ bJ 8 ++ [.own (some T.aWj) e14,aJ i15,aJ i16] ++ bJ 13) ([none,none,some x2.b,some x3.b] ++ noB 26))
theorem yR : iT D (rL e5 e14 i15 i16 x2 x3) = aC (decide (i16 < i15)) (aB (decide (0 ≤ i16) && decide (i16 < (↑e14.length : Int)) && sized 11 e14) (aE.rd (e14.getD i16.toNat []) fun x => aB (decide ((e5.length + 1) * 16 ≤ aH) && true) (iT D (rL (e5 ++ [[.str x.a3]]) e14 i15 (IntKind.i64.wrap (i16 + 1)) x2 x3)))) (aB ([aCx e5].all fun x => x.all SV.flat) ((D F.aUc [.bsl 0 1 0 e5.length] [aCx e5]).bind fun r => tK r.snd fun d r_1 => lF r_1 (jZ r.fst fun vs => jM vs (aB ([d].all fun x => x.all SV.flat) ((D F.aT9 [.bsl 0 1 0 e5.length] [d]).bind fun r => tK r.snd fun d r_2 => lF r_2 (aDp 0 1 r.fst fun lo n => aB (lo == 0 && true) (aB (decide (n * 1 ≤ d.length)) ((cN (List.take (n * 1) d)).bind fun l => some (vsl (jN 1 n l),[]))))))))) := by refine (aL (J := iT D) (fun _ _ => rfl) [[1,1,0,1,0]] _).trans ?_; generalize iT D = J; revert J; refine id ?_; intro J; kernel_rfl
theorem aHm : bM Tryz.prog D Hs cB F.aVc [.agg x0.l,.agg x1.l] [] = zN T.aWj (D F.aT5 [.leaf (.sl fP x0.a1)] []) fun es => aB (decide ((es.length + x1.a1.length) * 200 ≤ aH) && sized 11 x1.a1) (iT D (rL [] (es ++ x1.a1) (↑(es ++ x1.a1).length : Int) 0 x0 x1)) := by refine (aI (J := iT D) (by kernel_rfl) (fun _ _ => rfl) [[1,1,0,1,0]]).trans ?_; generalize iT D = J; revert J; refine id ?_; intro J; kernel_rfl
end
def aF1 := atA D F.aVE
theorem aJ6 (x0 : cT) (s1 : ByteArray) : bM Tryz.prog D Hs cB F.aVE [.agg x0.l,.leaf (.str s1)] [] = aKN (D F.aV8 [.leaf (.sl fP x0.a1),.leaf (.str s1)] []) fun n => aC (decide (n ≥ 0)) (aB (decide (0 ≤ n) && decide (n < (↑x0.a1.length : Int)) && sized 11 x0.a1) (aE.rd (x0.a1.getD n.toNat []) fun x => some (.tup [.agg x.l,aP true],[]))) (zN T.aWj (D F.aUJ [] []) fun es => aKN (D F.aV8 [vsl es,.leaf (.str s1)] []) fun n => aC (decide (n ≥ 0)) (aB (decide (0 ≤ n) && decide (n < (↑es.length : Int)) && sized 11 es) (aE.rd (es.getD n.toNat []) fun x => some (.tup [.agg x.l,aP true],[]))) (some (.tup [.agg (aE.l ⟨0,false,ByteArray.mk #[],ByteArray.mk #[],[],[],[],[],[],false,[]⟩),aP false],[]))) := by refine (aI (J := aF1 D) (by kernel_rfl) (fun _ _ => rfl) []).trans ?_; generalize aF1 D = J; revert J; refine id ?_; intro J; kernel_rfl
def aB6 := atA D F.aU1
theorem aHK (x0 : cT) : bM Tryz.prog D Hs cB F.aU1 [.agg x0.l] [] = aC (decide ((↑x0.a0.length : Int) > 60) == false) (aC (decide ((↑x0.a1.length : Int) > 60) == false) (aGQ (D F.aT3 [.leaf (.sl fP x0.a0),.fn F.aVn []] []) fun b => aC (b == false) (aGQ (D F.aT3 [.leaf (.sl fP x0.a1),.fn F.aVn []] []) fun b => some (aP b,[])) (some (aP true,[]))) (some (aP true,[]))) (some (aP true,[])) := by refine (aI (J := aB6 D) (by kernel_rfl) (fun _ _ => rfl) []).trans ?_; generalize aB6 D = J; revert J; refine id ?_; intro J; kernel_rfl
section
variable (e0 : LE) (i1 i5 : Int)
def kL := atA D F.aVT
def vU : PS := ([1,1,1,0,1,0],St.mk ([vsl e0,aJ i1,.any,.any,.any,aJ i5] ++ bJ 21) (noB 27))
theorem aAZ : kL D (vU e0 i1 i5) = aC (decide (i5 < (↑e0.length : Int))) (aB (decide (0 ≤ i5) && decide (i5 < (↑e0.length : Int)) && sized 11 e0) (fB (e0.getD i5.toNat []) fun e => atK e 0 fun l => dF .i64 l fun n => atK e 1 fun l => cL l fun b => atK e 2 fun l => bO l fun s => atK e 3 fun l => bO l fun s_1 => atK e 4 fun l => slK l fun c es => atK e 5 fun l => slK l fun c es_1 => atK e 6 fun l => slK l fun c es_2 => atK e 7 fun l => slK l fun c es_3 => atK e 8 fun l => slK l fun c es_4 => atK e 9 fun l => cL l fun b_1 => atK e 10 fun l => slK l fun c es_5 => (D F.aV5 [.agg [.int .i64 n,.bool b,.str s,.str s_1,.sl fP es,.sl fP es_1,.sl fP es_2,.sl fP es_3,.sl fP es_4,.bool b_1,.sl fP es_5],aJ i1] []).bind fun r => aM r.fst fun l => dF .i64 l fun n => aC (decide (n < 0)) (some (aJ (-1),[])) (kL D (vU e0 n (IntKind.i64.wrap (i5 + 1)))))) (some (aJ i1,[])) := by refine (aL (J := kL D) (fun _ _ => rfl) [[1,1,1,0,1,0]] _).trans ?_; generalize kL D = J; revert J; refine id ?_; intro J; kernel_rfl
theorem aJ0 : bM Tryz.prog D Hs cB F.aVT [vsl e0,aJ i1] [] = aC (decide (IntKind.i64.wrap (i1 - (↑e0.length : Int)) < 0)) (some (aJ (-1),[])) (kL D (vU e0 (IntKind.i64.wrap (i1 - (↑e0.length : Int))) 0)) := by refine (aI (J := kL D) (by kernel_rfl) (fun _ _ => rfl) [[1,1,1,0,1,0]]).trans ?_; generalize kL D = J; revert J; refine id ?_; intro J; kernel_rfl
end
section
variable (e0 : LE) (i1 i5 : Int)
def jQ := atA D F.aVq
def sS : PS := ([1,1,1,0,1,0],St.mk ([vsl e0,aJ i1,.any,.any,.any,aJ i5] ++ bJ 21) (noB 27))
theorem zQ : jQ D (sS e0 i1 i5) = aC (decide (i5 < (↑e0.length : Int))) (aB (decide (0 ≤ i5) && decide (i5 < (↑e0.length : Int)) && sized 2 e0) (fB (e0.getD i5.toNat []) fun e => atK e 0 fun l => dF .i64 l fun n => atK e 1 fun l => bO l fun s => (D F.aVR [.agg [.int .i64 n,.str s],aJ i1] []).bind fun r => aM r.fst fun l => dF .i64 l fun n => aC (decide (n < 0)) (some (aJ (-1),[])) (jQ D (sS e0 n (IntKind.i64.wrap (i5 + 1)))))) (some (aJ i1,[])) := by refine (aL (J := jQ D) (fun _ _ => rfl) [[1,1,1,0,1,0]] _).trans ?_; generalize jQ D = J; revert J; refine id ?_; intro J; kernel_rfl
theorem aIj : bM Tryz.prog D Hs cB F.aVq [vsl e0,aJ i1] [] = aC (decide (IntKind.i64.wrap (i1 - (↑e0.length : Int)) < 0)) (some (aJ (-1),[])) (jQ D (sS e0 (IntKind.i64.wrap (i1 - (↑e0.length : Int))) 0)) := by refine (aI (J := jQ D) (by kernel_rfl) (fun _ _ => rfl) [[1,1,1,0,1,0]]).trans ?_; generalize jQ D = J; revert J; refine id ?_; intro J; kernel_rfl
end
def aCn := atA D F.aVi
theorem aG7 (i0_0 : Int) (s0_1 s0_2 : ByteArray) (i1_0 : Int) (s1_1 s1_2 : ByteArray) : bM Tryz.prog D Hs cB F.aVi [.agg [.int .i64 i0_0,.str s0_1,.str s0_2],.agg [.int .i64 i1_0,.str s1_1,.str s1_2]] [] = aC (i0_0 != i1_0) (some (aP false,[])) (aC (!s0_1.toList == s1_1.toList) (some (aP false,[])) (aC (!s0_2.toList == s1_2.toList) (some (aP false,[])) (some (aP true,[])))) := by refine (aI (J := aCn D) (by kernel_rfl) (fun _ _ => rfl) []).trans ?_; generalize aCn D = J; revert J; refine id ?_; intro J; kernel_rfl
section
variable (e0 e1 : LE) (i5 : Int)
def kT := atA D F.aVz
def vF : PS := ([1,1,0,1,0],St.mk ([vsl e0,vsl e1,.any,.any,.any,aJ i5] ++ bJ 21) (noB 27))
theorem aBf : kT D (vF e0 e1 i5) = aC (decide (i5 < (↑e0.length : Int))) (aB (decide (0 ≤ i5) && decide (i5 < (↑e0.length : Int)) && sized 11 e0) (fB (e0.getD i5.toNat []) fun e => atK e 0 fun l => dF .i64 l fun n => atK e 1 fun l => cL l fun b => atK e 2 fun l => bO l fun s => atK e 3 fun l => bO l fun s_1 => atK e 4 fun l => slK l fun c es => atK e 5 fun l => slK l fun c es_1 => atK e 6 fun l => slK l fun c es_2 => atK e 7 fun l => slK l fun c es_3 => atK e 8 fun l => slK l fun c es_4 => atK e 9 fun l => cL l fun b_1 => atK e 10 fun l => slK l fun c es_5 => aB (decide (0 ≤ i5) && decide (i5 < (↑e1.length : Int)) && sized 11 e1) (fB (e1.getD i5.toNat []) fun e => atK e 0 fun l => dF .i64 l fun n_1 => atK e 1 fun l => cL l fun b_2 => atK e 2 fun l => bO l fun s_2 => atK e 3 fun l => bO l fun s_3 => atK e 4 fun l => slK l fun c es_6 => atK e 5 fun l => slK l fun c es_7 => atK e 6 fun l => slK l fun c es_8 => atK e 7 fun l => slK l fun c es_9 => atK e 8 fun l => slK l fun c es_10 => atK e 9 fun l => cL l fun b_3 => atK e 10 fun l => slK l fun c es_11 => (D F.aV9 [.agg [.int .i64 n,.bool b,.str s,.str s_1,.sl fP es,.sl fP es_1,.sl fP es_2,.sl fP es_3,.sl fP es_4,.bool b_1,.sl fP es_5],.agg [.int .i64 n_1,.bool b_2,.str s_2,.str s_3,.sl fP es_6,.sl fP es_7,.sl fP es_8,.sl fP es_9,.sl fP es_10,.bool b_3,.sl fP es_11]] []).bind fun r => aM r.fst fun l => cL l fun b => aC (!b) (some (aP false,[])) (kT D (vF e0 e1 (IntKind.i64.wrap (i5 + 1))))))) (some (aP true,[])) := by refine (aL (J := kT D) (fun _ _ => rfl) [[1,1,0,1,0]] _).trans ?_; generalize kT D = J; revert J; refine id ?_; intro J; kernel_rfl
theorem aJY : bM Tryz.prog D Hs cB F.aVz [vsl e0,vsl e1] [] = aC ((↑e0.length : Int) != (↑e1.length : Int)) (some (aP false,[])) (kT D (vF e0 e1 0)) := by refine (aI (J := kT D) (by kernel_rfl) (fun _ _ => rfl) [[1,1,0,1,0]]).trans ?_; generalize kT D = J; revert J; refine id ?_; intro J; kernel_rfl
end
section
variable (e0 e1 : LE) (i5 : Int)
def jO := atA D F.aVp
def tD : PS := ([1,1,0,1,0],St.mk ([vsl e0,vsl e1,.any,.any,.any,aJ i5] ++ bJ 21) (noB 27))
theorem zP : jO D (tD e0 e1 i5) = aC (decide (i5 < (↑e0.length : Int))) (aB (decide (0 ≤ i5) && decide (i5 < (↑e0.length : Int)) && sized 2 e0) (fB (e0.getD i5.toNat []) fun e => atK e 0 fun l => dF .i64 l fun n => atK e 1 fun l => bO l fun s => aB (decide (0 ≤ i5) && decide (i5 < (↑e1.length : Int)) && sized 2 e1) (fB (e1.getD i5.toNat []) fun e => atK e 0 fun l => dF .i64 l fun n_1 => atK e 1 fun l => bO l fun s_1 => (D F.aVJ [.agg [.int .i64 n,.str s],.agg [.int .i64 n_1,.str s_1]] []).bind fun r => aM r.fst fun l => cL l fun b => aC (!b) (some (aP false,[])) (jO D (tD e0 e1 (IntKind.i64.wrap (i5 + 1))))))) (some (aP true,[])) := by refine (aL (J := jO D) (fun _ _ => rfl) [[1,1,0,1,0]] _).trans ?_; generalize jO D = J; revert J; refine id ?_; intro J; kernel_rfl
theorem aH8 : bM Tryz.prog D Hs cB F.aVp [vsl e0,vsl e1] [] = aC ((↑e0.length : Int) != (↑e1.length : Int)) (some (aP false,[])) (jO D (tD e0 e1 0)) := by refine (aI (J := jO D) (by kernel_rfl) (fun _ _ => rfl) [[1,1,0,1,0]]).trans ?_; generalize jO D = J; revert J; refine id ?_; intro J; kernel_rfl
end
section
variable (s0 : ByteArray) (e1 e2 : LE) (i3 i4 : Int) (e11 e12 e13 : LE) (i14 i15 : Int)
end
section
variable (e5 : LE) (i6 i8 i9 : Int) (x2 x3 : aE) (x7 : cQ) (x0 x1 : aE)
end
section
variable (e3 : LE) (i4 : Int) (x1 x0 : aE)
end
section
variable (s0 : ByteArray) (e1 e2 e7 : LE) (i8 i12 i13 : Int) (b61 b129 b81 : Bool) (x9 x11 : bV) (i14 : Int)
end
section
variable (e3 e4 e5 : LE) (i6 i7 : Int) (b37 b58 : Bool) (s8 : ByteArray) (b83 : Bool) (c0 : Fl false) (e0 : LE)
end
def aAT := atA D F.aUQ
theorem aGj : bM Tryz.prog D Hs cB F.aUQ [] [] = (D F.aVk [.leaf (.str (ByteArray.mk #[105,110,99,108,117,100,101]))] []).bind fun r => aE.va r.fst fun x => (D F.aVk [.leaf (.str (ByteArray.mk #[115,107,105,112]))] []).bind fun r => aE.va r.fst fun x_1 => some (.own (some T.aWj) [[.int .i64 7,.bool false,.str (ByteArray.mk #[]),.str (ByteArray.mk #[100,101,112,114,101,99,97,116,101,100]),.sl fP [[.str (ByteArray.mk #[70,73,69,76,68,95,68,69,70,73,78,73,84,73,79,78])],[.str (ByteArray.mk #[65,82,71,85,77,69,78,84,95,68,69,70,73,78,73,84,73,79,78])],[.str (ByteArray.mk #[73,78,80,85,84,95,70,73,69,76,68,95,68,69,70,73,78,73,84,73,79,78])],[.str (ByteArray.mk #[69,78,85,77,95,86,65,76,85,69])]],.sl fP [],.sl fP [[.str (ByteArray.mk #[114,101,97,115,111,110]),.str (ByteArray.mk #[]),.str (ByteArray.mk #[83,116,114,105,110,103]),.str (ByteArray.mk #[]),.bool true,.int .i64 4,.str (ByteArray.mk #[78,111,32,108,111,110,103,101,114,32,115,117,112,112,111,114,116,101,100]),.sl fP [],.sl fP [],.sl fP []]],.sl fP [],.sl fP [],.bool false,.sl fP []],[.int .i64 x.a0,.bool x.a1,.str x.a2,.str x.a3,.sl fP x.a4,.sl fP x.a5,.sl fP x.a6,.sl fP x.a7,.sl fP x.a8,.bool x.a9,.sl fP x.a10],[.int .i64 x_1.a0,.bool x_1.a1,.str x_1.a2,.str x_1.a3,.sl fP x_1.a4,.sl fP x_1.a5,.sl fP x_1.a6,.sl fP x_1.a7,.sl fP x_1.a8,.bool x_1.a9,.sl fP x_1.a10]],[]) := by refine (aI (J := aAT D) (by kernel_rfl) (fun _ _ => rfl) []).trans ?_; generalize aAT D = J; revert J; refine id ?_; intro J; kernel_rfl
section
variable (i3 : Int) (x1 x0 : aE)
def kR := atA D F.aVO
def vK : PS := ([1,0,1,0],St.mk ([.any,.ptr 1 0,.any,aJ i3] ++ bJ 37) ([none,some x1.b] ++ noB 39))
theorem aBi : kR D (vK i3 x1) = aC (decide (i3 < (↑x1.a5.length : Int))) (aB (decide (0 ≤ i3) && decide (i3 < (↑x1.a5.length : Int)) && sized 6 x1.a5) (aSl (x1.a5.getD i3.toNat []) 2 fun es => aC (decide ((↑es.length : Int) > 100)) (some (aP true,[])) (kR D (vK (IntKind.i64.wrap (i3 + 1)) x1)))) (aC (decide ((↑x1.a4.length : Int) > 100) == false) (aC (decide ((↑x1.a5.length : Int) > 100) == false) (aC (decide ((↑x1.a6.length : Int) > 100) == false) (some (.leaf (.bool (decide ((↑x1.a7.length : Int) > 100))),[])) (some (aP true,[]))) (some (aP true,[]))) (some (aP true,[]))) := by refine (aL (J := kR D) (fun _ _ => rfl) [[1,0,1,0]] _).trans ?_; generalize kR D = J; revert J; refine id ?_; intro J; kernel_rfl
theorem aJ7 : bM Tryz.prog D Hs cB F.aVO [.agg x0.l] [] = kR D (vK 0 x0) := by refine (aI (J := kR D) (by kernel_rfl) (fun _ _ => rfl) [[1,0,1,0]]).trans ?_; generalize kR D = J; revert J; refine id ?_; intro J; kernel_rfl
end
def aMA := atA D F.aWk
theorem aNZ (i0 i1 i2 : Int) : bM Tryz.prog D Hs cB F.aWk [aJ i0,aJ i1,aJ i2] [] = aC (decide (i0 ≥ i1) == true) (some (.leaf (.bool (decide (i0 ≤ i2))),[])) (some (aP false,[])) := by refine (aI (J := aMA D) (by kernel_rfl) (fun _ _ => rfl) []).trans ?_; generalize aMA D = J; revert J; refine id ?_; intro J; kernel_rfl
section
variable (s0 : ByteArray) (e1 e2 : LE) (i3 i4 : Int) (e18 : LE) (i19 i20 : Int) (e34 : LE) (i35 i36 : Int) (ex17_0 : LE)
end
section
variable (e17 : LE) (i18 i19 : Int) (e64 : LE) (i65 i66 : Int) (x2 x3 : aE) (ex15_0 : LE) (x0 x1 : aE)
def bW := atA D F.aUh
def mQ : PS := ([1,1,0,1,0],St.mk ([.any,.any,.ptr 2 0,.ptr 3 0,.any,.ptr 15 0] ++ bJ 11 ++ [vsl e17,aJ i18,aJ i19] ++ bJ 70) ([none,none,some x2.b,some x3.b] ++ noB 11 ++ [some [.own (some T.aVQ) ex15_0]] ++ noB 74))
def mT : PS := ([1,1,0,1,0,0,1,1,1],St.mk ([.any,.any,.ptr 2 0,.ptr 3 0,.any,.ptr 15 0] ++ bJ 11 ++ [vsl e17,aJ i18,aJ i19] ++ bJ 70) ([none,none,some x2.b,some x3.b] ++ noB 11 ++ [some [.own (some T.aVQ) ex15_0]] ++ noB 74))
def iN : PS := ([1,1,1,0,1,0],St.mk ([.any,.any,.ptr 2 0,.any,.any,.ptr 15 0] ++ bJ 58 ++ [vsl e64,aJ i65,aJ i66] ++ bJ 23) ([none,none,some x2.b] ++ noB 12 ++ [some [.own (some T.aVQ) ex15_0]] ++ noB 74))
def qQ : List (List Nat) := [[1,1,0,1,0],[1,1,0,1,0,0,1,1,1],[1,1,1,0,1,0]]
theorem sV : bW D (mQ e17 i18 i19 x2 x3 ex15_0) = aC (decide (i19 < i18)) (aB (decide (0 ≤ i19) && decide (i19 < (↑e17.length : Int)) && sized 6 e17) (cQ.rd (e17.getD i19.toNat []) fun x => (D F.aVr [.agg x3.l,.leaf (.str x.a0)] []).bind fun r => jZ r.fst fun vs => gA vs fun v r => cQ.va v fun x_1 => gA r fun v r => aCc v fun b => jM r (aC (!b) (mP T.aVQ (D F.aUi [.ptr 0 0,aP true,aJ 4,.leaf (.str x2.a3),.leaf (.str x.a0)] [[.own (some T.aVQ) ex15_0]]) fun es => bW D (mT e17 i18 i19 x2 x3 es)) (mP T.aVQ (D F.aUi [.ptr 0 0,.leaf (.bool !(x.a3 == x_1.a3 && (x.a4 == x_1.a4 && true))),aJ 5,.leaf (.str x2.a3),.leaf (.str x.a0)] [[.own (some T.aVQ) ex15_0]]) fun es => aB (decide (x2.a3.size + (ByteArray.mk #[46]).size ≤ 140737488355328)) (aB (decide ((x2.a3 ++ ByteArray.mk #[46]).size + x.a0.size ≤ 140737488355328)) (zN T.aVQ (D F.aUN [.leaf (.str (x2.a3 ++ ByteArray.mk #[46] ++ x.a0)),.leaf (.sl fP x.a2),.leaf (.sl fP x_1.a2)] []) fun es_1 => mP T.aVQ (D F.aUk [.ptr 0 0,vsl es_1] [[.own (some T.aVQ) es]]) fun es => bW D (mT e17 i18 i19 x2 x3 es))))))) (bW D (iN x3.a5 (↑x3.a5.length : Int) 0 x2 ex15_0)) := by refine (aL (J := bW D) (fun _ _ => rfl) qQ _).trans ?_; generalize bW D = J; revert J; refine id ?_; intro J; kernel_rfl
theorem aBB : bW D (mT e17 i18 i19 x2 x3 ex15_0) = bW D (mQ e17 i18 (IntKind.i64.wrap (i19 + 1)) x2 x3 ex15_0) := by refine (aL (J := bW D) (fun _ _ => rfl) qQ _).trans ?_; generalize bW D = J; revert J; refine id ?_; intro J; kernel_rfl
theorem sX : bW D (iN e64 i65 i66 x2 ex15_0) = aC (decide (i66 < i65)) (aB (decide (0 ≤ i66) && decide (i66 < (↑e64.length : Int)) && sized 6 e64) (cQ.rd (e64.getD i66.toNat []) fun x => (D F.aVr [.agg x2.l,.leaf (.str x.a0)] []).bind fun r => jZ r.fst fun vs => gA vs fun v r => cQ.va v fun x_1 => gA r fun v r => aCc v fun b => jM r (mP T.aVQ (D F.aUi [.ptr 0 0,.leaf (.bool !b),aJ 18,.leaf (.str x2.a3),.leaf (.str x.a0)] [[.own (some T.aVQ) ex15_0]]) fun es => bW D (iN e64 i65 (IntKind.i64.wrap (i66 + 1)) x2 es)))) (some (.own (some T.aVQ) ex15_0,[])) := by refine (aL (J := bW D) (fun _ _ => rfl) qQ _).trans ?_; generalize bW D = J; revert J; refine id ?_; intro J; kernel_rfl
theorem aCL : bM Tryz.prog D Hs cB F.aUh [.agg x0.l,.agg x1.l] [] = bW D (mQ x0.a5 (↑x0.a5.length : Int) 0 x0 x1 []) := by refine (aI (J := bW D) (by kernel_rfl) (fun _ _ => rfl) [[1,1,0,1,0],[1,1,0,1,0,0,1,1,1],[1,1,1,0,1,0]]).trans ?_; generalize bW D = J; revert J; refine id ?_; intro J; kernel_rfl
end
section
variable (e3 e7 : LE) (i8 i9 : Int) (e0 : LE)
end
section
variable (s0 : ByteArray) (e1 e2 : LE) (b12 b16 : Bool) (e113 : LE) (i114 i115 : Int) (x15 : bV) (b13 : Bool) (e19 : LE) (i20 i21 : Int) (x9 x11 : bV) (ex18_0 : LE)
def aT := atA D F.aUN
def qE : PS := ([1,1,0,1,0],St.mk ([.leaf (.str s0),vsl e1,vsl e2,.any,.any,.any,.any,.ptr 18 0] ++ bJ 11 ++ [vsl e19,aJ i20,aJ i21] ++ bJ 128) (noB 18 ++ [some [.own (some T.aVQ) ex18_0]] ++ noB 131))
def jE : PS := ([1,1,0,1,0,0,1,1,1],St.mk ([.leaf (.str s0),vsl e1,vsl e2,.any,.any,.any,.any,.ptr 18 0] ++ bJ 11 ++ [vsl e19,aJ i20,aJ i21] ++ bJ 128) (noB 18 ++ [some [.own (some T.aVQ) ex18_0]] ++ noB 131))
def uT : PS := ([1,1,0,1,0,0,1,1,0,0,1,1,1,1,1,1],St.mk ([.leaf (.str s0),vsl e1,vsl e2,.any,.any,.any,.any,.ptr 18 0,.any,.ptr 9 0,.any,.ptr 11 0,aP b12] ++ bJ 6 ++ [vsl e19,aJ i20,aJ i21] ++ bJ 128) (noB 9 ++ [some x9.b,none,some x11.b] ++ noB 6 ++ [some [.own (some T.aVQ) ex18_0]] ++ noB 131))
def kW : PS := ([1,1,1,0,1,0],St.mk ([.leaf (.str s0),vsl e1] ++ bJ 5 ++ [.ptr 18 0] ++ bJ 105 ++ [vsl e113,aJ i114,aJ i115] ++ bJ 34) (noB 18 ++ [some [.own (some T.aVQ) ex18_0]] ++ noB 131))
def qJ : PS := ([1,1,0,1,0,0,1,1,0,0,1,1,1,1,1,1,1],St.mk ([.leaf (.str s0),vsl e1,vsl e2,.any,.any,.any,.any,.ptr 18 0,.any,.ptr 9 0,.any,.ptr 11 0] ++ bJ 7 ++ [vsl e19,aJ i20,aJ i21] ++ bJ 128) (noB 9 ++ [some x9.b,none,some x11.b] ++ noB 6 ++ [some [.own (some T.aVQ) ex18_0]] ++ noB 131))
def qG : PS := ([1,1,1,0,1,0,0,1,1,1],St.mk ([.leaf (.str s0),vsl e1] ++ bJ 5 ++ [.ptr 18 0] ++ bJ 105 ++ [vsl e113,aJ i114,aJ i115] ++ bJ 34) (noB 18 ++ [some [.own (some T.aVQ) ex18_0]] ++ noB 131))
def uW : PS := ([1,1,1,0,1,0,0,1,1,0,0,1,1,1],St.mk ([.leaf (.str s0),vsl e1] ++ bJ 5 ++ [.ptr 18 0] ++ bJ 7 ++ [.ptr 15 0,aP b16] ++ bJ 96 ++ [vsl e113,aJ i114,aJ i115] ++ bJ 34) (noB 15 ++ [some x15.b,none,none,some [.own (some T.aVQ) ex18_0]] ++ noB 131))
def pX : PS := ([1,1,0,1,0,0,1,1,0,0,1,1,1,1,1,1,1,1],St.mk ([.leaf (.str s0),vsl e1,vsl e2,.any,.any,.any,.any,.ptr 18 0,.any,.ptr 9 0,.any,.ptr 11 0,.any,aP b13] ++ bJ 5 ++ [vsl e19,aJ i20,aJ i21] ++ bJ 128) (noB 9 ++ [some x9.b,none,some x11.b] ++ noB 6 ++ [some [.own (some T.aVQ) ex18_0]] ++ noB 131))
def gY : List (List Nat) := [[1,1,0,1,0],[1,1,0,1,0,0,1,1,1],[1,1,0,1,0,0,1,1,0,0,1,1,1,1,1,1],[1,1,0,1,0,0,1,1,0,0,1,1,1,1,1,1,1],[1,1,0,1,0,0,1,1,0,0,1,1,1,1,1,1,1,1],[1,1,1,0,1,0],[1,1,1,0,1,0,0,1,1,1],[1,1,1,0,1,0,0,1,1,0,0,1,1,1]]
theorem xF : aT D (qE s0 e1 e2 e19 i20 i21 ex18_0) = aC (decide (i21 < i20)) (aB (decide (0 ≤ i21) && decide (i21 < (↑e19.length : Int)) && sized 10 e19) (bV.rd (e19.getD i21.toNat []) fun x => aKN (D F.aWe [vsl e2,.leaf (.str x.a0)] []) fun n => aC (decide (n < 0)) (mP T.aVQ (D F.aUi [.ptr 0 0,aP true,aJ 6,.leaf (.str s0),.leaf (.str x.a0)] [[.own (some T.aVQ) ex18_0]]) fun es => aT D (jE s0 e1 e2 e19 i20 i21 es)) (aB (decide (0 ≤ n) && decide (n < (↑e2.length : Int)) && sized 10 e2) (bV.rd (e2.getD n.toNat []) fun x_1 => aAN (D F.aUu [.agg (oM.l ⟨x.a2,x.a3⟩),.agg (oM.l ⟨x_1.a2,x_1.a3⟩)] []) fun b => aC ((!(x.a2 == x_1.a2 && (x.a3 == x_1.a3 && true))) == true) (mP T.aVQ (D F.aUi [.ptr 0 0,.leaf (.bool !b),aJ 7,.leaf (.str s0),.leaf (.str x.a0)] [[.own (some T.aVQ) ex18_0]]) fun es => aT D (uT s0 e1 e2 b e19 i20 i21 x x_1 es)) (mP T.aVQ (D F.aUi [.ptr 0 0,aP false,aJ 7,.leaf (.str s0),.leaf (.str x.a0)] [[.own (some T.aVQ) ex18_0]]) fun es => aT D (uT s0 e1 e2 b e19 i20 i21 x x_1 es)))))) (aT D (kW s0 e1 e2 (↑e2.length : Int) 0 ex18_0)) := by refine (aL (J := aT D) (fun _ _ => rfl) gY _).trans ?_; generalize aT D = J; revert J; refine id ?_; intro J; kernel_rfl
theorem aE7 : aT D (jE s0 e1 e2 e19 i20 i21 ex18_0) = aT D (qE s0 e1 e2 e19 i20 (IntKind.i64.wrap (i21 + 1)) ex18_0) := by refine (aL (J := aT D) (fun _ _ => rfl) gY _).trans ?_; generalize aT D = J; revert J; refine id ?_; intro J; kernel_rfl
theorem aFh : aT D (uT s0 e1 e2 b12 e19 i20 i21 x9 x11 ex18_0) = aC ((!(x9.a2 == x11.a2 && (x9.a3 == x11.a3 && true))) == true) (mP T.aVQ (D F.aUi [.ptr 0 0,aP b12,aJ 19,.leaf (.str s0),.leaf (.str x9.a0)] [[.own (some T.aVQ) ex18_0]]) fun es => aT D (qJ s0 e1 e2 e19 i20 i21 x9 x11 es)) (mP T.aVQ (D F.aUi [.ptr 0 0,aP false,aJ 19,.leaf (.str s0),.leaf (.str x9.a0)] [[.own (some T.aVQ) ex18_0]]) fun es => aT D (qJ s0 e1 e2 e19 i20 i21 x9 x11 es)) := by refine (aL (J := aT D) (fun _ _ => rfl) gY _).trans ?_; generalize aT D = J; revert J; refine id ?_; intro J; kernel_rfl
theorem xN : aT D (kW s0 e1 e113 i114 i115 ex18_0) = aC (decide (i115 < i114)) (aB (decide (0 ≤ i115) && decide (i115 < (↑e113.length : Int)) && sized 10 e113) (bV.rd (e113.getD i115.toNat []) fun x => aKN (D F.aWe [vsl e1,.leaf (.str x.a0)] []) fun n => aC (decide (n ≥ 0)) (aT D (qG s0 e1 e113 i114 i115 ex18_0)) (aAN (D F.aVL [.agg (oM.l ⟨x.a2,x.a3⟩)] []) fun b => aC (b == true) (aT D (uW s0 e1 (!x.a4) e113 i114 i115 x ex18_0)) (aT D (uW s0 e1 false e113 i114 i115 x ex18_0))))) (some (.own (some T.aVQ) ex18_0,[])) := by refine (aL (J := aT D) (fun _ _ => rfl) gY _).trans ?_; generalize aT D = J; revert J; refine id ?_; intro J; kernel_rfl
theorem aFd : aT D (qJ s0 e1 e2 e19 i20 i21 x9 x11 ex18_0) = aC (x9.a4 == true) (aC ((!x11.a4) == true) (aAN (D F.aVL [.agg (oM.l ⟨x11.a2,x11.a3⟩)] []) fun b => aT D (pX s0 e1 e2 b e19 i20 i21 x9 x11 ex18_0)) (aT D (pX s0 e1 e2 false e19 i20 i21 x9 x11 ex18_0))) (aT D (pX s0 e1 e2 false e19 i20 i21 x9 x11 ex18_0)) := by refine (aL (J := aT D) (fun _ _ => rfl) gY _).trans ?_; generalize aT D = J; revert J; refine id ?_; intro J; kernel_rfl
theorem aFe : aT D (qG s0 e1 e113 i114 i115 ex18_0) = aT D (kW s0 e1 e113 i114 (IntKind.i64.wrap (i115 + 1)) ex18_0) := by refine (aL (J := aT D) (fun _ _ => rfl) gY _).trans ?_; generalize aT D = J; revert J; refine id ?_; intro J; kernel_rfl
theorem aEV : aT D (uW s0 e1 b16 e113 i114 i115 x15 ex18_0) = mP T.aVQ (D F.aUi [.ptr 0 0,aP b16,aJ 8,.leaf (.str s0),.leaf (.str x15.a0)] [[.own (some T.aVQ) ex18_0]]) fun es => mP T.aVQ (D F.aUi [.ptr 0 0,.leaf (.bool !b16),aJ 20,.leaf (.str s0),.leaf (.str x15.a0)] [[.own (some T.aVQ) es]]) fun es => aT D (qG s0 e1 e113 i114 i115 es) := by refine (aL (J := aT D) (fun _ _ => rfl) gY _).trans ?_; generalize aT D = J; revert J; refine id ?_; intro J; kernel_rfl
theorem aEM : aT D (pX s0 e1 e2 b13 e19 i20 i21 x9 x11 ex18_0) = mP T.aVQ (D F.aUi [.ptr 0 0,aP b13,aJ 9,.leaf (.str s0),.leaf (.str x9.a0)] [[.own (some T.aVQ) ex18_0]]) fun es => aC ((!b13) == true) (aC ((!x9.a4 == x11.a4) == false) (aAN (D F.aUL [.agg (fX.l ⟨x9.a5,x9.a6,x9.a7,x9.a8⟩),.agg (fX.l ⟨x11.a5,x11.a6,x11.a7,x11.a8⟩)] []) fun b => mP T.aVQ (D F.aUi [.ptr 0 0,.leaf (.bool !b),aJ 21,.leaf (.str s0),.leaf (.str x9.a0)] [[.own (some T.aVQ) es]]) fun es => aT D (jE s0 e1 e2 e19 i20 i21 es)) (mP T.aVQ (D F.aUi [.ptr 0 0,aP true,aJ 21,.leaf (.str s0),.leaf (.str x9.a0)] [[.own (some T.aVQ) es]]) fun es => aT D (jE s0 e1 e2 e19 i20 i21 es))) (mP T.aVQ (D F.aUi [.ptr 0 0,aP false,aJ 21,.leaf (.str s0),.leaf (.str x9.a0)] [[.own (some T.aVQ) es]]) fun es => aT D (jE s0 e1 e2 e19 i20 i21 es)) := by refine (aL (J := aT D) (fun _ _ => rfl) gY _).trans ?_; generalize aT D = J; revert J; refine id ?_; intro J; kernel_rfl
theorem aGR : bM Tryz.prog D Hs cB F.aUN [.leaf (.str s0),vsl e1,vsl e2] [] = aT D (qE s0 e1 e2 e1 (↑e1.length : Int) 0 []) := by refine (aI (J := aT D) (by kernel_rfl) (fun _ _ => rfl) [[1,1,0,1,0],[1,1,0,1,0,0,1,1,1],[1,1,0,1,0,0,1,1,0,0,1,1,1,1,1,1],[1,1,0,1,0,0,1,1,0,0,1,1,1,1,1,1,1],[1,1,0,1,0,0,1,1,0,0,1,1,1,1,1,1,1,1],[1,1,1,0,1,0],[1,1,1,0,1,0,0,1,1,1],[1,1,1,0,1,0,0,1,1,0,0,1,1,1]]).trans ?_; generalize aT D = J; revert J; refine id ?_; intro J; kernel_rfl
end
def aHy := atA D F.aV8
theorem aCW (e0 : LE) (s1 : ByteArray) : bM Tryz.prog D Hs cB F.aV8 [vsl e0,.leaf (.str s1)] [] = aC (decide ((↑e0.length : Int) > 60)) (some (aJ (-1),[])) (aRH (D F.aT4 [vsl e0,.fn F.aVx [.ptr 0 0]] [[.leaf (.str s1)]]) fun s n => some (aJ n,[])) := by refine (aI (J := aHy D) (by kernel_rfl) (fun _ _ => rfl) []).trans ?_; generalize aHy D = J; revert J; refine id ?_; intro J; kernel_rfl
section
variable (e2 : LE) (i16 : Int)
def eT := atA D F.aUJ
def kV : PS := ([1,1,1,0,1,0],St.mk ([.any,.any,.own (some T.aWj) e2] ++ bJ 11 ++ [.own (some T.aWl) [[.str (ByteArray.mk #[105,110,99,108,117,100,101])],[.str (ByteArray.mk #[115,107,105,112])]],aJ 2,aJ i16] ++ bJ 15) (noB 32))
theorem xP : eT D (kV e2 i16) = aC (decide (i16 < 2)) (aB (decide (0 ≤ i16) && decide (i16 < (↑2 : Int)) && true) (gP (([[.str (ByteArray.mk #[105,110,99,108,117,100,101])],[.str (ByteArray.mk #[115,107,105,112])]] : LE).getD i16.toNat []) 0 fun s => aB (decide ((e2.length + 1) * 200 ≤ aH) && true) (eT D (kV (e2 ++ [[.int .i64 7,.bool false,.str (ByteArray.mk #[]),.str s,.sl fP [[.str (ByteArray.mk #[70,73,69,76,68])],[.str (ByteArray.mk #[70,82,65,71,77,69,78,84,95,83,80,82,69,65,68])],[.str (ByteArray.mk #[73,78,76,73,78,69,95,70,82,65,71,77,69,78,84])]],.sl fP [],.sl fP [[.str (ByteArray.mk #[105,102]),.str (ByteArray.mk #[]),.str (ByteArray.mk #[66,111,111,108,101,97,110]),.str (ByteArray.mk #[33]),.bool false,.int .i64 0,.str (ByteArray.mk #[]),.sl fP [],.sl fP [],.sl fP []]],.sl fP [],.sl fP [],.bool false,.sl fP []]]) (IntKind.i64.wrap (i16 + 1)))))) (some (.own (some T.aWj) e2,[])) := by refine (aL (J := eT D) (fun _ _ => rfl) [[1,1,1,0,1,0]] _).trans ?_; generalize eT D = J; revert J; refine id ?_; intro J; kernel_rfl
theorem aGu : bM Tryz.prog D Hs cB F.aUJ [] [] = eT D (kV [[.int .i64 7,.bool false,.str (ByteArray.mk #[]),.str (ByteArray.mk #[100,101,112,114,101,99,97,116,101,100]),.sl fP [[.str (ByteArray.mk #[70,73,69,76,68,95,68,69,70,73,78,73,84,73,79,78])],[.str (ByteArray.mk #[65,82,71,85,77,69,78,84,95,68,69,70,73,78,73,84,73,79,78])],[.str (ByteArray.mk #[73,78,80,85,84,95,70,73,69,76,68,95,68,69,70,73,78,73,84,73,79,78])],[.str (ByteArray.mk #[69,78,85,77,95,86,65,76,85,69])]],.sl fP [],.sl fP [[.str (ByteArray.mk #[114,101,97,115,111,110]),.str (ByteArray.mk #[]),.str (ByteArray.mk #[83,116,114,105,110,103]),.str (ByteArray.mk #[]),.bool true,.int .i64 4,.str (ByteArray.mk #[78,111,32,108,111,110,103,101,114,32,115,117,112,112,111,114,116,101,100]),.sl fP [],.sl fP [],.sl fP []]],.sl fP [],.sl fP [],.bool false,.sl fP []]] 0) := by refine (aI (J := eT D) (by kernel_rfl) (fun _ _ => rfl) [[1,1,1,0,1,0]]).trans ?_; generalize eT D = J; revert J; refine id ?_; intro J; kernel_rfl
end
def iB := atA D F.aT3
theorem mN (e0 : LE) (n1 : Nat) : bM Tryz.prog D Hs cB F.aT3 [vsl e0,.fn n1 []] [] = aQi (D F.aT4 [vsl e0,.fn n1 []] []) fun n => some (.leaf (.bool (decide (n ≥ 0))),[]) := by refine (aI (J := iB D) (by kernel_rfl) (fun _ _ => rfl) []).trans ?_; generalize iB D = J; revert J; refine id ?_; intro J; kernel_rfl
def aG0 := atA D F.aV5
theorem aLn (i0_0 : Int) (b0_1 : Bool) (s0_2 s0_3 : ByteArray) (e0_4 e0_5 e0_6 e0_7 e0_8 : LE) (b0_9 : Bool) (e0_10 : LE) (i1 : Int) : bM Tryz.prog D Hs cB F.aV5 [.agg [.int .i64 i0_0,.bool b0_1,.str s0_2,.str s0_3,.sl fP e0_4,.sl fP e0_5,.sl fP e0_6,.sl fP e0_7,.sl fP e0_8,.bool b0_9,.sl fP e0_10],aJ i1] [] = aC (decide (IntKind.i64.wrap (i1 - (↑s0_2.size : Int)) < 0)) (some (aJ (-1),[])) (aC (decide (IntKind.i64.wrap (IntKind.i64.wrap (i1 - (↑s0_2.size : Int)) - (↑s0_3.size : Int)) < 0)) (some (aJ (-1),[])) ((D F.aUZ [vsl e0_4,.leaf (.int .i64 (IntKind.i64.wrap (IntKind.i64.wrap (i1 - (↑s0_2.size : Int)) - (↑s0_3.size : Int))))] []).bind fun r => aM r.fst fun l => dF .i64 l fun n => aC (decide (n < 0)) (some (aJ (-1),[])) ((D F.aUl [vsl e0_5,aJ n] []).bind fun r => aM r.fst fun l => dF .i64 l fun n => aC (decide (n < 0)) (some (aJ (-1),[])) ((D F.aVd [vsl e0_6,aJ n] []).bind fun r => aM r.fst fun l => dF .i64 l fun n => aC (decide (n < 0)) (some (aJ (-1),[])) ((D F.aUv [vsl e0_7,aJ n] []).bind fun r => aM r.fst fun l => dF .i64 l fun n => aC (decide (n < 0)) (some (aJ (-1),[])) ((D F.aVq [vsl e0_8,aJ n] []).bind fun r => aM r.fst fun l => dF .i64 l fun n => aC (decide (n < 0)) (some (aJ (-1),[])) ((D F.aVN [vsl e0_10,aJ n] []).bind fun r => aM r.fst fun l => dF .i64 l fun n => aC (decide (n < 0)) (some (aJ (-1),[])) (some (aJ n,[]))))))))) := by refine (aI (J := aG0 D) (by kernel_rfl) (fun _ _ => rfl) []).trans ?_; generalize aG0 D = J; revert J; refine id ?_; intro J; kernel_rfl
def aFM := atA D F.aVR
theorem aJS (i0_0 : Int) (s0_1 : ByteArray) (i1 : Int) : bM Tryz.prog D Hs cB F.aVR [.agg [.int .i64 i0_0,.str s0_1],aJ i1] [] = aC (decide (IntKind.i64.wrap (i1 - (↑s0_1.size : Int)) < 0)) (some (aJ (-1),[])) (some (.leaf (.int .i64 (IntKind.i64.wrap (i1 - (↑s0_1.size : Int)))),[])) := by refine (aI (J := aFM D) (by kernel_rfl) (fun _ _ => rfl) []).trans ?_; generalize aFM D = J; revert J; refine id ?_; intro J; kernel_rfl
def aHC := atA D F.aV9
theorem aKr (i0_0 : Int) (b0_1 : Bool) (s0_2 s0_3 : ByteArray) (e0_4 e0_5 e0_6 e0_7 e0_8 : LE) (b0_9 : Bool) (e0_10 : LE) (i1_0 : Int) (b1_1 : Bool) (s1_2 s1_3 : ByteArray) (e1_4 e1_5 e1_6 e1_7 e1_8 : LE) (b1_9 : Bool) (e1_10 : LE) : bM Tryz.prog D Hs cB F.aV9 [.agg [.int .i64 i0_0,.bool b0_1,.str s0_2,.str s0_3,.sl fP e0_4,.sl fP e0_5,.sl fP e0_6,.sl fP e0_7,.sl fP e0_8,.bool b0_9,.sl fP e0_10],.agg [.int .i64 i1_0,.bool b1_1,.str s1_2,.str s1_3,.sl fP e1_4,.sl fP e1_5,.sl fP e1_6,.sl fP e1_7,.sl fP e1_8,.bool b1_9,.sl fP e1_10]] [] = aC (i0_0 != i1_0) (some (aP false,[])) (aC (!b0_1 == b1_1) (some (aP false,[])) (aC (!s0_2.toList == s1_2.toList) (some (aP false,[])) (aC (!s0_3.toList == s1_3.toList) (some (aP false,[])) ((D F.aUK [vsl e0_4,vsl e1_4] []).bind fun r => aM r.fst fun l => cL l fun b => aC (!b) (some (aP false,[])) ((D F.aUp [vsl e0_5,vsl e1_5] []).bind fun r => aM r.fst fun l => cL l fun b => aC (!b) (some (aP false,[])) ((D F.aVh [vsl e0_6,vsl e1_6] []).bind fun r => aM r.fst fun l => cL l fun b => aC (!b) (some (aP false,[])) ((D F.aUG [vsl e0_7,vsl e1_7] []).bind fun r => aM r.fst fun l => cL l fun b => aC (!b) (some (aP false,[])) ((D F.aVp [vsl e0_8,vsl e1_8] []).bind fun r => aM r.fst fun l => cL l fun b => aC (!b) (some (aP false,[])) (aC (!b0_9 == b1_9) (some (aP false,[])) ((D F.aVY [vsl e0_10,vsl e1_10] []).bind fun r => aM r.fst fun l => cL l fun b => aC (!b) (some (aP false,[])) (some (aP true,[])))))))))))) := by refine (aI (J := aHC D) (by kernel_rfl) (fun _ _ => rfl) []).trans ?_; generalize aHC D = J; revert J; refine id ?_; intro J; kernel_rfl
def aFL := atA D F.aVJ
theorem aJX (i0_0 : Int) (s0_1 : ByteArray) (i1_0 : Int) (s1_1 : ByteArray) : bM Tryz.prog D Hs cB F.aVJ [.agg [.int .i64 i0_0,.str s0_1],.agg [.int .i64 i1_0,.str s1_1]] [] = aC (i0_0 != i1_0) (some (aP false,[])) (aC (!s0_1.toList == s1_1.toList) (some (aP false,[])) (some (aP true,[]))) := by refine (aI (J := aFL D) (by kernel_rfl) (fun _ _ => rfl) []).trans ?_; generalize aFL D = J; revert J; refine id ?_; intro J; kernel_rfl
section
variable (e0 : LE) (s1 : ByteArray) (i5 i6 : Int)
end
section
variable (e0 : LE) (s1 : ByteArray) (i5 : Int)
end
section
variable (e0 : LE) (s1 : ByteArray) (i5 : Int)
end
section
variable (i5 i6 : Int) (b53 : Bool) (x2 x3 x0 x1 : oM)
end
section
variable (b36 : Bool) (i5 i6 : Int) (x2 x3 x0 x1 : fX)
end
def aDl := atA D F.aVk
theorem aH7 (s0 : ByteArray) : bM Tryz.prog D Hs cB F.aVk [.leaf (.str s0)] [] = some (.agg (aE.l ⟨7,false,ByteArray.mk #[],s0,[[.str (ByteArray.mk #[70,73,69,76,68])],[.str (ByteArray.mk #[70,82,65,71,77,69,78,84,95,83,80,82,69,65,68])],[.str (ByteArray.mk #[73,78,76,73,78,69,95,70,82,65,71,77,69,78,84])]],[],[[.str (ByteArray.mk #[105,102]),.str (ByteArray.mk #[]),.str (ByteArray.mk #[66,111,111,108,101,97,110]),.str (ByteArray.mk #[33]),.bool false,.int .i64 0,.str (ByteArray.mk #[]),.sl fP [],.sl fP [],.sl fP []]],[],[],false,[]⟩),[]) := by refine (aI (J := aDl D) (by kernel_rfl) (fun _ _ => rfl) []).trans ?_; generalize aDl D = J; revert J; refine id ?_; intro J; kernel_rfl
section
variable (b47 : Bool) (x2 x3 x5 x7 x0 x1 : oM)
end
section
variable (e0 : LE) (n1 : Nat) (i7 i8 : Int) (sx19_0 sb0_0 : ByteArray)
def bR (x : PS) : Ret false := atF Tryz.prog D Hs F.aT4 x.1 1 x.2
def cZ : PS := ([1,0,1,0],St.mk ([vsl e0,.fn n1 [.ptr 19 0]] ++ bJ 5 ++ [aJ i7,aJ i8] ++ bJ 10) (noB 19 ++ [some [.leaf (.str sx19_0)]]))
theorem dJ : bR D (cZ e0 n1 i7 i8 sx19_0) = aC (decide (i8 < i7)) (aB (decide (0 ≤ i8) && decide (i8 < (↑e0.length : Int)) && sized 11 e0) (aE.rd (e0.getD i8.toNat []) fun x => aPy (D n1 [.agg x.l,.ptr 0 0] [[.leaf (.str sx19_0)]]) fun s b => aC b (some (aJ i8,[[.leaf (.str s)]])) (bR D (cZ e0 n1 i7 (IntKind.i64.wrap (i8 + 1)) s)))) (some (aJ (-1),[[.leaf (.str sx19_0)]])) := by refine (aL (J := bR D) (fun _ _ => rfl) [[1,0,1,0]] _).trans ?_; generalize bR D = J; revert J; refine id ?_; intro J; kernel_rfl
theorem gR : bM Tryz.prog D Hs cB F.aT4 [vsl e0,.fn n1 [.ptr 0 0]] [[.leaf (.str sb0_0)]] = bR D (cZ e0 n1 (↑e0.length : Int) 0 sb0_0) := by refine (aI (J := bR D) (by kernel_rfl) (fun _ _ => rfl) [[1,0,1,0]]).trans ?_; generalize bR D = J; revert J; refine id ?_; intro J; kernel_rfl
end
section
variable (e0 : LE) (n1 : Nat) (i7 i8 : Int)
def cC := atA D F.aT4
def dO : PS := ([1,0,1,0],St.mk ([vsl e0,.fn n1 []] ++ bJ 5 ++ [aJ i7,aJ i8] ++ bJ 10) (noB 19))
theorem iA : cC D (dO e0 n1 i7 i8) = aC (decide (i8 < i7)) (aB (decide (0 ≤ i8) && decide (i8 < (↑e0.length : Int)) && sized 11 e0) (aE.rd (e0.getD i8.toNat []) fun x => aGQ (D n1 [.agg x.l] []) fun b => aC b (some (aJ i8,[])) (cC D (dO e0 n1 i7 (IntKind.i64.wrap (i8 + 1)))))) (some (aJ (-1),[])) := by refine (aL (J := cC D) (fun _ _ => rfl) [[1,0,1,0]] _).trans ?_; generalize cC D = J; revert J; refine id ?_; intro J; kernel_rfl
theorem nO : bM Tryz.prog D Hs cB F.aT4 [vsl e0,.fn n1 []] [] = cC D (dO e0 n1 (↑e0.length : Int) 0) := by refine (aI (J := cC D) (by kernel_rfl) (fun _ _ => rfl) [[1,0,1,0]]).trans ?_; generalize cC D = J; revert J; refine id ?_; intro J; kernel_rfl
end
section
variable (e0 : LE) (i1 i5 : Int)
def iC := atA D F.aUZ
def pZ : PS := ([1,1,1,0,1,0],St.mk ([vsl e0,aJ i1,.any,.any,.any,aJ i5] ++ bJ 22) (noB 28))
theorem xA : iC D (pZ e0 i1 i5) = aC (decide (i5 < (↑e0.length : Int))) (aB (decide (0 ≤ i5) && decide (i5 < (↑e0.length : Int)) && sized 1 e0) (atK (e0.getD i5.toNat []) 0 fun l => bO l fun s => aC (decide (IntKind.i64.wrap (i1 - (↑s.size : Int)) < 0)) (some (aJ (-1),[])) (iC D (pZ e0 (IntKind.i64.wrap (i1 - (↑s.size : Int))) (IntKind.i64.wrap (i5 + 1)))))) (some (aJ i1,[])) := by refine (aL (J := iC D) (fun _ _ => rfl) [[1,1,1,0,1,0]] _).trans ?_; generalize iC D = J; revert J; refine id ?_; intro J; kernel_rfl
theorem aGl : bM Tryz.prog D Hs cB F.aUZ [vsl e0,aJ i1] [] = aC (decide (IntKind.i64.wrap (i1 - (↑e0.length : Int)) < 0)) (some (aJ (-1),[])) (iC D (pZ e0 (IntKind.i64.wrap (i1 - (↑e0.length : Int))) 0)) := by refine (aI (J := iC D) (by kernel_rfl) (fun _ _ => rfl) [[1,1,1,0,1,0]]).trans ?_; generalize iC D = J; revert J; refine id ?_; intro J; kernel_rfl
end
section
variable (e0 : LE) (i1 i5 : Int)
def fL := atA D F.aUl
def oC : PS := ([1,1,1,0,1,0],St.mk ([vsl e0,aJ i1,.any,.any,.any,aJ i5] ++ bJ 21) (noB 27))
theorem uA : fL D (oC e0 i1 i5) = aC (decide (i5 < (↑e0.length : Int))) (aB (decide (0 ≤ i5) && decide (i5 < (↑e0.length : Int)) && sized 6 e0) (fB (e0.getD i5.toNat []) fun e => atK e 0 fun l => bO l fun s => atK e 1 fun l => bO l fun s_1 => atK e 2 fun l => slK l fun c es => atK e 3 fun l => bO l fun s_2 => atK e 4 fun l => bO l fun s_3 => atK e 5 fun l => slK l fun c es_1 => (D F.aUy [.agg [.str s,.str s_1,.sl fP es,.str s_2,.str s_3,.sl fP es_1],aJ i1] []).bind fun r => aM r.fst fun l => dF .i64 l fun n => aC (decide (n < 0)) (some (aJ (-1),[])) (fL D (oC e0 n (IntKind.i64.wrap (i5 + 1)))))) (some (aJ i1,[])) := by refine (aL (J := fL D) (fun _ _ => rfl) [[1,1,1,0,1,0]] _).trans ?_; generalize fL D = J; revert J; refine id ?_; intro J; kernel_rfl
theorem aDN : bM Tryz.prog D Hs cB F.aUl [vsl e0,aJ i1] [] = aC (decide (IntKind.i64.wrap (i1 - (↑e0.length : Int)) < 0)) (some (aJ (-1),[])) (fL D (oC e0 (IntKind.i64.wrap (i1 - (↑e0.length : Int))) 0)) := by refine (aI (J := fL D) (by kernel_rfl) (fun _ _ => rfl) [[1,1,1,0,1,0]]).trans ?_; generalize fL D = J; revert J; refine id ?_; intro J; kernel_rfl
end
section
variable (e0 : LE) (i1 i5 : Int)
def iS := atA D F.aVd
def rQ : PS := ([1,1,1,0,1,0],St.mk ([vsl e0,aJ i1,.any,.any,.any,aJ i5] ++ bJ 21) (noB 27))
theorem yW : iS D (rQ e0 i1 i5) = aC (decide (i5 < (↑e0.length : Int))) (aB (decide (0 ≤ i5) && decide (i5 < (↑e0.length : Int)) && sized 10 e0) (fB (e0.getD i5.toNat []) fun e => atK e 0 fun l => bO l fun s => atK e 1 fun l => bO l fun s_1 => atK e 2 fun l => bO l fun s_2 => atK e 3 fun l => bO l fun s_3 => atK e 4 fun l => cL l fun b => atK e 5 fun l => dF .i64 l fun n => atK e 6 fun l => bO l fun s_4 => atK e 7 fun l => slK l fun c es => atK e 8 fun l => slK l fun c es_1 => atK e 9 fun l => slK l fun c es_2 => (D F.aVv [.agg [.str s,.str s_1,.str s_2,.str s_3,.bool b,.int .i64 n,.str s_4,.sl fP es,.sl fP es_1,.sl fP es_2],aJ i1] []).bind fun r => aM r.fst fun l => dF .i64 l fun n => aC (decide (n < 0)) (some (aJ (-1),[])) (iS D (rQ e0 n (IntKind.i64.wrap (i5 + 1)))))) (some (aJ i1,[])) := by refine (aL (J := iS D) (fun _ _ => rfl) [[1,1,1,0,1,0]] _).trans ?_; generalize iS D = J; revert J; refine id ?_; intro J; kernel_rfl
theorem aH2 : bM Tryz.prog D Hs cB F.aVd [vsl e0,aJ i1] [] = aC (decide (IntKind.i64.wrap (i1 - (↑e0.length : Int)) < 0)) (some (aJ (-1),[])) (iS D (rQ e0 (IntKind.i64.wrap (i1 - (↑e0.length : Int))) 0)) := by refine (aI (J := iS D) (by kernel_rfl) (fun _ _ => rfl) [[1,1,1,0,1,0]]).trans ?_; generalize iS D = J; revert J; refine id ?_; intro J; kernel_rfl
end
section
variable (e0 : LE) (i1 i5 : Int)
def gJ := atA D F.aUv
def oW : PS := ([1,1,1,0,1,0],St.mk ([vsl e0,aJ i1,.any,.any,.any,aJ i5] ++ bJ 21) (noB 27))
theorem vY : gJ D (oW e0 i1 i5) = aC (decide (i5 < (↑e0.length : Int))) (aB (decide (0 ≤ i5) && decide (i5 < (↑e0.length : Int)) && sized 3 e0) (fB (e0.getD i5.toNat []) fun e => atK e 0 fun l => bO l fun s => atK e 1 fun l => bO l fun s_1 => atK e 2 fun l => slK l fun c es => (D F.aUM [.agg [.str s,.str s_1,.sl fP es],aJ i1] []).bind fun r => aM r.fst fun l => dF .i64 l fun n => aC (decide (n < 0)) (some (aJ (-1),[])) (gJ D (oW e0 n (IntKind.i64.wrap (i5 + 1)))))) (some (aJ i1,[])) := by refine (aL (J := gJ D) (fun _ _ => rfl) [[1,1,1,0,1,0]] _).trans ?_; generalize gJ D = J; revert J; refine id ?_; intro J; kernel_rfl
theorem aEP : bM Tryz.prog D Hs cB F.aUv [vsl e0,aJ i1] [] = aC (decide (IntKind.i64.wrap (i1 - (↑e0.length : Int)) < 0)) (some (aJ (-1),[])) (gJ D (oW e0 (IntKind.i64.wrap (i1 - (↑e0.length : Int))) 0)) := by refine (aI (J := gJ D) (by kernel_rfl) (fun _ _ => rfl) [[1,1,1,0,1,0]]).trans ?_; generalize gJ D = J; revert J; refine id ?_; intro J; kernel_rfl
end
section
variable (e0 : LE) (i1 i5 : Int)
def kS := atA D F.aVN
def vM : PS := ([1,1,1,0,1,0],St.mk ([vsl e0,aJ i1,.any,.any,.any,aJ i5] ++ bJ 21) (noB 27))
theorem aAU : kS D (vM e0 i1 i5) = aC (decide (i5 < (↑e0.length : Int))) (aB (decide (0 ≤ i5) && decide (i5 < (↑e0.length : Int)) && sized 2 e0) (fB (e0.getD i5.toNat []) fun e => atK e 0 fun l => bO l fun s => atK e 1 fun l => slK l fun c es => (D F.aWa [.agg [.str s,.sl fP es],aJ i1] []).bind fun r => aM r.fst fun l => dF .i64 l fun n => aC (decide (n < 0)) (some (aJ (-1),[])) (kS D (vM e0 n (IntKind.i64.wrap (i5 + 1)))))) (some (aJ i1,[])) := by refine (aL (J := kS D) (fun _ _ => rfl) [[1,1,1,0,1,0]] _).trans ?_; generalize kS D = J; revert J; refine id ?_; intro J; kernel_rfl
theorem aJ9 : bM Tryz.prog D Hs cB F.aVN [vsl e0,aJ i1] [] = aC (decide (IntKind.i64.wrap (i1 - (↑e0.length : Int)) < 0)) (some (aJ (-1),[])) (kS D (vM e0 (IntKind.i64.wrap (i1 - (↑e0.length : Int))) 0)) := by refine (aI (J := kS D) (by kernel_rfl) (fun _ _ => rfl) [[1,1,1,0,1,0]]).trans ?_; generalize kS D = J; revert J; refine id ?_; intro J; kernel_rfl
end
section
variable (e0 e1 : LE) (i5 : Int)
def hX := atA D F.aUK
def qL : PS := ([1,1,0,1,0],St.mk ([vsl e0,vsl e1,.any,.any,.any,aJ i5] ++ bJ 20) (noB 26))
theorem xE : hX D (qL e0 e1 i5) = aC (decide (i5 < (↑e0.length : Int))) (aB (decide (0 ≤ i5) && decide (i5 < (↑e0.length : Int)) && sized 1 e0) (atK (e0.getD i5.toNat []) 0 fun l => bO l fun s => aB (decide (0 ≤ i5) && decide (i5 < (↑e1.length : Int)) && sized 1 e1) (atK (e1.getD i5.toNat []) 0 fun l => bO l fun s_1 => aC (!s.toList == s_1.toList) (some (aP false,[])) (hX D (qL e0 e1 (IntKind.i64.wrap (i5 + 1))))))) (some (aP true,[])) := by refine (aL (J := hX D) (fun _ _ => rfl) [[1,1,0,1,0]] _).trans ?_; generalize hX D = J; revert J; refine id ?_; intro J; kernel_rfl
theorem aGS : bM Tryz.prog D Hs cB F.aUK [vsl e0,vsl e1] [] = aC ((↑e0.length : Int) != (↑e1.length : Int)) (some (aP false,[])) (hX D (qL e0 e1 0)) := by refine (aI (J := hX D) (by kernel_rfl) (fun _ _ => rfl) [[1,1,0,1,0]]).trans ?_; generalize hX D = J; revert J; refine id ?_; intro J; kernel_rfl
end
section
variable (e0 e1 : LE) (i5 : Int)
def fJ := atA D F.aUp
def nS : PS := ([1,1,0,1,0],St.mk ([vsl e0,vsl e1,.any,.any,.any,aJ i5] ++ bJ 21) (noB 27))
theorem tY : fJ D (nS e0 e1 i5) = aC (decide (i5 < (↑e0.length : Int))) (aB (decide (0 ≤ i5) && decide (i5 < (↑e0.length : Int)) && sized 6 e0) (fB (e0.getD i5.toNat []) fun e => atK e 0 fun l => bO l fun s => atK e 1 fun l => bO l fun s_1 => atK e 2 fun l => slK l fun c es => atK e 3 fun l => bO l fun s_2 => atK e 4 fun l => bO l fun s_3 => atK e 5 fun l => slK l fun c es_1 => aB (decide (0 ≤ i5) && decide (i5 < (↑e1.length : Int)) && sized 6 e1) (fB (e1.getD i5.toNat []) fun e => atK e 0 fun l => bO l fun s_4 => atK e 1 fun l => bO l fun s_5 => atK e 2 fun l => slK l fun c es_2 => atK e 3 fun l => bO l fun s_6 => atK e 4 fun l => bO l fun s_7 => atK e 5 fun l => slK l fun c es_3 => (D F.aUE [.agg [.str s,.str s_1,.sl fP es,.str s_2,.str s_3,.sl fP es_1],.agg [.str s_4,.str s_5,.sl fP es_2,.str s_6,.str s_7,.sl fP es_3]] []).bind fun r => aM r.fst fun l => cL l fun b => aC (!b) (some (aP false,[])) (fJ D (nS e0 e1 (IntKind.i64.wrap (i5 + 1))))))) (some (aP true,[])) := by refine (aL (J := fJ D) (fun _ _ => rfl) [[1,1,0,1,0]] _).trans ?_; generalize fJ D = J; revert J; refine id ?_; intro J; kernel_rfl
theorem aC9 : bM Tryz.prog D Hs cB F.aUp [vsl e0,vsl e1] [] = aC ((↑e0.length : Int) != (↑e1.length : Int)) (some (aP false,[])) (fJ D (nS e0 e1 0)) := by refine (aI (J := fJ D) (by kernel_rfl) (fun _ _ => rfl) [[1,1,0,1,0]]).trans ?_; generalize fJ D = J; revert J; refine id ?_; intro J; kernel_rfl
end
section
variable (e0 e1 : LE) (i5 : Int)
def iQ := atA D F.aVh
def rU : PS := ([1,1,0,1,0],St.mk ([vsl e0,vsl e1,.any,.any,.any,aJ i5] ++ bJ 21) (noB 27))
theorem zJ : iQ D (rU e0 e1 i5) = aC (decide (i5 < (↑e0.length : Int))) (aB (decide (0 ≤ i5) && decide (i5 < (↑e0.length : Int)) && sized 10 e0) (fB (e0.getD i5.toNat []) fun e => atK e 0 fun l => bO l fun s => atK e 1 fun l => bO l fun s_1 => atK e 2 fun l => bO l fun s_2 => atK e 3 fun l => bO l fun s_3 => atK e 4 fun l => cL l fun b => atK e 5 fun l => dF .i64 l fun n => atK e 6 fun l => bO l fun s_4 => atK e 7 fun l => slK l fun c es => atK e 8 fun l => slK l fun c es_1 => atK e 9 fun l => slK l fun c es_2 => aB (decide (0 ≤ i5) && decide (i5 < (↑e1.length : Int)) && sized 10 e1) (fB (e1.getD i5.toNat []) fun e => atK e 0 fun l => bO l fun s_5 => atK e 1 fun l => bO l fun s_6 => atK e 2 fun l => bO l fun s_7 => atK e 3 fun l => bO l fun s_8 => atK e 4 fun l => cL l fun b_1 => atK e 5 fun l => dF .i64 l fun n_1 => atK e 6 fun l => bO l fun s_9 => atK e 7 fun l => slK l fun c es_3 => atK e 8 fun l => slK l fun c es_4 => atK e 9 fun l => slK l fun c es_5 => (D F.aVo [.agg [.str s,.str s_1,.str s_2,.str s_3,.bool b,.int .i64 n,.str s_4,.sl fP es,.sl fP es_1,.sl fP es_2],.agg [.str s_5,.str s_6,.str s_7,.str s_8,.bool b_1,.int .i64 n_1,.str s_9,.sl fP es_3,.sl fP es_4,.sl fP es_5]] []).bind fun r => aM r.fst fun l => cL l fun b => aC (!b) (some (aP false,[])) (iQ D (rU e0 e1 (IntKind.i64.wrap (i5 + 1))))))) (some (aP true,[])) := by refine (aL (J := iQ D) (fun _ _ => rfl) [[1,1,0,1,0]] _).trans ?_; generalize iQ D = J; revert J; refine id ?_; intro J; kernel_rfl
theorem aHz : bM Tryz.prog D Hs cB F.aVh [vsl e0,vsl e1] [] = aC ((↑e0.length : Int) != (↑e1.length : Int)) (some (aP false,[])) (iQ D (rU e0 e1 0)) := by refine (aI (J := iQ D) (by kernel_rfl) (fun _ _ => rfl) [[1,1,0,1,0]]).trans ?_; generalize iQ D = J; revert J; refine id ?_; intro J; kernel_rfl
end
section
variable (e0 e1 : LE) (i5 : Int)
def gB := atA D F.aUG
def oV : PS := ([1,1,0,1,0],St.mk ([vsl e0,vsl e1,.any,.any,.any,aJ i5] ++ bJ 21) (noB 27))
theorem vV : gB D (oV e0 e1 i5) = aC (decide (i5 < (↑e0.length : Int))) (aB (decide (0 ≤ i5) && decide (i5 < (↑e0.length : Int)) && sized 3 e0) (fB (e0.getD i5.toNat []) fun e => atK e 0 fun l => bO l fun s => atK e 1 fun l => bO l fun s_1 => atK e 2 fun l => slK l fun c es => aB (decide (0 ≤ i5) && decide (i5 < (↑e1.length : Int)) && sized 3 e1) (fB (e1.getD i5.toNat []) fun e => atK e 0 fun l => bO l fun s_2 => atK e 1 fun l => bO l fun s_3 => atK e 2 fun l => slK l fun c es_1 => (D F.aUX [.agg [.str s,.str s_1,.sl fP es],.agg [.str s_2,.str s_3,.sl fP es_1]] []).bind fun r => aM r.fst fun l => cL l fun b => aC (!b) (some (aP false,[])) (gB D (oV e0 e1 (IntKind.i64.wrap (i5 + 1))))))) (some (aP true,[])) := by refine (aL (J := gB D) (fun _ _ => rfl) [[1,1,0,1,0]] _).trans ?_; generalize gB D = J; revert J; refine id ?_; intro J; kernel_rfl
theorem aEQ : bM Tryz.prog D Hs cB F.aUG [vsl e0,vsl e1] [] = aC ((↑e0.length : Int) != (↑e1.length : Int)) (some (aP false,[])) (gB D (oV e0 e1 0)) := by refine (aI (J := gB D) (by kernel_rfl) (fun _ _ => rfl) [[1,1,0,1,0]]).trans ?_; generalize gB D = J; revert J; refine id ?_; intro J; kernel_rfl
end
section
variable (e0 e1 : LE) (i5 : Int)
def kP := atA D F.aVY
def vP : PS := ([1,1,0,1,0],St.mk ([vsl e0,vsl e1,.any,.any,.any,aJ i5] ++ bJ 21) (noB 27))
theorem aA0 : kP D (vP e0 e1 i5) = aC (decide (i5 < (↑e0.length : Int))) (aB (decide (0 ≤ i5) && decide (i5 < (↑e0.length : Int)) && sized 2 e0) (fB (e0.getD i5.toNat []) fun e => atK e 0 fun l => bO l fun s => atK e 1 fun l => slK l fun c es => aB (decide (0 ≤ i5) && decide (i5 < (↑e1.length : Int)) && sized 2 e1) (fB (e1.getD i5.toNat []) fun e => atK e 0 fun l => bO l fun s_1 => atK e 1 fun l => slK l fun c es_1 => (D F.aV2 [.agg [.str s,.sl fP es],.agg [.str s_1,.sl fP es_1]] []).bind fun r => aM r.fst fun l => cL l fun b => aC (!b) (some (aP false,[])) (kP D (vP e0 e1 (IntKind.i64.wrap (i5 + 1))))))) (some (aP true,[])) := by refine (aL (J := kP D) (fun _ _ => rfl) [[1,1,0,1,0]] _).trans ?_; generalize kP D = J; revert J; refine id ?_; intro J; kernel_rfl
theorem aJ8 : bM Tryz.prog D Hs cB F.aVY [vsl e0,vsl e1] [] = aC ((↑e0.length : Int) != (↑e1.length : Int)) (some (aP false,[])) (kP D (vP e0 e1 0)) := by refine (aI (J := kP D) (by kernel_rfl) (fun _ _ => rfl) [[1,1,0,1,0]]).trans ?_; generalize kP D = J; revert J; refine id ?_; intro J; kernel_rfl
end
section
variable (e0 : LE) (s1 : ByteArray) (i7 i8 : Int)
end
section
variable (e0 : LE) (n1 : Nat) (i7 i8 : Int) (sx19_0 sb0_0 : ByteArray)
end
section
variable (e0 : LE) (n1 : Nat) (i7 i8 : Int) (sx19_0 sb0_0 : ByteArray)
end
section
variable (e0 e1 : LE) (i12 i13 : Int)
end
section
variable (e0 e1 : LE) (n2 : Nat) (e15 : LE) (i16 i17 : Int)
end
def aDc (x : PS) : Ret false := atF Tryz.prog D Hs F.aVx x.1 1 x.2
theorem aBc (x0 : aE) (sb0_0 : ByteArray) : bM Tryz.prog D Hs cB F.aVx [.agg x0.l,.ptr 0 0] [[.leaf (.str sb0_0)]] = some (.leaf (.bool (x0.a3.toList == sb0_0.toList)),[[.leaf (.str sb0_0)]]) := by refine (aI (J := aDc D) (by kernel_rfl) (fun _ _ => rfl) []).trans ?_; generalize aDc D = J; revert J; refine id ?_; intro J; kernel_rfl
section
variable (b24 : Bool) (x1 x0 : aE)
def iD := atA D F.aVn
def pV : PS := ([1,0,1],St.mk ([.any,.ptr 1 0] ++ bJ 22 ++ [aP b24,.any,.any,.any]) ([none,some x1.b] ++ noB 26))
theorem aHh : iD D (pV b24 x1) = aC b24 (some (aP true,[])) (aGQ (D F.aT0 [.leaf (.sl fP x1.a5),.fn F.aUY []] []) fun b => some (aP b,[])) := by refine (aL (J := iD D) (fun _ _ => rfl) [[1,0,1]] _).trans ?_; generalize iD D = J; revert J; refine id ?_; intro J; kernel_rfl
theorem aIo : bM Tryz.prog D Hs cB F.aVn [.agg x0.l] [] = aC (decide ((↑x0.a4.length : Int) > 100) == false) (aC (decide ((↑x0.a5.length : Int) > 100) == false) (aC (decide ((↑x0.a6.length : Int) > 100) == false) (iD D (pV (decide ((↑x0.a7.length : Int) > 100)) x0)) (iD D (pV true x0))) (iD D (pV true x0))) (iD D (pV true x0)) := by refine (aI (J := iD D) (by kernel_rfl) (fun _ _ => rfl) [[1,0,1]]).trans ?_; generalize iD D = J; revert J; refine id ?_; intro J; kernel_rfl
end
def zO := atA D F.aUy
theorem aFr (s0_0 s0_1 : ByteArray) (e0_2 : LE) (s0_3 s0_4 : ByteArray) (e0_5 : LE) (i1 : Int) : bM Tryz.prog D Hs cB F.aUy [.agg [.str s0_0,.str s0_1,.sl fP e0_2,.str s0_3,.str s0_4,.sl fP e0_5],aJ i1] [] = aC (decide (IntKind.i64.wrap (i1 - (↑s0_0.size : Int)) < 0)) (some (aJ (-1),[])) (aC (decide (IntKind.i64.wrap (IntKind.i64.wrap (i1 - (↑s0_0.size : Int)) - (↑s0_1.size : Int)) < 0)) (some (aJ (-1),[])) ((D F.aVd [vsl e0_2,.leaf (.int .i64 (IntKind.i64.wrap (IntKind.i64.wrap (i1 - (↑s0_0.size : Int)) - (↑s0_1.size : Int))))] []).bind fun r => aM r.fst fun l => dF .i64 l fun n => aC (decide (n < 0)) (some (aJ (-1),[])) ((D F.aVK [.agg [.str s0_3,.str s0_4],aJ n] []).bind fun r => aM r.fst fun l => dF .i64 l fun n => aC (decide (n < 0)) (some (aJ (-1),[])) ((D F.aVN [vsl e0_5,aJ n] []).bind fun r => aM r.fst fun l => dF .i64 l fun n => aC (decide (n < 0)) (some (aJ (-1),[])) (some (aJ n,[])))))) := by refine (aI (J := zO D) (by kernel_rfl) (fun _ _ => rfl) []).trans ?_; generalize zO D = J; revert J; refine id ?_; intro J; kernel_rfl
def aDw := atA D F.aVv
theorem aI9 (s0_0 s0_1 s0_2 s0_3 : ByteArray) (b0_4 : Bool) (i0_5 : Int) (s0_6 : ByteArray) (e0_7 e0_8 e0_9 : LE) (i1 : Int) : bM Tryz.prog D Hs cB F.aVv [.agg [.str s0_0,.str s0_1,.str s0_2,.str s0_3,.bool b0_4,.int .i64 i0_5,.str s0_6,.sl fP e0_7,.sl fP e0_8,.sl fP e0_9],aJ i1] [] = aC (decide (IntKind.i64.wrap (i1 - (↑s0_0.size : Int)) < 0)) (some (aJ (-1),[])) (aC (decide (IntKind.i64.wrap (IntKind.i64.wrap (i1 - (↑s0_0.size : Int)) - (↑s0_1.size : Int)) < 0)) (some (aJ (-1),[])) ((D F.aVK [.agg [.str s0_2,.str s0_3],.leaf (.int .i64 (IntKind.i64.wrap (IntKind.i64.wrap (i1 - (↑s0_0.size : Int)) - (↑s0_1.size : Int))))] []).bind fun r => aM r.fst fun l => dF .i64 l fun n => aC (decide (n < 0)) (some (aJ (-1),[])) ((D F.aVt [.agg [.int .i64 i0_5,.str s0_6,.sl fP e0_7,.sl fP e0_8],aJ n] []).bind fun r => aM r.fst fun l => dF .i64 l fun n => aC (decide (n < 0)) (some (aJ (-1),[])) ((D F.aVN [vsl e0_9,aJ n] []).bind fun r => aM r.fst fun l => dF .i64 l fun n => aC (decide (n < 0)) (some (aJ (-1),[])) (some (aJ n,[])))))) := by refine (aI (J := aDw D) (by kernel_rfl) (fun _ _ => rfl) []).trans ?_; generalize aDw D = J; revert J; refine id ?_; intro J; kernel_rfl
def aBl := atA D F.aUM
theorem aGy (s0_0 s0_1 : ByteArray) (e0_2 : LE) (i1 : Int) : bM Tryz.prog D Hs cB F.aUM [.agg [.str s0_0,.str s0_1,.sl fP e0_2],aJ i1] [] = aC (decide (IntKind.i64.wrap (i1 - (↑s0_0.size : Int)) < 0)) (some (aJ (-1),[])) (aC (decide (IntKind.i64.wrap (IntKind.i64.wrap (i1 - (↑s0_0.size : Int)) - (↑s0_1.size : Int)) < 0)) (some (aJ (-1),[])) ((D F.aVN [vsl e0_2,.leaf (.int .i64 (IntKind.i64.wrap (IntKind.i64.wrap (i1 - (↑s0_0.size : Int)) - (↑s0_1.size : Int))))] []).bind fun r => aM r.fst fun l => dF .i64 l fun n => aC (decide (n < 0)) (some (aJ (-1),[])) (some (aJ n,[])))) := by refine (aI (J := aBl D) (by kernel_rfl) (fun _ _ => rfl) []).trans ?_; generalize aBl D = J; revert J; refine id ?_; intro J; kernel_rfl
def aG2 := atA D F.aWa
theorem aLJ (s0_0 : ByteArray) (e0_1 : LE) (i1 : Int) : bM Tryz.prog D Hs cB F.aWa [.agg [.str s0_0,.sl fP e0_1],aJ i1] [] = aC (decide (IntKind.i64.wrap (i1 - (↑s0_0.size : Int)) < 0)) (some (aJ (-1),[])) ((D F.aVP [vsl e0_1,.leaf (.int .i64 (IntKind.i64.wrap (i1 - (↑s0_0.size : Int))))] []).bind fun r => aM r.fst fun l => dF .i64 l fun n => aC (decide (n < 0)) (some (aJ (-1),[])) (some (aJ n,[]))) := by refine (aI (J := aG2 D) (by kernel_rfl) (fun _ _ => rfl) []).trans ?_; generalize aG2 D = J; revert J; refine id ?_; intro J; kernel_rfl
def aAe := atA D F.aUE
theorem aE1 (s0_0 s0_1 : ByteArray) (e0_2 : LE) (s0_3 s0_4 : ByteArray) (e0_5 : LE) (s1_0 s1_1 : ByteArray) (e1_2 : LE) (s1_3 s1_4 : ByteArray) (e1_5 : LE) : bM Tryz.prog D Hs cB F.aUE [.agg [.str s0_0,.str s0_1,.sl fP e0_2,.str s0_3,.str s0_4,.sl fP e0_5],.agg [.str s1_0,.str s1_1,.sl fP e1_2,.str s1_3,.str s1_4,.sl fP e1_5]] [] = aC (!s0_0.toList == s1_0.toList) (some (aP false,[])) (aC (!s0_1.toList == s1_1.toList) (some (aP false,[])) ((D F.aVh [vsl e0_2,vsl e1_2] []).bind fun r => aM r.fst fun l => cL l fun b => aC (!b) (some (aP false,[])) ((D F.aVA [.agg [.str s0_3,.str s0_4],.agg [.str s1_3,.str s1_4]] []).bind fun r => aM r.fst fun l => cL l fun b => aC (!b) (some (aP false,[])) ((D F.aVY [vsl e0_5,vsl e1_5] []).bind fun r => aM r.fst fun l => cL l fun b => aC (!b) (some (aP false,[])) (some (aP true,[])))))) := by refine (aI (J := aAe D) (by kernel_rfl) (fun _ _ => rfl) []).trans ?_; generalize aAe D = J; revert J; refine id ?_; intro J; kernel_rfl
def aC0 := atA D F.aVo
theorem aIu (s0_0 s0_1 s0_2 s0_3 : ByteArray) (b0_4 : Bool) (i0_5 : Int) (s0_6 : ByteArray) (e0_7 e0_8 e0_9 : LE) (s1_0 s1_1 s1_2 s1_3 : ByteArray) (b1_4 : Bool) (i1_5 : Int) (s1_6 : ByteArray) (e1_7 e1_8 e1_9 : LE) : bM Tryz.prog D Hs cB F.aVo [.agg [.str s0_0,.str s0_1,.str s0_2,.str s0_3,.bool b0_4,.int .i64 i0_5,.str s0_6,.sl fP e0_7,.sl fP e0_8,.sl fP e0_9],.agg [.str s1_0,.str s1_1,.str s1_2,.str s1_3,.bool b1_4,.int .i64 i1_5,.str s1_6,.sl fP e1_7,.sl fP e1_8,.sl fP e1_9]] [] = aC (!s0_0.toList == s1_0.toList) (some (aP false,[])) (aC (!s0_1.toList == s1_1.toList) (some (aP false,[])) ((D F.aVA [.agg [.str s0_2,.str s0_3],.agg [.str s1_2,.str s1_3]] []).bind fun r => aM r.fst fun l => cL l fun b => aC (!b) (some (aP false,[])) (aC (!b0_4 == b1_4) (some (aP false,[])) ((D F.aVu [.agg [.int .i64 i0_5,.str s0_6,.sl fP e0_7,.sl fP e0_8],.agg [.int .i64 i1_5,.str s1_6,.sl fP e1_7,.sl fP e1_8]] []).bind fun r => aM r.fst fun l => cL l fun b => aC (!b) (some (aP false,[])) ((D F.aVY [vsl e0_9,vsl e1_9] []).bind fun r => aM r.fst fun l => cL l fun b => aC (!b) (some (aP false,[])) (some (aP true,[]))))))) := by refine (aI (J := aC0 D) (by kernel_rfl) (fun _ _ => rfl) []).trans ?_; generalize aC0 D = J; revert J; refine id ?_; intro J; kernel_rfl
def aAL := atA D F.aUX
theorem aGd (s0_0 s0_1 : ByteArray) (e0_2 : LE) (s1_0 s1_1 : ByteArray) (e1_2 : LE) : bM Tryz.prog D Hs cB F.aUX [.agg [.str s0_0,.str s0_1,.sl fP e0_2],.agg [.str s1_0,.str s1_1,.sl fP e1_2]] [] = aC (!s0_0.toList == s1_0.toList) (some (aP false,[])) (aC (!s0_1.toList == s1_1.toList) (some (aP false,[])) ((D F.aVY [vsl e0_2,vsl e1_2] []).bind fun r => aM r.fst fun l => cL l fun b => aC (!b) (some (aP false,[])) (some (aP true,[])))) := by refine (aI (J := aAL D) (by kernel_rfl) (fun _ _ => rfl) []).trans ?_; generalize aAL D = J; revert J; refine id ?_; intro J; kernel_rfl
def aG6 := atA D F.aV2
theorem aKL (s0_0 : ByteArray) (e0_1 : LE) (s1_0 : ByteArray) (e1_1 : LE) : bM Tryz.prog D Hs cB F.aV2 [.agg [.str s0_0,.sl fP e0_1],.agg [.str s1_0,.sl fP e1_1]] [] = aC (!s0_0.toList == s1_0.toList) (some (aP false,[])) ((D F.aVM [vsl e0_1,vsl e1_1] []).bind fun r => aM r.fst fun l => cL l fun b => aC (!b) (some (aP false,[])) (some (aP true,[]))) := by refine (aI (J := aG6 D) (by kernel_rfl) (fun _ _ => rfl) []).trans ?_; generalize aG6 D = J; revert J; refine id ?_; intro J; kernel_rfl
def eS := atA D F.aT0
theorem jR (e0 : LE) (n1 : Nat) : bM Tryz.prog D Hs cB F.aT0 [vsl e0,.fn n1 []] [] = aQi (D F.aT1 [vsl e0,.fn n1 []] []) fun n => some (.leaf (.bool (decide (n ≥ 0))),[]) := by refine (aI (J := eS D) (by kernel_rfl) (fun _ _ => rfl) []).trans ?_; generalize eS D = J; revert J; refine id ?_; intro J; kernel_rfl
def aFB := atA D F.aVK
theorem aKd (s0_0 s0_1 : ByteArray) (i1 : Int) : bM Tryz.prog D Hs cB F.aVK [.agg [.str s0_0,.str s0_1],aJ i1] [] = aC (decide (IntKind.i64.wrap (i1 - (↑s0_0.size : Int)) < 0)) (some (aJ (-1),[])) (aC (decide (IntKind.i64.wrap (IntKind.i64.wrap (i1 - (↑s0_0.size : Int)) - (↑s0_1.size : Int)) < 0)) (some (aJ (-1),[])) (some (.leaf (.int .i64 (IntKind.i64.wrap (IntKind.i64.wrap (i1 - (↑s0_0.size : Int)) - (↑s0_1.size : Int)))),[]))) := by refine (aI (J := aFB D) (by kernel_rfl) (fun _ _ => rfl) []).trans ?_; generalize aFB D = J; revert J; refine id ?_; intro J; kernel_rfl
def aEq := atA D F.aVt
theorem aIx (i0_0 : Int) (s0_1 : ByteArray) (e0_2 e0_3 : LE) (i1 : Int) : bM Tryz.prog D Hs cB F.aVt [.agg [.int .i64 i0_0,.str s0_1,.sl fP e0_2,.sl fP e0_3],aJ i1] [] = aC (decide (IntKind.i64.wrap (i1 - (↑s0_1.size : Int)) < 0)) (some (aJ (-1),[])) ((D F.aU4 [vsl e0_2,.leaf (.int .i64 (IntKind.i64.wrap (i1 - (↑s0_1.size : Int))))] []).bind fun r => aM r.fst fun l => dF .i64 l fun n => aC (decide (n < 0)) (some (aJ (-1),[])) ((D F.aUZ [vsl e0_3,aJ n] []).bind fun r => aM r.fst fun l => dF .i64 l fun n => aC (decide (n < 0)) (some (aJ (-1),[])) (some (aJ n,[])))) := by refine (aI (J := aEq D) (by kernel_rfl) (fun _ _ => rfl) []).trans ?_; generalize aEq D = J; revert J; refine id ?_; intro J; kernel_rfl
section
variable (e0 : LE) (i1 i5 : Int)
def kQ := atA D F.aVP
def vH : PS := ([1,1,1,0,1,0],St.mk ([vsl e0,aJ i1,.any,.any,.any,aJ i5] ++ bJ 21) (noB 27))
theorem aAM : kQ D (vH e0 i1 i5) = aC (decide (i5 < (↑e0.length : Int))) (aB (decide (0 ≤ i5) && decide (i5 < (↑e0.length : Int)) && sized 5 e0) (fB (e0.getD i5.toNat []) fun e => atK e 0 fun l => bO l fun s => atK e 1 fun l => dF .i64 l fun n => atK e 2 fun l => bO l fun s_1 => atK e 3 fun l => slK l fun c es => atK e 4 fun l => slK l fun c es_1 => (D F.aV6 [.agg [.str s,.int .i64 n,.str s_1,.sl fP es,.sl fP es_1],aJ i1] []).bind fun r => aM r.fst fun l => dF .i64 l fun n => aC (decide (n < 0)) (some (aJ (-1),[])) (kQ D (vH e0 n (IntKind.i64.wrap (i5 + 1)))))) (some (aJ i1,[])) := by refine (aL (J := kQ D) (fun _ _ => rfl) [[1,1,1,0,1,0]] _).trans ?_; generalize kQ D = J; revert J; refine id ?_; intro J; kernel_rfl
theorem aKb : bM Tryz.prog D Hs cB F.aVP [vsl e0,aJ i1] [] = aC (decide (IntKind.i64.wrap (i1 - (↑e0.length : Int)) < 0)) (some (aJ (-1),[])) (kQ D (vH e0 (IntKind.i64.wrap (i1 - (↑e0.length : Int))) 0)) := by refine (aI (J := kQ D) (by kernel_rfl) (fun _ _ => rfl) [[1,1,1,0,1,0]]).trans ?_; generalize kQ D = J; revert J; refine id ?_; intro J; kernel_rfl
end
def aFX := atA D F.aVA
theorem aKa (s0_0 s0_1 s1_0 s1_1 : ByteArray) : bM Tryz.prog D Hs cB F.aVA [.agg [.str s0_0,.str s0_1],.agg [.str s1_0,.str s1_1]] [] = aC (!s0_0.toList == s1_0.toList) (some (aP false,[])) (aC (!s0_1.toList == s1_1.toList) (some (aP false,[])) (some (aP true,[]))) := by refine (aI (J := aFX D) (by kernel_rfl) (fun _ _ => rfl) []).trans ?_; generalize aFX D = J; revert J; refine id ?_; intro J; kernel_rfl
def aD6 := atA D F.aVu
theorem aIK (i0_0 : Int) (s0_1 : ByteArray) (e0_2 e0_3 : LE) (i1_0 : Int) (s1_1 : ByteArray) (e1_2 e1_3 : LE) : bM Tryz.prog D Hs cB F.aVu [.agg [.int .i64 i0_0,.str s0_1,.sl fP e0_2,.sl fP e0_3],.agg [.int .i64 i1_0,.str s1_1,.sl fP e1_2,.sl fP e1_3]] [] = aC (i0_0 != i1_0) (some (aP false,[])) (aC (!s0_1.toList == s1_1.toList) (some (aP false,[])) ((D F.aU6 [vsl e0_2,vsl e1_2] []).bind fun r => aM r.fst fun l => cL l fun b => aC (!b) (some (aP false,[])) ((D F.aUK [vsl e0_3,vsl e1_3] []).bind fun r => aM r.fst fun l => cL l fun b => aC (!b) (some (aP false,[])) (some (aP true,[]))))) := by refine (aI (J := aD6 D) (by kernel_rfl) (fun _ _ => rfl) []).trans ?_; generalize aD6 D = J; revert J; refine id ?_; intro J; kernel_rfl
section
variable (e0 e1 : LE) (i5 : Int)
def kU := atA D F.aVM
def vD : PS := ([1,1,0,1,0],St.mk ([vsl e0,vsl e1,.any,.any,.any,aJ i5] ++ bJ 21) (noB 27))
theorem aA3 : kU D (vD e0 e1 i5) = aC (decide (i5 < (↑e0.length : Int))) (aB (decide (0 ≤ i5) && decide (i5 < (↑e0.length : Int)) && sized 5 e0) (fB (e0.getD i5.toNat []) fun e => atK e 0 fun l => bO l fun s => atK e 1 fun l => dF .i64 l fun n => atK e 2 fun l => bO l fun s_1 => atK e 3 fun l => slK l fun c es => atK e 4 fun l => slK l fun c es_1 => aB (decide (0 ≤ i5) && decide (i5 < (↑e1.length : Int)) && sized 5 e1) (fB (e1.getD i5.toNat []) fun e => atK e 0 fun l => bO l fun s_2 => atK e 1 fun l => dF .i64 l fun n_1 => atK e 2 fun l => bO l fun s_3 => atK e 3 fun l => slK l fun c es_2 => atK e 4 fun l => slK l fun c es_3 => (D F.aV3 [.agg [.str s,.int .i64 n,.str s_1,.sl fP es,.sl fP es_1],.agg [.str s_2,.int .i64 n_1,.str s_3,.sl fP es_2,.sl fP es_3]] []).bind fun r => aM r.fst fun l => cL l fun b => aC (!b) (some (aP false,[])) (kU D (vD e0 e1 (IntKind.i64.wrap (i5 + 1))))))) (some (aP true,[])) := by refine (aL (J := kU D) (fun _ _ => rfl) [[1,1,0,1,0]] _).trans ?_; generalize kU D = J; revert J; refine id ?_; intro J; kernel_rfl
theorem aJN : bM Tryz.prog D Hs cB F.aVM [vsl e0,vsl e1] [] = aC ((↑e0.length : Int) != (↑e1.length : Int)) (some (aP false,[])) (kU D (vD e0 e1 0)) := by refine (aI (J := kU D) (by kernel_rfl) (fun _ _ => rfl) [[1,1,0,1,0]]).trans ?_; generalize kU D = J; revert J; refine id ?_; intro J; kernel_rfl
end
section
variable (e0 : LE) (n1 : Nat) (i7 i8 : Int)
def bN := atA D F.aT1
def dA : PS := ([1,0,1,0],St.mk ([vsl e0,.fn n1 []] ++ bJ 5 ++ [aJ i7,aJ i8] ++ bJ 10) (noB 19))
theorem eR : bN D (dA e0 n1 i7 i8) = aC (decide (i8 < i7)) (aB (decide (0 ≤ i8) && decide (i8 < (↑e0.length : Int)) && sized 6 e0) (cQ.rd (e0.getD i8.toNat []) fun x => aGQ (D n1 [.agg x.l] []) fun b => aC b (some (aJ i8,[])) (bN D (dA e0 n1 i7 (IntKind.i64.wrap (i8 + 1)))))) (some (aJ (-1),[])) := by refine (aL (J := bN D) (fun _ _ => rfl) [[1,0,1,0]] _).trans ?_; generalize bN D = J; revert J; refine id ?_; intro J; kernel_rfl
theorem kB : bM Tryz.prog D Hs cB F.aT1 [vsl e0,.fn n1 []] [] = bN D (dA e0 n1 (↑e0.length : Int) 0) := by refine (aI (J := bN D) (by kernel_rfl) (fun _ _ => rfl) [[1,0,1,0]]).trans ?_; generalize bN D = J; revert J; refine id ?_; intro J; kernel_rfl
end
section
variable (e0 : LE) (i1 i5 : Int)
def iO := atA D F.aU4
def rP : PS := ([1,1,1,0,1,0],St.mk ([vsl e0,aJ i1,.any,.any,.any,aJ i5] ++ bJ 21) (noB 27))
theorem yJ : iO D (rP e0 i1 i5) = aC (decide (i5 < (↑e0.length : Int))) (aB (decide (0 ≤ i5) && decide (i5 < (↑e0.length : Int)) && sized 4 e0) (fB (e0.getD i5.toNat []) fun e => atK e 0 fun l => dF .i64 l fun n => atK e 1 fun l => bO l fun s => atK e 2 fun l => slK l fun c es => atK e 3 fun l => slK l fun c es_1 => (D F.aVt [.agg [.int .i64 n,.str s,.sl fP es,.sl fP es_1],aJ i1] []).bind fun r => aM r.fst fun l => dF .i64 l fun n => aC (decide (n < 0)) (some (aJ (-1),[])) (iO D (rP e0 n (IntKind.i64.wrap (i5 + 1)))))) (some (aJ i1,[])) := by refine (aL (J := iO D) (fun _ _ => rfl) [[1,1,1,0,1,0]] _).trans ?_; generalize iO D = J; revert J; refine id ?_; intro J; kernel_rfl
theorem aHw : bM Tryz.prog D Hs cB F.aU4 [vsl e0,aJ i1] [] = aC (decide (IntKind.i64.wrap (i1 - (↑e0.length : Int)) < 0)) (some (aJ (-1),[])) (iO D (rP e0 (IntKind.i64.wrap (i1 - (↑e0.length : Int))) 0)) := by refine (aI (J := iO D) (by kernel_rfl) (fun _ _ => rfl) [[1,1,1,0,1,0]]).trans ?_; generalize iO D = J; revert J; refine id ?_; intro J; kernel_rfl
end
def aHG := atA D F.aV6
theorem aLc (s0_0 : ByteArray) (i0_1 : Int) (s0_2 : ByteArray) (e0_3 e0_4 : LE) (i1 : Int) : bM Tryz.prog D Hs cB F.aV6 [.agg [.str s0_0,.int .i64 i0_1,.str s0_2,.sl fP e0_3,.sl fP e0_4],aJ i1] [] = aC (decide (IntKind.i64.wrap (i1 - (↑s0_0.size : Int)) < 0)) (some (aJ (-1),[])) ((D F.aVt [.agg [.int .i64 i0_1,.str s0_2,.sl fP e0_3,.sl fP e0_4],.leaf (.int .i64 (IntKind.i64.wrap (i1 - (↑s0_0.size : Int))))] []).bind fun r => aM r.fst fun l => dF .i64 l fun n => aC (decide (n < 0)) (some (aJ (-1),[])) (some (aJ n,[]))) := by refine (aI (J := aHG D) (by kernel_rfl) (fun _ _ => rfl) []).trans ?_; generalize aHG D = J; revert J; refine id ?_; intro J; kernel_rfl
section
variable (e0 e1 : LE) (i5 : Int)
def iY := atA D F.aU6
def rT : PS := ([1,1,0,1,0],St.mk ([vsl e0,vsl e1,.any,.any,.any,aJ i5] ++ bJ 21) (noB 27))
theorem yU : iY D (rT e0 e1 i5) = aC (decide (i5 < (↑e0.length : Int))) (aB (decide (0 ≤ i5) && decide (i5 < (↑e0.length : Int)) && sized 4 e0) (fB (e0.getD i5.toNat []) fun e => atK e 0 fun l => dF .i64 l fun n => atK e 1 fun l => bO l fun s => atK e 2 fun l => slK l fun c es => atK e 3 fun l => slK l fun c es_1 => aB (decide (0 ≤ i5) && decide (i5 < (↑e1.length : Int)) && sized 4 e1) (fB (e1.getD i5.toNat []) fun e => atK e 0 fun l => dF .i64 l fun n_1 => atK e 1 fun l => bO l fun s_1 => atK e 2 fun l => slK l fun c es_2 => atK e 3 fun l => slK l fun c es_3 => (D F.aVu [.agg [.int .i64 n,.str s,.sl fP es,.sl fP es_1],.agg [.int .i64 n_1,.str s_1,.sl fP es_2,.sl fP es_3]] []).bind fun r => aM r.fst fun l => cL l fun b => aC (!b) (some (aP false,[])) (iY D (rT e0 e1 (IntKind.i64.wrap (i5 + 1))))))) (some (aP true,[])) := by refine (aL (J := iY D) (fun _ _ => rfl) [[1,1,0,1,0]] _).trans ?_; generalize iY D = J; revert J; refine id ?_; intro J; kernel_rfl
theorem aHI : bM Tryz.prog D Hs cB F.aU6 [vsl e0,vsl e1] [] = aC ((↑e0.length : Int) != (↑e1.length : Int)) (some (aP false,[])) (iY D (rT e0 e1 0)) := by refine (aI (J := iY D) (by kernel_rfl) (fun _ _ => rfl) [[1,1,0,1,0]]).trans ?_; generalize iY D = J; revert J; refine id ?_; intro J; kernel_rfl
end
def aG8 := atA D F.aV3
theorem aK8 (s0_0 : ByteArray) (i0_1 : Int) (s0_2 : ByteArray) (e0_3 e0_4 : LE) (s1_0 : ByteArray) (i1_1 : Int) (s1_2 : ByteArray) (e1_3 e1_4 : LE) : bM Tryz.prog D Hs cB F.aV3 [.agg [.str s0_0,.int .i64 i0_1,.str s0_2,.sl fP e0_3,.sl fP e0_4],.agg [.str s1_0,.int .i64 i1_1,.str s1_2,.sl fP e1_3,.sl fP e1_4]] [] = aC (!s0_0.toList == s1_0.toList) (some (aP false,[])) ((D F.aVu [.agg [.int .i64 i0_1,.str s0_2,.sl fP e0_3,.sl fP e0_4],.agg [.int .i64 i1_1,.str s1_2,.sl fP e1_3,.sl fP e1_4]] []).bind fun r => aM r.fst fun l => cL l fun b => aC (!b) (some (aP false,[])) (some (aP true,[]))) := by refine (aI (J := aG8 D) (by kernel_rfl) (fun _ _ => rfl) []).trans ?_; generalize aG8 D = J; revert J; refine id ?_; intro J; kernel_rfl
def aBa := atA D F.aUY
theorem aGB (x0 : cQ) : bM Tryz.prog D Hs cB F.aUY [.agg x0.l] [] = some (.leaf (.bool (decide ((↑x0.a2.length : Int) > 100))),[]) := by refine (aI (J := aBa D) (by kernel_rfl) (fun _ _ => rfl) []).trans ?_; generalize aBa D = J; revert J; refine id ?_; intro J; kernel_rfl
end
end Go.Vs
end
