/- What the program's functions compute, read off their text by the shadow runner (VsBound, VsLst, QTa, QLq); no condition. -/
import Derived.Test.YtoegkbokjmopnaaDoorVB4
section
set_option linter.unusedVariables false
namespace Go.Vs
mutual
def bdF (B : Nat) : Leaf false → Prop
  | .str s => s.size ≤ B
  | .sl _ es => es.length ≤ B ∧ bdE B es
  | _ => True
def bdL (B : Nat) : List (Leaf false) → Prop
  | [] => True
  | l :: r => bdF B l ∧ bdL B r
def bdE (B : Nat) : List (List (Leaf false)) → Prop
  | [] => True
  | e :: es => bdL B e ∧ bdE B es
end
theorem bdE_mem {B : Nat} : ∀ {es : List (List (Leaf false))}, bdE B es → ∀ e ∈ es, bdL B e
  | x :: r, h, e, he => by
    rw [bdE] at h
    rcases List.mem_cons.1 he with rfl | he
    · exact h.1
    · exact bdE_mem h.2 e he
mutual
theorem szF_bd {z B : Nat} (hB : (B : Int) ≤ cap) : ∀ (l : Leaf false) (n : Int), okF z l → 0 ≤ n → n ≤ B → 0 ≤ szF l n → bdF B l
  | .str s, n, ho, h0, hn, h => by
    have hm : maxLen = 9223372036854775807 := rfl
    simp only [okF] at ho
    simp only [szF, bdF, cap] at *
    rw [wrap64 (by omega) (by omega)] at h
    split at h <;> omega
  | .sl _ es, n, ho, h0, hn, h => by
    have hm : maxLen = 9223372036854775807 := rfl
    simp only [okF] at ho
    simp only [szF, bdF] at *
    rw [wrap64 (by simp only [cap] at hB; omega) (by simp only [cap] at hB; omega)] at h
    by_cases hl : n - (es.length : Int) < 0
    · simp [hl] at h
    · simp only [hl, if_false] at h
      exact ⟨by omega, szE_bd hB es _ ho.2 (by omega) (by omega) h⟩
  | .bool _, n, _, _, _, _ => by simp [bdF]
  | .int _ _, n, _, _, _, _ => by simp [bdF]
  | .unk, n, _, _, _, _ => by simp [bdF]
  | .nl _, n, _, _, _, _ => by simp [bdF]
theorem szL_bd {z B : Nat} (hB : (B : Int) ≤ cap) : ∀ (l : List (Leaf false)) (n : Int), okL z l → 0 ≤ n → n ≤ B → 0 ≤ szL l n → bdL B l
  | [], n, _, _, _, _ => by simp [bdL]
  | l :: r, n, ho, h0, hn, h => by
    simp only [okL] at ho
    simp only [szL, bdL] at *
    by_cases hl : szF l n < 0
    · simp [hl] at h
    · simp only [hl, if_false] at h
      have h1 := szF_t l n ho.1 h0 (by omega) (by omega)
      exact ⟨szF_bd hB l n ho.1 h0 hn (by omega), szL_bd hB r _ ho.2 (by omega) (by omega) h⟩
theorem szE_bd {z B : Nat} (hB : (B : Int) ≤ cap) : ∀ (l : List (List (Leaf false))) (n : Int), okE z l → 0 ≤ n → n ≤ B → 0 ≤ szE l n → bdE B l
  | [], n, _, _, _, _ => by simp [bdE]
  | e :: r, n, ho, h0, hn, h => by
    simp only [okE] at ho
    simp only [szE, bdE] at *
    by_cases hl : szL e n < 0
    · simp [hl] at h
    · simp only [hl, if_false] at h
      have h1 := szL_t e n ho.2.1 h0 (by omega) (by omega)
      exact ⟨szL_bd hB e n ho.2.1 h0 hn (by omega), szE_bd hB r _ ho.2.2 (by omega) (by omega) h⟩
end
end Go.Vs
end
section
set_option linter.unusedVariables false
namespace Go.Vs
abbrev nul : ByteArray := ByteArray.mk #[]
abbrev dot : ByteArray := ByteArray.mk #[46]
def noSl : Leaf false → Bool | .sl _ _ => false | .nl _ => false | _ => true
theorem reF_nosl {φ ψ : Fl false → Fl true} {l : Leaf false} (h : noSl l = true) : reF φ l = reF ψ l := by cases l <;> first | rfl | simp [noSl] at h
theorem reE_nosl {φ ψ : Fl false → Fl true} {l : List El} (h : ∀ e ∈ l, e.all noSl = true) : reE φ l = reE ψ l := by
  rw [reE_map, reE_map]
  refine List.map_congr_left fun e he => ?_
  rw [reL_map, reL_map]
  exact List.map_congr_left fun x hx => reF_nosl (List.all_eq_true.1 (h e he) x hx)
def idxP (p : El → Bool) : Int → List El → Int
  | _, [] => -1
  | i, e :: es => if p e = true then i else idxP p (i + 1) es
theorem idxP_lt (p : El → Bool) : ∀ (es : List El) (i : Int), 0 ≤ i → idxP p i es = -1 ∨ (i ≤ idxP p i es ∧ idxP p i es < i + es.length)
  | [], i, h => .inl rfl
  | e :: es, i, h => by
    unfold idxP
    split
    · right; simp; omega
    · rcases idxP_lt p es (i + 1) (by omega) with h1 | h1
      · exact .inl h1
      · right; simp only [List.length_cons]; push_cast; omega
theorem idxP_is (p : El → Bool) : ∀ (es : List El) (i j : Nat), idxP p (i : Int) es = (j : Int) → ∃ h : j - i < es.length, i ≤ j ∧ p es[j - i] = true
  | [], i, j, h => by simp [idxP] at h
  | e :: es, i, j, h => by
    unfold idxP at h
    split at h
    · rename_i hp
      have : i = j := by omega
      subst this
      refine ⟨by simp, Nat.le_refl _, ?_⟩
      simp only [Nat.sub_self, List.getElem_cons_zero]; exact hp
    · obtain ⟨h1, h2, h3⟩ := idxP_is p es (i + 1) j (by push_cast; exact h)
      have hj : j - i = (j - (i + 1)) + 1 := by omega
      refine ⟨by simp; omega, by omega, ?_⟩
      simp only [hj, List.getElem_cons_succ]
      exact h3
theorem idxP_get {p : El → Bool} {es : List El} (h : ¬ idxP p 0 es < 0) : ∃ (j : Nat) (hj : j < es.length), idxP p 0 es = (j : Int) ∧ p es[j] = true := by
  rcases idxP_lt p es 0 (by omega) with h1 | ⟨h1, h2⟩
  · omega
  · obtain ⟨j, hj⟩ : ∃ j : Nat, idxP p 0 es = (j : Int) := ⟨(idxP p 0 es).toNat, by omega⟩
    obtain ⟨a, _, b⟩ := idxP_is p es 0 j hj
    exact ⟨j, by simpa using a, hj, by simpa using b⟩
theorem idxP_any (p : El → Bool) : ∀ (es : List El) (i : Int), 0 ≤ i → decide (idxP p i es ≥ 0) = es.any p
  | [], i, h => by simp [idxP]
  | e :: es, i, h => by
    unfold idxP
    cases hp : p e with
    | true => simp [hp]; omega
    | false => simpa [hp] using idxP_any p es (i + 1) (by omega)
theorem idxP_neg (p : El → Bool) (es : List El) : decide (idxP p 0 es < 0) = !es.any p := by
  have := idxP_any p es 0 (by omega)
  rw [← this]
  by_cases h : idxP p 0 es < 0
  · simp [h]
  · simp [h]; omega
theorem idxP_congr {p q : El → Bool} : ∀ {es : List El} {i : Int}, (∀ e ∈ es, p e = q e) → idxP p i es = idxP q i es
  | [], i, h => rfl
  | e :: es, i, h => by
    unfold idxP
    rw [h e (by simp), idxP_congr (fun e he => h e (by simp [he]))]
abbrev at0 (s : ByteArray) (e : El) : Bool := (strAt e 0).toList == s.toList
abbrev at3 (s : ByteArray) (e : El) : Bool := (strAt e 3).toList == s.toList
theorem beq_sym (a b : List UInt8) : (a == b) = (b == a) := by rw [Bool.eq_iff_iff, beq_iff_eq, beq_iff_eq]; exact eq_comm
section
variable {β : Type} {es : List El}
theorem find_loop {p : El → Bool} {A : Int → Option β} {yes : Int → Option β} {no : Option β} (hend : A es.length = no)
    (hstep : ∀ (i : Nat) (hi : i < es.length), A i = branch (p es[i]) (yes i) (A ((i + 1 : Nat) : Int))) :
    ∀ i : Nat, i ≤ es.length → A i = if idxP p i (es.drop i) < 0 then no else yes (idxP p i (es.drop i)) := by
  refine upto_ind ?_ ?_
  · rw [hend]; simp [idxP]
  · intro i hi ih
    rw [hstep i hi, drop_at hi, ih, branch_ite, show idxP p (i : Int) (es[i] :: es.drop (i + 1)) = if p es[i] = true then (i : Int) else idxP p (i + 1) (es.drop (i + 1)) from rfl]
    by_cases hp : p es[i] = true
    · rw [if_pos hp, if_pos hp, if_neg (by omega)]
    · rw [if_neg hp, if_neg hp]; push_cast; rfl
theorem find_loop0 {p : El → Bool} {A : Int → Option β} {yes : Int → Option β} {no : Option β} (hend : A es.length = no)
    (hstep : ∀ (i : Nat) (hi : i < es.length), A i = branch (p es[i]) (yes i) (A ((i + 1 : Nat) : Int))) :
    A 0 = if idxP p 0 es < 0 then no else yes (idxP p 0 es) := by
  have := find_loop hend hstep 0 (Nat.zero_le _)
  simpa using this
theorem find_int {p : El → Bool} {A : Int → Ret false} {bs : List (List (SV false))} (hend : A es.length = some (vint (-1), bs))
    (hstep : ∀ (i : Nat) (hi : i < es.length), A i = branch (p es[i]) (some (vint i, bs)) (A ((i + 1 : Nat) : Int))) : A 0 = some (vint (idxP p 0 es), bs) := by
  rw [find_loop0 (yes := fun i => some (vint i, bs)) hend hstep]
  split
  · rename_i h
    rcases idxP_lt p es 0 (by omega) with h1 | h1
    · rw [h1]
    · omega
  · rfl
theorem any_bool {p : El → Bool} {A : Int → Ret false} {bs : List (List (SV false))} (hend : A es.length = some (vbool false, bs))
    (hstep : ∀ (i : Nat) (hi : i < es.length), A i = branch (p es[i]) (some (vbool true, bs)) (A ((i + 1 : Nat) : Int))) : A 0 = some (vbool (es.any p), bs) := by
  rw [show A 0 = _ from (by
    have h := find_loop0 (yes := fun _ => some (vbool true, bs)) hend hstep
    exact h), ← idxP_any p es 0 (by omega)]
  by_cases hc : idxP p 0 es < 0
  · rw [if_pos hc]; simp; omega
  · rw [if_neg hc]; simp; omega
theorem any_loop {p : El → Bool} {A : Int → Option β} {yes no : Option β} (hend : A es.length = no)
    (hstep : ∀ (i : Nat) (hi : i < es.length), A i = branch (p es[i]) yes (A ((i + 1 : Nat) : Int))) :
    A 0 = if es.any p = true then yes else no := by
  have h := find_loop0 (yes := fun _ => yes) hend hstep
  rw [h, ← idxP_any p es 0 (by omega)]
  by_cases hc : idxP p 0 es < 0
  · rw [if_pos hc, if_neg (by simp; omega)]
  · rw [if_neg hc, if_pos (by simp; omega)]
def flatI (g : Nat → El → List El) : Nat → List El → List El
  | _, [] => []
  | i, e :: r => g i e ++ flatI g (i + 1) r
theorem flatI_const (g : El → List El) : ∀ (l : List El) (i : Nat), flatI (fun _ => g) i l = l.flatMap g
  | [], _ => rfl
  | e :: r, i => by rw [flatI, flatI_const g r, List.flatMap_cons]
theorem flatI_congr {g h : Nat → El → List El} : ∀ {l : List El} {i : Nat}, (∀ (j : Nat) (hj : j < l.length), g (i + j) l[j] = h (i + j) l[j]) → flatI g i l = flatI h i l
  | [], _, _ => rfl
  | e :: r, i, hh => by
    rw [flatI, flatI, flatI_congr (l := r) (i := i + 1) (fun j hj => by have := hh (j + 1) (by simpa using hj); simpa [Nat.add_assoc, Nat.add_comm 1 j] using this)]
    have := hh 0 (by simp)
    simp at this
    rw [this]
theorem flatI_len {g : Nat → El → List El} {c : Nat} : ∀ (l : List El) (i : Nat), (∀ (j : Nat) (hj : j < l.length), (g (i + j) l[j]).length ≤ c) → (flatI g i l).length ≤ l.length * c
  | [], _, _ => by simp [flatI]
  | e :: r, i, h => by
    have h0 := h 0 (by simp)
    have h1 := flatI_len (g := g) (c := c) r (i + 1) (fun j hj => by have := h (j + 1) (by simpa using hj); simpa [Nat.add_assoc, Nat.add_comm 1 j] using this)
    simp at h0
    rw [flatI, List.length_append, List.length_cons, Nat.add_mul]; omega
theorem flatI_mem {g : Nat → El → List El} {x : El} : ∀ (l : List El) (i : Nat), x ∈ flatI g i l → ∃ (j : Nat) (hj : j < l.length), x ∈ g (i + j) l[j]
  | [], _, h => by simp [flatI] at h
  | e :: r, i, h => by
    rw [flatI] at h
    rcases List.mem_append.1 h with h | h
    · exact ⟨0, by simp, by simpa using h⟩
    · obtain ⟨j, hj, hx⟩ := flatI_mem r (i + 1) h
      exact ⟨j + 1, by simpa using hj, by simpa [Nat.add_assoc, Nat.add_comm 1 j] using hx⟩
theorem app_loop {g : Nat → El → List El} {A : List El → Int → Option β} {fin : List El → Option β} {c N : Nat} (hg : ∀ (j : Nat) (hj : j < es.length), (g j es[j]).length ≤ c)
    (hend : ∀ out, out.length ≤ N → A out es.length = fin out)
    (hstep : ∀ (i : Nat) (hi : i < es.length) (out : List El), out.length + c ≤ N → A out i = A (out ++ g i es[i]) ((i + 1 : Nat) : Int)) :
    ∀ i : Nat, i ≤ es.length → ∀ out : List El, out.length + (es.length - i) * c ≤ N → A out i = fin (out ++ flatI g i (es.drop i)) := by
  refine upto_ind ?_ ?_
  · intro out ho; rw [hend out (by simpa using ho)]; simp [flatI]
  · intro i hi ih out ho
    have e1 : (es.length - i) * c = (es.length - (i + 1)) * c + c := by rw [show es.length - i = (es.length - (i + 1)) + 1 by omega, Nat.add_mul, Nat.one_mul]
    rw [hstep i hi out (by omega), ih _ (by have := hg i hi; rw [List.length_append]; omega), drop_at hi, flatI, List.append_assoc]
theorem app_loop0 {g : Nat → El → List El} {A : List El → Int → Option β} {fin : List El → Option β} {c N : Nat} (hg : ∀ (j : Nat) (hj : j < es.length), (g j es[j]).length ≤ c)
    (hend : ∀ out, out.length ≤ N → A out es.length = fin out)
    (hstep : ∀ (i : Nat) (hi : i < es.length) (out : List El), out.length + c ≤ N → A out i = A (out ++ g i es[i]) ((i + 1 : Nat) : Int))
    {out : List El} (ho : out.length + es.length * c ≤ N) : A out 0 = fin (out ++ flatI g 0 es) := by
  have := app_loop hg hend hstep 0 (Nat.zero_le _) out (by simpa using ho)
  simpa using this
theorem app_loop1 {g : Nat → El → List El} {A : List El → Int → Option β} {fin : List El → Option β} {c N : Nat} (hg : ∀ (j : Nat) (hj : j < es.length), (g j es[j]).length ≤ c)
    (hend : ∀ out, out.length ≤ N → A out es.length = fin out)
    (hstep : ∀ (i : Nat) (hi : i < es.length) (out : List El), out.length + c ≤ N → A out i = A (out ++ g i es[i]) ((i + 1 : Nat) : Int))
    (ho : es.length * c ≤ N) : A [] 0 = fin (flatI g 0 es) :=
  app_loop0 hg hend hstep (out := []) (by simpa using ho)
end
def ifP (q : Bool) (x : El) : List El := if q = true then [x] else []
theorem ifP_len (q : Bool) (x : El) : (ifP q x).length ≤ 1 := by unfold ifP; split <;> simp
theorem ifP_mem {q : Bool} {x y : El} (h : y ∈ ifP q x) : q = true ∧ y = x := by unfold ifP at h; split at h <;> simp_all
@[simp] theorem ifP_true (x : El) : ifP true x = [x] := rfl
@[simp] theorem ifP_false (x : El) : ifP false x = [] := rfl
theorem room {n k z : Nat} (h : n + k ≤ 1000000000000) (hz : z ≤ 100) : decide ((n + k) * z ≤ maxBytes) = true := by
  have hb : maxBytes = 140737488355328 := rfl
  rw [decide_eq_true_eq]
  calc (n + k) * z ≤ 1000000000000 * 100 := Nat.mul_le_mul h hz
    _ ≤ maxBytes := by rw [hb]; decide
end Go.Vs
end
section
open Go Go.Vs Go.Proofs
set_option linter.unusedVariables false
set_option linter.unusedSimpArgs false
namespace Go.Vs
noncomputable abbrev Dn : Oracle false := den Go.Proofs.Tryd.prog told Hs
theorem den_of {f : FuncId} {a : List (SV false)} {b : List (List (SV false))} {r : SV false × List (List (SV false))} (h : run2V Go.Proofs.Tryd.prog Dn Hs limR f a b = some r) (hf : told f = none := by rfl) : Dn f a b = some r :=
  den_fast hf h
inductive IsProblem : List (Leaf false) → Prop
  | mk (i0 : Int) (s1 : ByteArray) (s2 : ByteArray) (h1 : s1.size ≤ maxLen) (h2 : s2.size ≤ maxLen) : IsProblem [.int .i64 i0, .str s1, .str s2]
theorem IsProblem.ex {ls : List (Leaf false)} (h : IsProblem ls) : ∃ (i0 : Int) (s1 : ByteArray) (s2 : ByteArray), ls = [.int .i64 i0, .str s1, .str s2] ∧ s1.size ≤ maxLen ∧ s2.size ≤ maxLen := by
  cases h with
  | mk i0 s1 s2 h1 h2 => exact ⟨i0, s1, s2, rfl, h1, h2⟩
theorem IsProblem.len {ls : List (Leaf false)} (h : IsProblem ls) : ls.length = 3 := by cases h; rfl
theorem IsProblem.ok {ls : List (Leaf false)} (h : IsProblem ls) : okL 16 ls := by
  cases h with
  | mk i0 s1 s2 h1 h2 => simp only [okL, okF]; exact ⟨trivial, h1, h2, trivial⟩
theorem IsProblem.st {e : El} (h : IsProblem e) : ∃ x : R_iss, e = x.l ∧ IsProblem x.l := by
  cases h with
  | mk i0 s1 s2 h1 h2 => exact ⟨⟨i0, s1, s2⟩, rfl, .mk i0 s1 s2 h1 h2⟩
theorem IsProblem.of {e : El} (h : IsProblem e) : (R_iss.of e).l = e := by obtain ⟨x, rfl, _⟩ := h.st; rfl
theorem IsProblem.nosl {e : El} (h : IsProblem e) : e.all noSl = true := by obtain ⟨x, rfl, _⟩ := h.st; rfl
theorem IsProblem.p {x : R_iss} (h : IsProblem x.l) : (x.a1.size ≤ maxLen) ∧ (x.a2.size ≤ maxLen) := by
  obtain ⟨i0, s1, s2⟩ := x
  have h1 : IsProblem [.int .i64 i0, .str s1, .str s2] := h
  cases h1 with
  | mk _ _ _ h1 h2 => exact ⟨h1, h2⟩
end Go.Vs
end
section
open Go Go.Vs Go.Proofs
set_option linter.unusedVariables false
set_option linter.unusedSimpArgs false
namespace Go.Vs
theorem bcat (a b : List UInt8) : (⟨a.toArray⟩ : ByteArray) ++ ⟨b.toArray⟩ = ⟨(a ++ b).toArray⟩ := by
  apply ByteArray.ext
  simp
theorem wrap8 {z : Int} (h1 : 0 ≤ z) (h2 : z < 256) : IntKind.u8.wrap z = z := by
  simp -implicitDefEqProofs only [IntKind.wrap, IntKind.signed, IntKind.bits, Bool.false_and, Bool.false_eq_true, if_false]
  omega
theorem d_l01Figure {d : Int} (h0 : 0 ≤ d) (h1 : d < 10) : Dn F.spec_l01Figure [vint d] [] = some (.leaf (.int .u8 (48 + d)), []) := by
  refine den_of ?_
  rw [run_spec_l01Figure]
  simp -implicitDefEqProofs only [h1, decide_true, branch_true]
  rw [wrap64 (by omega) (by omega), wrap8 (by omega) (by omega)]
def figs (u : Nat) (s : List UInt8) : List UInt8 := if h : u = 0 then s else figs (u / 10) (UInt8.ofNat (48 + u % 10) :: s)
termination_by u
decreasing_by omega
theorem figs_dec : ∀ (u : Nat) (s : List UInt8), u ≠ 0 → figs u s = Lib.decDigits u ++ s := by
  intro u
  induction u using Nat.strongRecOn with
  | ind u ih =>
    intro s hu
    rw [figs, dif_neg hu]
    by_cases h : u < 10
    · rw [show u / 10 = 0 by omega, figs, dif_pos rfl, Lib.decDigits, dif_pos h, Nat.mod_eq_of_lt h]; rfl
    · have e : Lib.decDigits u = Lib.decDigits (u / 10) ++ [UInt8.ofNat (48 + u % 10)] := by rw [Lib.decDigits, dif_neg h]
      rw [ih (u / 10) (by omega) _ (by omega), e]; simp
theorem byteOf_u8 (k : Nat) : byteOf (m := false) [.int .u8 (k : Int)] = UInt8.ofNat k := by
  simp [byteOf]
theorem decimal_from {b : Bool} : ∀ (k u : Nat) (n : Int) (s : List UInt8), u < 10 ^ k → (n = u ∨ n = -u) → u ≤ 9223372036854775808 → -9223372036854775808 ≤ n → n ≤ 9223372036854775807 → s.length + k + 1 ≤ 140737488355328 →
    spec_Decimal_A Dn (spec_Decimal_0 n b ⟨s.toArray⟩) = some (.leaf (.str ⟨(if b then 45 :: figs u s else figs u s).toArray⟩), []) := by
  intro k
  induction k with
  | zero =>
    intro u n s hu hn _ _ _ hs
    obtain rfl : u = 0 := by simpa using hu
    obtain rfl : n = 0 := by omega
    rw [spec_Decimal_0_eq, figs, dif_pos rfl]
    simp -implicitDefEqProofs only [bne_self_eq_false, branch_false]
    have hsz : (⟨s.toArray⟩ : ByteArray).size = s.length := rfl
    have h45 : (ByteArray.mk #[45]).size = 1 := rfl
    cases b
    · simp
    · have : (1 + s.length ≤ 140737488355328) := by omega
      simp -implicitDefEqProofs only [branch_true, hsz, h45, this, decide_true, guarded_true]
      rw [show (ByteArray.mk #[45]) = ⟨([45] : List UInt8).toArray⟩ from rfl, bcat]; rfl
  | succ k ih =>
    intro u n s hu hn hu9 hlo hhi hs
    by_cases h0 : u = 0
    · subst h0
      obtain rfl : n = 0 := by omega
      rw [spec_Decimal_0_eq, figs, dif_pos rfl]
      simp -implicitDefEqProofs only [bne_self_eq_false, branch_false]
      have hsz : (⟨s.toArray⟩ : ByteArray).size = s.length := rfl
      have h45 : (ByteArray.mk #[45]).size = 1 := rfl
      cases b
      · simp
      · have : (1 + s.length ≤ 140737488355328) := by omega
        simp -implicitDefEqProofs only [branch_true, hsz, h45, this, decide_true, guarded_true]
        rw [show (ByteArray.mk #[45]) = ⟨([45] : List UInt8).toArray⟩ from rfl, bcat]; rfl
    · have hn0 : (n != 0) = true := by simp; omega
      have hd : n.tdiv 10 = ((u / 10 : Nat) : Int) ∨ n.tdiv 10 = -((u / 10 : Nat) : Int) := by
        rcases hn with rfl | rfl
        · left; rfl
        · right; rw [Int.neg_tdiv]; rfl
      have hm : n.tmod 10 = ((u % 10 : Nat) : Int) ∨ n.tmod 10 = -((u % 10 : Nat) : Int) := by
        rcases hn with rfl | rfl
        · left; rfl
        · right; rw [Int.neg_tmod]; rfl
      have hr : u % 10 < 10 := Nat.mod_lt _ (by decide)
      have step : ∀ i5 : Int, i5 = ((u % 10 : Nat) : Int) → spec_Decimal_A Dn (spec_Decimal_1 n b ⟨s.toArray⟩ i5) = some (.leaf (.str ⟨(if b then 45 :: figs u s else figs u s).toArray⟩), []) := by
        intro i5 hi
        rw [spec_Decimal_1_eq, hi, d_l01Figure (by omega) (by omega)]
        have hk : (48 : Int) + ((u % 10 : Nat) : Int) = ((48 + u % 10 : Nat) : Int) := by omega
        simp -implicitDefEqProofs only [Option.bind_some, svLeafK_leaf, intK_int, hk, List.map_cons, List.map_nil, byteOf_u8]
        have hsz : (⟨s.toArray⟩ : ByteArray).size = s.length := rfl
        have h45 : ∀ x : UInt8, (ByteArray.mk [x].toArray).size = 1 := fun _ => rfl
        simp -implicitDefEqProofs only [hsz, h45, show 1 + s.length ≤ 140737488355328 by omega, decide_true, guarded_true]
        rw [bcat, wrap64 (by omega) (by omega), List.cons_append, List.nil_append]
        rw [ih (u / 10) (n.tdiv 10) (UInt8.ofNat (48 + u % 10) :: s) (by rw [Nat.pow_succ] at hu; omega) hd (by omega) (by omega) (by omega) (by simp; omega)]
        rw [figs.eq_def u, dif_neg h0]
      rw [spec_Decimal_0_eq, hn0]
      simp -implicitDefEqProofs only [branch_true]
      by_cases hneg : n.tmod 10 < 0
      · simp -implicitDefEqProofs only [hneg, decide_true, branch_true]
        rw [wrap64 (by omega) (by omega)]
        exact step _ (by omega)
      · simp -implicitDefEqProofs only [hneg, decide_false, branch_false]
        exact step _ (by omega)
theorem d_spec_Decimal {n : Int} (h0 : -9223372036854775808 ≤ n) (h1 : n ≤ 9223372036854775807) : Dn F.spec_Decimal [vint n] [] = some (.leaf (.str (dec n)), []) := by
  refine den_of ?_
  rw [run_spec_Decimal]
  by_cases hz : n = 0
  · subst hz
    have e : dec 0 = ByteArray.mk #[48] := by
      show (⟨(Lib.itoa 0).toArray⟩ : ByteArray) = _
      rw [show Lib.itoa 0 = [48] from by unfold Lib.itoa; rw [if_neg (by decide)]; exact Lib.decDigits_one (by decide)]
    simp -implicitDefEqProofs only [beq_self_eq_true, branch_true, e]
  · have hz' : (n == 0) = false := by simpa using hz
    rw [hz']
    simp -implicitDefEqProofs only [branch_false]
    have := decimal_from (b := decide (n < 0)) 20 n.natAbs n [] (by omega) (by omega) (by omega) h0 h1 (by decide)
    rw [show (ByteArray.mk #[]) = ⟨([] : List UInt8).toArray⟩ from rfl, this, figs_dec _ _ (by omega), List.append_nil]
    unfold dec Lib.itoa
    by_cases hn : n < 0
    · simp [hn]
    · simp [hn, show n.natAbs = n.toNat by omega]
theorem d_impl_Decimal {n : Int} (h0 : -9223372036854775808 ≤ n) (h1 : n ≤ 9223372036854775807) : Dn F.impl_Decimal [vint n] [] = some (.leaf (.str (dec n)), []) := by
  refine den_of ?_
  rw [run_impl_Decimal]
  have : Dn F.strconv_Itoa [vint n] [] = some (.leaf (.str (dec n)), []) := den_told (T := told) (t := itoaT) (by unfold told; exact if_pos rfl) (by unfold itoaT; exact if_pos ⟨h0, h1⟩)
  rw [this, rStr_eq]
theorem nDigits_le {u : Nat} (h : u < 10 ^ 20) : Lib.nDigits u ≤ 20 := by
  have : ∀ (k u : Nat), u < 10 ^ (k + 1) → Lib.nDigits u ≤ k + 1 := by
    intro k
    induction k with
    | zero => intro u h; rw [Lib.nDigits_small (by simpa using h)]; omega
    | succ k ih =>
      intro u h
      by_cases hs : u < 10
      · rw [Lib.nDigits_small hs]; omega
      · rw [Lib.nDigits_big hs]
        have := ih (u / 10) (by rw [Nat.pow_succ] at h; omega)
        omega
  exact this 19 u h
theorem dec_size {n : Int} (h0 : -9223372036854775808 ≤ n) (h1 : n ≤ 9223372036854775807) : (dec n).size ≤ 21 := by
  show (Lib.itoa n).length ≤ 21
  unfold Lib.itoa
  split
  · rw [List.length_cons, Lib.decDigits_length]
    have := nDigits_le (u := n.natAbs) (by omega)
    omega
  · rw [Lib.decDigits_length]
    have := nDigits_le (u := n.toNat) (by omega)
    omega
abbrev blank : ByteArray := ByteArray.mk #[32]
def lineP (n : Int) (a b : ByteArray) : ByteArray := if b.toList == (ByteArray.mk #[]).toList then dec n ++ blank ++ a else dec n ++ blank ++ a ++ blank ++ b
section
variable {n : Int} {a b : ByteArray} (h0 : -9223372036854775808 ≤ n) (h1 : n ≤ 9223372036854775807) (ha : a.size ≤ 1048576) (hb : b.size ≤ 1048576)
include h0 h1 ha hb
theorem d_spec_ProblemLine : Dn F.spec_ProblemLine [.agg [.int .i64 n, .str a, .str b]] [] = some (.leaf (.str (lineP n a b)), []) := by
  refine den_of ?_
  have hs := dec_size h0 h1
  have hbl : blank.size = 1 := rfl
  rw [show ([.int .i64 n, .str a, .str b] : El) = (⟨n, a, b⟩ : R_iss).l from rfl, run_spec_ProblemLine]
  simp -implicitDefEqProofs only [d_spec_Decimal h0 h1, rStr_eq]
  simp -implicitDefEqProofs only [ByteArray.size_append, hbl, spec_ProblemLine_0_eq, show (dec n).size + 1 ≤ 140737488355328 by omega, show (dec n).size + 1 + a.size ≤ 140737488355328 by omega, show (dec n).size + 1 + a.size + 1 ≤ 140737488355328 by omega, show (dec n).size + 1 + a.size + 1 + b.size ≤ 140737488355328 by omega, decide_true, guarded_true]
  unfold lineP
  cases (b.toList == (ByteArray.mk #[]).toList) <;> simp
theorem d_impl_ProblemLine : Dn F.impl_ProblemLine [.agg [.int .i64 n, .str a, .str b]] [] = some (.leaf (.str (lineP n a b)), []) := by
  refine den_of ?_
  have hs := dec_size h0 h1
  have hbl : blank.size = 1 := rfl
  have hl : Dn F.impl_lined [.leaf (.str a), .leaf (.str b)] [] = some (.leaf (.str (if b.toList == (ByteArray.mk #[]).toList then a else a ++ blank ++ b)), []) := by
    refine den_of ?_
    rw [run_impl_lined]
    simp -implicitDefEqProofs only [ByteArray.size_append, hbl, show a.size + 1 ≤ 140737488355328 by omega, show a.size + 1 + b.size ≤ 140737488355328 by omega, decide_true, guarded_true]
    cases (b.toList == (ByteArray.mk #[]).toList) <;> simp
  rw [show ([.int .i64 n, .str a, .str b] : El) = (⟨n, a, b⟩ : R_iss).l from rfl, run_impl_ProblemLine]
  simp -implicitDefEqProofs only [d_impl_Decimal h0 h1, rStr_eq, hl]
  unfold lineP
  cases (b.toList == (ByteArray.mk #[]).toList)
  · simp -implicitDefEqProofs only [Bool.false_eq_true, if_false, ByteArray.size_append, hbl, show (dec n).size + 1 ≤ 140737488355328 by omega, show (dec n).size + 1 + (a.size + 1 + b.size) ≤ 140737488355328 by omega, decide_true, guarded_true]
    have e : dec n ++ blank ++ (a ++ blank ++ b) = dec n ++ blank ++ a ++ blank ++ b := by simp -implicitDefEqProofs only [ByteArray.append_assoc]
    exact congrArg (fun x => some ((.leaf (.str x) : SV false), ([] : List (List (SV false))))) e
  · simp -implicitDefEqProofs only [if_true, ByteArray.size_append, hbl, show (dec n).size + 1 ≤ 140737488355328 by omega, show (dec n).size + 1 + a.size ≤ 140737488355328 by omega, decide_true, guarded_true]
end
theorem d_laws_toProblem (n : Int) (a b : ByteArray) : Dn F.laws_toProblem [.agg [.int .i64 n, .str a, .str b]] [] = some (.agg [.int .i64 n, .str a, .str b], []) := den_of (run_laws_toProblem Dn n a b)
theorem d_law {n : Int} {a b : ByteArray} (h0 : -9223372036854775808 ≤ n) (h1 : n ≤ 9223372036854775807) (ha : a.size ≤ maxLen) (hb : b.size ≤ maxLen) : Dn F.laws_FnExactProblemLine [.agg [.int .i64 n, .str a, .str b]] [] = some (vbool true, []) := by
  refine den_of ?_
  have hm : maxLen = 9223372036854775807 := rfl
  rw [run_laws_FnExactProblemLine]
  have hz : Dn F.laws_szProblem [.agg [.int .i64 n, .str a, .str b], vint 1048576] [] = some (vint (if (1048576 : Int) - a.size < 0 then -1 else if (1048576 : Int) - a.size - b.size < 0 then -1 else (1048576 : Int) - a.size - b.size), []) := by
    refine den_of ?_
    rw [run_laws_szProblem, wrap64 (z := 1048576 - (a.size : Int)) (by omega) (by omega)]
    by_cases h1 : (1048576 : Int) - a.size < 0
    · simp [h1]
    · rw [wrap64 (by omega) (by omega)]
      by_cases h2 : (1048576 : Int) - a.size - b.size < 0 <;> simp [h1, h2]
  simp -implicitDefEqProofs only [hz, Option.bind_some, svLeafK_leaf, intK_int]
  by_cases c1 : (1048576 : Int) - a.size < 0
  · simp [c1]
  · by_cases c2 : (1048576 : Int) - a.size - b.size < 0
    · simp [c1, c2]
    · simp -implicitDefEqProofs only [c1, c2, if_false, decide_false, branch_false, d_laws_toProblem, Option.bind_some, svAggK_agg, List.length_cons, List.length_nil, Nat.reduceAdd, Nat.reduceBEq, guarded_true, atK_zero, atK_succ, intK_int, strK_str, d_spec_ProblemLine h0 h1 (show a.size ≤ 1048576 by omega) (show b.size ≤ 1048576 by omega), d_impl_ProblemLine h0 h1 (show a.size ≤ 1048576 by omega) (show b.size ≤ 1048576 by omega), svLeafK_leaf]
      simp
end Go.Vs
end
