/- What the program's functions compute, read off their text by the shadow runner (RToldS, VsNames, VsBound, VsLst, RTa, RTt, RTm0, RTr, RLt2, RLt3, VsEr, RTz, RTy, VsShape, VsDoor); no condition. -/
import Derived.Test.YtoegkbokjmopnaaDoorShelf
import Derived.Laws.Strings
import Derived.Sort.Walk0
import Derived.FnData
import Derived.MakeChecks
import Derived.Test.YtoegkbokjmopnaaDoorVB4
section
open Go Go.Vs Go.Proofs
set_option linter.unusedVariables false
set_option linter.unusedSimpArgs false
namespace Go.Vs
open Go.RowKit Go.Lib
def rowS (xs : List ByteArray) : List El := xs.map fun x => [.str x]
theorem rowS_len (xs : List ByteArray) : (rowS xs).length = xs.length := by simp [rowS]
theorem rowS_flat (xs : List ByteArray) : (rowS xs).flatten = xs.map fun x => (.str x : Leaf false) := by
  induction xs with
  | nil => rfl
  | cons x xs ih => simp -implicitDefEqProofs only [rowS, List.map_cons, List.flatten_cons] at ih ⊢; rw [ih]; rfl
theorem rowS_one (xs : List ByteArray) : ∀ e ∈ rowS xs, e.length = 1 := fun e he => by obtain ⟨x, _, rfl⟩ := List.mem_map.1 he; rfl
noncomputable def splitT : List (SV false) → List (List (SV false)) → Ret false
  | [.leaf (.str s), .leaf (.str sep)], [] => if s.size ≤ 1048576 ∧ 1 ≤ sep.size then some (.own (some T.string) (rowS (Lib.splitB sep 0 (Lib.countB s sep) s)), []) else none
  | _, _ => none
open Classical in
noncomputable def joinT : List (SV false) → List (List (SV false)) → Ret false
  | [.leaf (.sl _ es), .leaf (.str sep)], [] =>
    if h : ∃ xs, es = rowS xs ∧ xs.length ≤ 140737488355328 ∧ (Lib.join (xs.map (·.data.toList)) sep.data.toList).length ≤ 140737488355328 then some (.leaf (.str ⟨(Lib.join (h.choose.map (·.data.toList)) sep.data.toList).toArray⟩), []) else none
  | _, _ => none
noncomputable def told : Told false := fun f => if f = F.strings_Split then some splitT else if f = F.strings_Join then some joinT else none
abbrev KOf (mx : Int) : Known := [((0, 0), .int .i64 mx)]
theorem split_fn : ∃ fn, Tryd.prog.funcs[F.strings_Split]? = some fn ∧ (fn.name == "runtime.NumGoroutine") = false ∧ fn.body.isNone = false := ⟨_, Tryd.func18, by kernel_rfl, by kernel_rfl⟩
theorem join_fn : ∃ fn, Tryd.prog.funcs[F.strings_Join]? = some fn ∧ (fn.name == "runtime.NumGoroutine") = false ∧ fn.body.isNone = false := ⟨_, Tryd.func19, by kernel_rfl, by kernel_rfl⟩
noncomputable def iS : TypeInfo := (Tryd.prog.info? T.string).getD default
theorem iS_is : Tryd.prog.info? T.string = some iS := by kernel_rfl
theorem iS_size : iS.size = 1 := by kernel_rfl
theorem vals2 {s : St false} {vals : Array Value} {a b : SV false} (h : s.tmps = [a, b]) (hl : s.tmps.length = vals.size) : vals = #[vals.getD 0 undef, vals.getD 1 undef] := by
  have h3 : vals.size = 2 := by rw [← hl, h]; rfl
  apply Array.ext
  · simpa using h3
  · intro i hi hi2
    have : i = 0 ∨ i = 1 := by omega
    rcases this with rfl | rfl <;> simp [Array.getD, hi]
theorem str_at {P : Program} {N : Env} {w : World} {F1 : Fr} {Ow : Own} {bm : Nat → Nat} {al : Nat → Bool} {loc : Loc} {x : ByteArray} {v : Value} (h : RepS P w F1 N Ow bm al loc (.leaf (.str x) : SV false) v) : v = .string x := by
  have h1 : RepL w F1 N (Leaf.str x : Leaf false) v := by simpa [RepS, RepF] using h
  cases h1; rfl
theorem split_sound {N : Env} {mx : Int} (hK : N.K = KOf mx) : DSound Tryd.prog N (fun g a b => if g = F.strings_Split then splitT a b else none) := by
  intro g args boxes r hr hh hf
  replace hr : (if g = F.strings_Split then splitT args boxes else none) = some r := hr
  split at hr
  · rename_i hg
    subst hg
    unfold splitT at hr
    split at hr
    · rename_i s sep
      split at hr
      · rename_i hn
        simp -implicitDefEqProofs only [Option.some.injEq] at hr
        subst hr
        refine ⟨rfl, rfl, fun cs hcs => by simp at hcs, split_fn, fun w F1 Ow bm vals hI => ?_⟩
        have e0 := str_at (hI.slot 0)
        have e1 := str_at (hI.slot 1)
        have hv := vals2 rfl hI.len
        rw [e0, e1] at hv
        subst hv
        have hm := (hI.low.know ((0, 0), .int .i64 mx) (by rw [hK]; simp [KOf])).2.2
        refine (Tryd.strings_Split s sep mx w (by omega) hm hn.2).mono fun e w' ⟨he, hw⟩ => ?_
        have hlen : (Lib.splitB sep 0 (Lib.countB s sep) s).length = Lib.countB s sep + 1 := Lib.splitB_all sep hn.2 0 _ s rfl
        have hcnt := Lib.count_le s.data.toList sep.data.toList
        have hsl : s.data.toList.length = s.size := rfl
        have hcb : Lib.countB s sep ≤ s.size + 1 := by rw [← hsl]; exact hcnt
        have hml : maxLen = 9223372036854775807 := rfl
        have G : Grew Tryd.prog w w' F1 N T.string iS (rowS (Lib.splitB sep 0 (Lib.countB s sep) s)) (.slice (some ⟨w.heap.size, 0, none⟩) (rowS (Lib.splitB sep 0 (Lib.countB s sep) s)).length (Lib.countB s sep + 1)) w.heap.size :=
          grew_of_new (rest := []) (vals := (Lib.splitB sep 0 (Lib.countB s sep) s).map Value.string) (.inl hw) (by simp) (hI.new _ (Nat.le_refl _)).1 (by omega) (by rw [iS_size]; simp [hlen]) (fun x hx => by rw [iS_size]; exact rowS_one _ x hx)
            (by
              rw [rowS_flat]
              refine ⟨by simp, fun j l v hl hv => ?_⟩
              rw [List.getElem?_map] at hl hv
              cases hj : (Lib.splitB sep 0 (Lib.countB s sep) s)[j]? with
              | none => rw [hj] at hl; simp at hl
              | some x => rw [hj] at hl hv; simp at hl hv; subst hl hv; exact RepL.str x)
            (by rw [rowS_len, hlen]; omega)
        obtain ⟨F', Ow', q1, q2, q3⟩ := hI.grown (loc := .tmp 0) («to» := .tmp 0) iS_is (by rw [iS_size]; decide) G (.inr rfl) hI.low.le false (fun h => by cases h) (bsz_new (Nat.le_refl _))
        refine ⟨_, F', Ow', he, ⟨rfl, fun t => ?_, fun b cs hc => by simp [boxAt] at hc, q1.low, q1.new, fun b cs hc => by simp [boxAt] at hc, q1.zow⟩, q2⟩
        cases t with
        | zero =>
          rw [rowS_len, hlen] at q3
          exact q3
        | succ t => simp -implicitDefEqProofs only [List.getD_cons_succ, List.getD_nil]; exact RepS.any
      · simp at hr
    · simp at hr
  · simp at hr
theorem join_sound {N : Env} : DSound Tryd.prog N (fun g a b => if g = F.strings_Join then joinT a b else none) := by
  intro g args boxes r hr hh hf
  replace hr : (if g = F.strings_Join then joinT args boxes else none) = some r := hr
  split at hr
  · rename_i hg
    subst hg
    unfold joinT at hr
    split at hr
    · rename_i c es sep
      split at hr
      · rename_i hn
        simp -implicitDefEqProofs only [Option.some.injEq] at hr
        subst hr
        obtain ⟨hes, hlx, hlj⟩ := hn.choose_spec
        generalize hn.choose = xs at hes hlx hlj
        subst hes
        refine ⟨rfl, rfl, fun cs hcs => by simp at hcs, join_fn, fun w F1 Ow bm vals hI => ?_⟩
        have e1 := str_at (hI.slot 1)
        have hv := vals2 rfl hI.len
        have h0 : RepL w F1 N (Leaf.sl c (rowS xs) : Leaf false) (vals.getD 0 undef) := by have := hI.slot 0; simpa [RepS, RepF] using this
        obtain ⟨A, cap, z, vs, e0, hcap, hez, hvl, hcell, hrr⟩ := repL_sl h0
        rw [e0, e1] at hv
        subst hv
        rw [rowS_len] at hcap hcell ⊢
        cases xs with
        | nil =>
          refine (Tryd.strings_Join_none A cap sep w).mono fun e w' ⟨he, hw⟩ => ?_
          have hb : Below w.heap.size w w' := by rw [hw]; exact Below.refl _ _
          exact ⟨_, F1, Ow, he, below_inv hI hb (RepL.str _), below_far hI hb⟩
        | cons x xs =>
          obtain ⟨bk, o, rfl, _, _, _, hc2⟩ := hcell (by simp)
          have hcells : ∀ (j : Nat) y, (x :: xs)[j]? = some y → w.cell? ⟨bk, o + j, none⟩ = some (.string y) := fun j y hy => by
            have hfl : (rowS (x :: xs)).flatten[j]? = some (.str y) := by rw [rowS_flat, List.getElem?_map, hy]; rfl
            have hjl : j < vs.length := by rw [hrr.1]; exact (List.getElem?_eq_some_iff.1 hfl).1
            have hvj : vs[j]? = some vs[j] := List.getElem?_eq_getElem hjl
            have hR := hrr.2 j _ _ hfl hvj
            have : vs[j] = .string y := by generalize vs[j] = u at hR; cases hR; rfl
            rw [this] at hvj
            exact hc2 j _ hvj
          have hbk : bk < w.heap.size := by
            have := hcells 0 x rfl
            unfold World.cell? at this
            split at this
            · rename_i hb; exact (Array.getElem?_eq_some_iff.1 hb).1
            · simp at this
          refine (Tryd.strings_Join bk o cap (x :: xs) sep w hcells hbk hlx hcap hlj).mono fun e w' ⟨he, hb⟩ => ?_
          exact ⟨_, F1, Ow, he, below_inv hI hb (RepL.str _), below_far hI hb⟩
      · simp at hr
    · simp at hr
  · simp at hr
theorem told_sound {N : Env} {mx : Int} (hK : N.K = KOf mx) : TSound Tryd.prog N told := by
  intro f t ht
  unfold told at ht
  split at ht
  · rename_i hff
    subst hff
    simp -implicitDefEqProofs only [Option.some.injEq] at ht
    subst ht
    exact split_sound hK
  · split at ht
    · rename_i _ hff
      subst hff
      simp -implicitDefEqProofs only [Option.some.injEq] at ht
      subst ht
      exact join_sound
    · simp at ht
end Go.Vs
end
section
set_option linter.unusedVariables false
namespace Go.Vs
def key (e : El) : List UInt8 := (strAt e 0).toList
theorem leT {a b c : List UInt8} (h : a ≤ b) (k : b ≤ c) : a ≤ c := List.le_trans h k
theorem leR (a : List UInt8) : a ≤ a := List.le_refl a
theorem leN {a b : List UInt8} (h : ¬ a ≤ b) : b ≤ a := (List.le_total a b).resolve_left h
theorem leA {a b : List UInt8} (h : a ≤ b) (k : b ≤ a) : a = b := List.le_antisymm h k
theorem ltI {a b : List UInt8} : ¬ a < b ↔ b ≤ a := List.not_lt
def Rising (l : List El) : Prop := l.Pairwise fun a b => key a ≤ key b
def push (out : List El) (x : El) : List El := if (out.getLast?.map key) = some (key x) then out else out ++ [x]
theorem push_mem {out : List El} {x : El} {s : List UInt8} : (∃ e ∈ push out x, key e = s) ↔ (∃ e ∈ out, key e = s) ∨ key x = s := by
  unfold push
  split
  · rename_i h
    rw [Option.map_eq_some_iff] at h
    obtain ⟨l, hl, hk⟩ := h
    constructor
    · exact .inl
    · rintro (h | h)
      · exact h
      · exact ⟨l, List.mem_of_getLast? hl, hk.trans h⟩
  · constructor
    · rintro ⟨e, he, hs⟩
      rcases List.mem_append.1 he with he | he
      · exact .inl ⟨e, he, hs⟩
      · rw [List.mem_singleton.1 he] at hs; exact .inr hs
    · rintro (⟨e, he, hs⟩ | h)
      · exact ⟨e, List.mem_append_left _ he, hs⟩
      · exact ⟨x, by simp, h⟩
theorem push_sub {out : List El} {x e : El} (h : e ∈ push out x) : e ∈ out ∨ e = x := by
  unfold push at h
  split at h
  · exact .inl h
  · rcases List.mem_append.1 h with h | h
    · exact .inl h
    · exact .inr (List.mem_singleton.1 h)
theorem push_len (out : List El) (x : El) : (push out x).length ≤ out.length + 1 := by unfold push; split <;> simp
theorem push_rising {out : List El} {x : El} (h : Rising out) (hx : ∀ o ∈ out, key o ≤ key x) : Rising (push out x) := by
  unfold push
  split
  · exact h
  · exact List.pairwise_append.2 ⟨h, by simp, fun a ha b hb => by rw [List.mem_singleton.1 hb]; exact hx a ha⟩
def fin (xs ys out : List El) : List El := match xs, ys with
  | [], [] => out
  | x :: xs, [] => fin xs [] (push out x)
  | [], y :: ys => fin [] ys (push out y)
  | x :: xs, y :: ys => if key x ≤ key y then fin xs (y :: ys) (push out x) else fin (x :: xs) ys (push out y)
termination_by xs.length + ys.length
structure Joins (xs ys out r : List El) : Prop where
  up : Rising r
  mem : ∀ s, (∃ e ∈ r, key e = s) ↔ (∃ e ∈ out, key e = s) ∨ (∃ e ∈ xs, key e = s) ∨ ∃ e ∈ ys, key e = s
  len : r.length ≤ out.length + xs.length + ys.length
  sub : ∀ e ∈ r, e ∈ out ∨ e ∈ xs ∨ e ∈ ys
theorem fin_joins : ∀ (n : Nat) (xs ys out : List El), xs.length + ys.length = n → Rising xs → Rising ys → Rising out → (∀ o ∈ out, ∀ x ∈ xs, key o ≤ key x) → (∀ o ∈ out, ∀ y ∈ ys, key o ≤ key y) → Joins xs ys out (fin xs ys out) := by
  intro n
  induction n using Nat.strongRecOn with
  | ind n ih =>
    intro xs ys out hn hx hy ho h1 h2
    match xs, ys with
    | [], [] => unfold fin; exact ⟨ho, fun s => by simp, by simp, fun e he => .inl he⟩
    | x :: xs, [] =>
      unfold fin
      have hx' := List.pairwise_cons.1 hx
      have j := ih (xs.length + 0) (by simp at hn; omega) xs [] (push out x) rfl hx'.2 hy (push_rising ho fun o h => h1 o h x (by simp)) (fun o h z hz => by
        rcases push_sub h with h | rfl
        · exact h1 o h z (by simp [hz])
        · exact hx'.1 z hz) (fun o h z hz => by simp at hz)
      refine ⟨j.up, fun s => ?_, by have := j.len; have := push_len out x; simp at *; omega, fun e he => ?_⟩
      · rw [j.mem, push_mem]; simp [or_assoc]
      · rcases j.sub e he with h | h | h
        · rcases push_sub h with h | rfl
          · exact .inl h
          · exact .inr (.inl (by simp))
        · exact .inr (.inl (by simp [h]))
        · simp at h
    | [], y :: ys =>
      unfold fin
      have hy' := List.pairwise_cons.1 hy
      have j := ih (0 + ys.length) (by simp at hn; omega) [] ys (push out y) rfl hx hy'.2 (push_rising ho fun o h => h2 o h y (by simp)) (fun o h z hz => by simp at hz) (fun o h z hz => by
        rcases push_sub h with h | rfl
        · exact h2 o h z (by simp [hz])
        · exact hy'.1 z hz)
      refine ⟨j.up, fun s => ?_, by have := j.len; have := push_len out y; simp at *; omega, fun e he => ?_⟩
      · rw [j.mem, push_mem]; simp [or_assoc]
      · rcases j.sub e he with h | h | h
        · rcases push_sub h with h | rfl
          · exact .inl h
          · exact .inr (.inr (by simp))
        · simp at h
        · exact .inr (.inr (by simp [h]))
    | x :: xs, y :: ys =>
      have hx' := List.pairwise_cons.1 hx
      have hy' := List.pairwise_cons.1 hy
      unfold fin
      by_cases hc : key x ≤ key y
      · rw [if_pos hc]
        have j := ih (xs.length + (y :: ys).length) (by simp at hn ⊢; omega) xs (y :: ys) (push out x) rfl hx'.2 hy (push_rising ho fun o h => h1 o h x (by simp)) (fun o h z hz => by
          rcases push_sub h with h | rfl
          · exact h1 o h z (by simp [hz])
          · exact hx'.1 z hz) (fun o h z hz => by
          rcases push_sub h with h | rfl
          · exact h2 o h z hz
          · rcases List.mem_cons.1 hz with rfl | hz
            · exact hc
            · exact leT hc (hy'.1 z hz))
        refine ⟨j.up, fun s => ?_, by have := j.len; have := push_len out x; simp at *; omega, fun e he => ?_⟩
        · rw [j.mem, push_mem]; simp [or_assoc]
        · rcases j.sub e he with h | h | h
          · rcases push_sub h with h | rfl
            · exact .inl h
            · exact .inr (.inl (by simp))
          · exact .inr (.inl (by simp [h]))
          · exact .inr (.inr h)
      · rw [if_neg hc]
        have hc' := leN hc
        have j := ih ((x :: xs).length + ys.length) (by simp at hn ⊢; omega) (x :: xs) ys (push out y) rfl hx hy'.2 (push_rising ho fun o h => h2 o h y (by simp)) (fun o h z hz => by
          rcases push_sub h with h | rfl
          · exact h1 o h z hz
          · rcases List.mem_cons.1 hz with rfl | hz
            · exact hc'
            · exact leT hc' (hx'.1 z hz)) (fun o h z hz => by
          rcases push_sub h with h | rfl
          · exact h2 o h z (by simp [hz])
          · exact hy'.1 z hz)
        refine ⟨j.up, fun s => ?_, by have := j.len; have := push_len out y; simp at *; omega, fun e he => ?_⟩
        · rw [j.mem, push_mem]
          simp only [List.mem_cons, exists_eq_or_imp]
          constructor
          · rintro ((h | h) | h | h) <;> simp [h]
          · rintro (h | (h | h) | h | h) <;> simp [h]
        · rcases j.sub e he with h | h | h
          · rcases push_sub h with h | rfl
            · exact .inl h
            · exact .inr (.inr (by simp))
          · exact .inr (.inl h)
          · exact .inr (.inr (by simp [h]))
theorem halves {l : List El} (hr : Rising l) {s : List UInt8} {lo : Nat} (hlo : ∀ (j : Nat) (h : j < l.length), j < lo → key l[j] < s) (hhi : ∀ (j : Nat) (h : j < l.length), lo ≤ j → s ≤ key l[j]) :
    (∃ e ∈ l, key e = s) ↔ ∃ h : lo < l.length, key l[lo] = s := by
  constructor
  · rintro ⟨e, he, hs⟩
    obtain ⟨j, hj, rfl⟩ := List.getElem_of_mem he
    have hjl : lo ≤ j := by
      rcases Nat.lt_or_ge j lo with h | h
      · have := hlo j hj h
        rw [hs] at this
        exact absurd this (ltI.2 (leR s))
      · exact h
    have hlt : lo < l.length := Nat.lt_of_le_of_lt hjl hj
    refine ⟨hlt, leA ?_ (hhi lo hlt (Nat.le_refl _))⟩
    rw [← hs]
    rcases Nat.eq_or_lt_of_le hjl with h | h
    · subst h; exact leR _
    · exact (List.pairwise_iff_getElem.1 hr) lo j hlt hj h
  · rintro ⟨h, hs⟩; exact ⟨l[lo], List.getElem_mem h, hs⟩
theorem rising_at {l : List El} (hr : Rising l) {i j : Nat} (h : i ≤ j) (hj : j < l.length) : key l[i] ≤ key l[j] := by
  rcases Nat.eq_or_lt_of_le h with h | h
  · subst h; exact leR _
  · exact (List.pairwise_iff_getElem.1 hr) i j (by omega) hj h
end Go.Vs
end
section
set_option linter.unusedVariables false
namespace Go.Vs
mutual
def bdF (B : Nat) : Leaf false → Prop
  | .str s => s.size ≤ B
  | .sl _ es => es.length ≤ B ∧ bdE B es
  | _ => True
def bdL (B : Nat) : List (Leaf false) → Prop
  | [] => True
  | l :: r => bdF B l ∧ bdL B r
def bdE (B : Nat) : List (List (Leaf false)) → Prop
  | [] => True
  | e :: es => bdL B e ∧ bdE B es
end
theorem bdE_mem {B : Nat} : ∀ {es : List (List (Leaf false))}, bdE B es → ∀ e ∈ es, bdL B e
  | x :: r, h, e, he => by
    rw [bdE] at h
    rcases List.mem_cons.1 he with rfl | he
    · exact h.1
    · exact bdE_mem h.2 e he
mutual
theorem szF_bd {z B : Nat} (hB : (B : Int) ≤ cap) : ∀ (l : Leaf false) (n : Int), okF z l → 0 ≤ n → n ≤ B → 0 ≤ szF l n → bdF B l
  | .str s, n, ho, h0, hn, h => by
    have hm : maxLen = 9223372036854775807 := rfl
    simp only [okF] at ho
    simp only [szF, bdF, cap] at *
    rw [wrap64 (by omega) (by omega)] at h
    split at h <;> omega
  | .sl _ es, n, ho, h0, hn, h => by
    have hm : maxLen = 9223372036854775807 := rfl
    simp only [okF] at ho
    simp only [szF, bdF] at *
    rw [wrap64 (by simp only [cap] at hB; omega) (by simp only [cap] at hB; omega)] at h
    by_cases hl : n - (es.length : Int) < 0
    · simp [hl] at h
    · simp only [hl, if_false] at h
      exact ⟨by omega, szE_bd hB es _ ho.2 (by omega) (by omega) h⟩
  | .bool _, n, _, _, _, _ => by simp [bdF]
  | .int _ _, n, _, _, _, _ => by simp [bdF]
  | .unk, n, _, _, _, _ => by simp [bdF]
  | .nl _, n, _, _, _, _ => by simp [bdF]
theorem szL_bd {z B : Nat} (hB : (B : Int) ≤ cap) : ∀ (l : List (Leaf false)) (n : Int), okL z l → 0 ≤ n → n ≤ B → 0 ≤ szL l n → bdL B l
  | [], n, _, _, _, _ => by simp [bdL]
  | l :: r, n, ho, h0, hn, h => by
    simp only [okL] at ho
    simp only [szL, bdL] at *
    by_cases hl : szF l n < 0
    · simp [hl] at h
    · simp only [hl, if_false] at h
      have h1 := szF_t l n ho.1 h0 (by omega) (by omega)
      exact ⟨szF_bd hB l n ho.1 h0 hn (by omega), szL_bd hB r _ ho.2 (by omega) (by omega) h⟩
theorem szE_bd {z B : Nat} (hB : (B : Int) ≤ cap) : ∀ (l : List (List (Leaf false))) (n : Int), okE z l → 0 ≤ n → n ≤ B → 0 ≤ szE l n → bdE B l
  | [], n, _, _, _, _ => by simp [bdE]
  | e :: r, n, ho, h0, hn, h => by
    simp only [okE] at ho
    simp only [szE, bdE] at *
    by_cases hl : szL e n < 0
    · simp [hl] at h
    · simp only [hl, if_false] at h
      have h1 := szL_t e n ho.2.1 h0 (by omega) (by omega)
      exact ⟨szL_bd hB e n ho.2.1 h0 hn (by omega), szE_bd hB r _ ho.2.2 (by omega) (by omega) h⟩
end
end Go.Vs
end
section
set_option linter.unusedVariables false
namespace Go.Vs
abbrev nul : ByteArray := ByteArray.mk #[]
abbrev dot : ByteArray := ByteArray.mk #[46]
def noSl : Leaf false → Bool | .sl _ _ => false | .nl _ => false | _ => true
theorem reF_nosl {φ ψ : Fl false → Fl true} {l : Leaf false} (h : noSl l = true) : reF φ l = reF ψ l := by cases l <;> first | rfl | simp [noSl] at h
theorem reE_nosl {φ ψ : Fl false → Fl true} {l : List El} (h : ∀ e ∈ l, e.all noSl = true) : reE φ l = reE ψ l := by
  rw [reE_map, reE_map]
  refine List.map_congr_left fun e he => ?_
  rw [reL_map, reL_map]
  exact List.map_congr_left fun x hx => reF_nosl (List.all_eq_true.1 (h e he) x hx)
def idxP (p : El → Bool) : Int → List El → Int
  | _, [] => -1
  | i, e :: es => if p e = true then i else idxP p (i + 1) es
theorem idxP_lt (p : El → Bool) : ∀ (es : List El) (i : Int), 0 ≤ i → idxP p i es = -1 ∨ (i ≤ idxP p i es ∧ idxP p i es < i + es.length)
  | [], i, h => .inl rfl
  | e :: es, i, h => by
    unfold idxP
    split
    · right; simp; omega
    · rcases idxP_lt p es (i + 1) (by omega) with h1 | h1
      · exact .inl h1
      · right; simp only [List.length_cons]; push_cast; omega
theorem idxP_is (p : El → Bool) : ∀ (es : List El) (i j : Nat), idxP p (i : Int) es = (j : Int) → ∃ h : j - i < es.length, i ≤ j ∧ p es[j - i] = true
  | [], i, j, h => by simp [idxP] at h
  | e :: es, i, j, h => by
    unfold idxP at h
    split at h
    · rename_i hp
      have : i = j := by omega
      subst this
      refine ⟨by simp, Nat.le_refl _, ?_⟩
      simp only [Nat.sub_self, List.getElem_cons_zero]; exact hp
    · obtain ⟨h1, h2, h3⟩ := idxP_is p es (i + 1) j (by push_cast; exact h)
      have hj : j - i = (j - (i + 1)) + 1 := by omega
      refine ⟨by simp; omega, by omega, ?_⟩
      simp only [hj, List.getElem_cons_succ]
      exact h3
theorem idxP_get {p : El → Bool} {es : List El} (h : ¬ idxP p 0 es < 0) : ∃ (j : Nat) (hj : j < es.length), idxP p 0 es = (j : Int) ∧ p es[j] = true := by
  rcases idxP_lt p es 0 (by omega) with h1 | ⟨h1, h2⟩
  · omega
  · obtain ⟨j, hj⟩ : ∃ j : Nat, idxP p 0 es = (j : Int) := ⟨(idxP p 0 es).toNat, by omega⟩
    obtain ⟨a, _, b⟩ := idxP_is p es 0 j hj
    exact ⟨j, by simpa using a, hj, by simpa using b⟩
theorem idxP_any (p : El → Bool) : ∀ (es : List El) (i : Int), 0 ≤ i → decide (idxP p i es ≥ 0) = es.any p
  | [], i, h => by simp [idxP]
  | e :: es, i, h => by
    unfold idxP
    cases hp : p e with
    | true => simp [hp]; omega
    | false => simpa [hp] using idxP_any p es (i + 1) (by omega)
theorem idxP_neg (p : El → Bool) (es : List El) : decide (idxP p 0 es < 0) = !es.any p := by
  have := idxP_any p es 0 (by omega)
  rw [← this]
  by_cases h : idxP p 0 es < 0
  · simp [h]
  · simp [h]; omega
theorem idxP_congr {p q : El → Bool} : ∀ {es : List El} {i : Int}, (∀ e ∈ es, p e = q e) → idxP p i es = idxP q i es
  | [], i, h => rfl
  | e :: es, i, h => by
    unfold idxP
    rw [h e (by simp), idxP_congr (fun e he => h e (by simp [he]))]
abbrev at0 (s : ByteArray) (e : El) : Bool := (strAt e 0).toList == s.toList
abbrev at3 (s : ByteArray) (e : El) : Bool := (strAt e 3).toList == s.toList
theorem beq_sym (a b : List UInt8) : (a == b) = (b == a) := by rw [Bool.eq_iff_iff, beq_iff_eq, beq_iff_eq]; exact eq_comm
section
variable {β : Type} {es : List El}
theorem find_loop {p : El → Bool} {A : Int → Option β} {yes : Int → Option β} {no : Option β} (hend : A es.length = no)
    (hstep : ∀ (i : Nat) (hi : i < es.length), A i = branch (p es[i]) (yes i) (A ((i + 1 : Nat) : Int))) :
    ∀ i : Nat, i ≤ es.length → A i = if idxP p i (es.drop i) < 0 then no else yes (idxP p i (es.drop i)) := by
  refine upto_ind ?_ ?_
  · rw [hend]; simp [idxP]
  · intro i hi ih
    rw [hstep i hi, drop_at hi, ih, branch_ite, show idxP p (i : Int) (es[i] :: es.drop (i + 1)) = if p es[i] = true then (i : Int) else idxP p (i + 1) (es.drop (i + 1)) from rfl]
    by_cases hp : p es[i] = true
    · rw [if_pos hp, if_pos hp, if_neg (by omega)]
    · rw [if_neg hp, if_neg hp]; push_cast; rfl
theorem find_loop0 {p : El → Bool} {A : Int → Option β} {yes : Int → Option β} {no : Option β} (hend : A es.length = no)
    (hstep : ∀ (i : Nat) (hi : i < es.length), A i = branch (p es[i]) (yes i) (A ((i + 1 : Nat) : Int))) :
    A 0 = if idxP p 0 es < 0 then no else yes (idxP p 0 es) := by
  have := find_loop hend hstep 0 (Nat.zero_le _)
  simpa using this
theorem find_int {p : El → Bool} {A : Int → Ret false} {bs : List (List (SV false))} (hend : A es.length = some (vint (-1), bs))
    (hstep : ∀ (i : Nat) (hi : i < es.length), A i = branch (p es[i]) (some (vint i, bs)) (A ((i + 1 : Nat) : Int))) : A 0 = some (vint (idxP p 0 es), bs) := by
  rw [find_loop0 (yes := fun i => some (vint i, bs)) hend hstep]
  split
  · rename_i h
    rcases idxP_lt p es 0 (by omega) with h1 | h1
    · rw [h1]
    · omega
  · rfl
theorem any_bool {p : El → Bool} {A : Int → Ret false} {bs : List (List (SV false))} (hend : A es.length = some (vbool false, bs))
    (hstep : ∀ (i : Nat) (hi : i < es.length), A i = branch (p es[i]) (some (vbool true, bs)) (A ((i + 1 : Nat) : Int))) : A 0 = some (vbool (es.any p), bs) := by
  rw [show A 0 = _ from (by
    have h := find_loop0 (yes := fun _ => some (vbool true, bs)) hend hstep
    exact h), ← idxP_any p es 0 (by omega)]
  by_cases hc : idxP p 0 es < 0
  · rw [if_pos hc]; simp; omega
  · rw [if_neg hc]; simp; omega
theorem any_loop {p : El → Bool} {A : Int → Option β} {yes no : Option β} (hend : A es.length = no)
    (hstep : ∀ (i : Nat) (hi : i < es.length), A i = branch (p es[i]) yes (A ((i + 1 : Nat) : Int))) :
    A 0 = if es.any p = true then yes else no := by
  have h := find_loop0 (yes := fun _ => yes) hend hstep
  rw [h, ← idxP_any p es 0 (by omega)]
  by_cases hc : idxP p 0 es < 0
  · rw [if_pos hc, if_neg (by simp; omega)]
  · rw [if_neg hc, if_pos (by simp; omega)]
def flatI (g : Nat → El → List El) : Nat → List El → List El
  | _, [] => []
  | i, e :: r => g i e ++ flatI g (i + 1) r
theorem flatI_const (g : El → List El) : ∀ (l : List El) (i : Nat), flatI (fun _ => g) i l = l.flatMap g
  | [], _ => rfl
  | e :: r, i => by rw [flatI, flatI_const g r, List.flatMap_cons]
theorem flatI_congr {g h : Nat → El → List El} : ∀ {l : List El} {i : Nat}, (∀ (j : Nat) (hj : j < l.length), g (i + j) l[j] = h (i + j) l[j]) → flatI g i l = flatI h i l
  | [], _, _ => rfl
  | e :: r, i, hh => by
    rw [flatI, flatI, flatI_congr (l := r) (i := i + 1) (fun j hj => by have := hh (j + 1) (by simpa using hj); simpa [Nat.add_assoc, Nat.add_comm 1 j] using this)]
    have := hh 0 (by simp)
    simp at this
    rw [this]
theorem flatI_len {g : Nat → El → List El} {c : Nat} : ∀ (l : List El) (i : Nat), (∀ (j : Nat) (hj : j < l.length), (g (i + j) l[j]).length ≤ c) → (flatI g i l).length ≤ l.length * c
  | [], _, _ => by simp [flatI]
  | e :: r, i, h => by
    have h0 := h 0 (by simp)
    have h1 := flatI_len (g := g) (c := c) r (i + 1) (fun j hj => by have := h (j + 1) (by simpa using hj); simpa [Nat.add_assoc, Nat.add_comm 1 j] using this)
    simp at h0
    rw [flatI, List.length_append, List.length_cons, Nat.add_mul]; omega
theorem flatI_mem {g : Nat → El → List El} {x : El} : ∀ (l : List El) (i : Nat), x ∈ flatI g i l → ∃ (j : Nat) (hj : j < l.length), x ∈ g (i + j) l[j]
  | [], _, h => by simp [flatI] at h
  | e :: r, i, h => by
    rw [flatI] at h
    rcases List.mem_append.1 h with h | h
    · exact ⟨0, by simp, by simpa using h⟩
    · obtain ⟨j, hj, hx⟩ := flatI_mem r (i + 1) h
      exact ⟨j + 1, by simpa using hj, by simpa [Nat.add_assoc, Nat.add_comm 1 j] using hx⟩
theorem app_loop {g : Nat → El → List El} {A : List El → Int → Option β} {fin : List El → Option β} {c N : Nat} (hg : ∀ (j : Nat) (hj : j < es.length), (g j es[j]).length ≤ c)
    (hend : ∀ out, out.length ≤ N → A out es.length = fin out)
    (hstep : ∀ (i : Nat) (hi : i < es.length) (out : List El), out.length + c ≤ N → A out i = A (out ++ g i es[i]) ((i + 1 : Nat) : Int)) :
    ∀ i : Nat, i ≤ es.length → ∀ out : List El, out.length + (es.length - i) * c ≤ N → A out i = fin (out ++ flatI g i (es.drop i)) := by
  refine upto_ind ?_ ?_
  · intro out ho; rw [hend out (by simpa using ho)]; simp [flatI]
  · intro i hi ih out ho
    have e1 : (es.length - i) * c = (es.length - (i + 1)) * c + c := by rw [show es.length - i = (es.length - (i + 1)) + 1 by omega, Nat.add_mul, Nat.one_mul]
    rw [hstep i hi out (by omega), ih _ (by have := hg i hi; rw [List.length_append]; omega), drop_at hi, flatI, List.append_assoc]
theorem app_loop0 {g : Nat → El → List El} {A : List El → Int → Option β} {fin : List El → Option β} {c N : Nat} (hg : ∀ (j : Nat) (hj : j < es.length), (g j es[j]).length ≤ c)
    (hend : ∀ out, out.length ≤ N → A out es.length = fin out)
    (hstep : ∀ (i : Nat) (hi : i < es.length) (out : List El), out.length + c ≤ N → A out i = A (out ++ g i es[i]) ((i + 1 : Nat) : Int))
    {out : List El} (ho : out.length + es.length * c ≤ N) : A out 0 = fin (out ++ flatI g 0 es) := by
  have := app_loop hg hend hstep 0 (Nat.zero_le _) out (by simpa using ho)
  simpa using this
theorem app_loop1 {g : Nat → El → List El} {A : List El → Int → Option β} {fin : List El → Option β} {c N : Nat} (hg : ∀ (j : Nat) (hj : j < es.length), (g j es[j]).length ≤ c)
    (hend : ∀ out, out.length ≤ N → A out es.length = fin out)
    (hstep : ∀ (i : Nat) (hi : i < es.length) (out : List El), out.length + c ≤ N → A out i = A (out ++ g i es[i]) ((i + 1 : Nat) : Int))
    (ho : es.length * c ≤ N) : A [] 0 = fin (flatI g 0 es) :=
  app_loop0 hg hend hstep (out := []) (by simpa using ho)
end
def ifP (q : Bool) (x : El) : List El := if q = true then [x] else []
theorem ifP_len (q : Bool) (x : El) : (ifP q x).length ≤ 1 := by unfold ifP; split <;> simp
theorem ifP_mem {q : Bool} {x y : El} (h : y ∈ ifP q x) : q = true ∧ y = x := by unfold ifP at h; split at h <;> simp_all
@[simp] theorem ifP_true (x : El) : ifP true x = [x] := rfl
@[simp] theorem ifP_false (x : El) : ifP false x = [] := rfl
theorem room {n k z : Nat} (h : n + k ≤ 1000000000000) (hz : z ≤ 100) : decide ((n + k) * z ≤ maxBytes) = true := by
  have hb : maxBytes = 140737488355328 := rfl
  rw [decide_eq_true_eq]
  calc (n + k) * z ≤ 1000000000000 * 100 := Nat.mul_le_mul h hz
    _ ≤ maxBytes := by rw [hb]; decide
end Go.Vs
end
section
open Go Go.Vs Go.Proofs
set_option linter.unusedVariables false
set_option linter.unusedSimpArgs false
namespace Go.Vs
noncomputable abbrev Dn : Oracle false := den Go.Proofs.Tryd.prog told Hs
theorem den_of {f : FuncId} {a : List (SV false)} {b : List (List (SV false))} {r : SV false × List (List (SV false))} (h : run2V Go.Proofs.Tryd.prog Dn Hs limR f a b = some r) (hf : told f = none := by rfl) : Dn f a b = some r :=
  den_fast hf h
end Go.Vs
end
section
open Go Go.Vs Go.Proofs
set_option linter.unusedVariables false
set_option linter.unusedSimpArgs false
namespace Go.Vs
def keep : FuncId → Bool := fun _ => false
noncomputable abbrev Dd : Oracle true := den Go.Proofs.Tryd.prog (liftT Dn keep) Hs
theorem dd_of {f : FuncId} {a : List (SV true)} {b : List (List (SV true))} {r : SV true × List (List (SV true))} (hk : keep f = true) (h : run2V Go.Proofs.Tryd.prog Dd Hs limR f a b = some r) : Dd f a b = some r :=
  den_fast (by simp only [liftT, hk]) h
theorem dd_told {f : FuncId} (hk : keep f = false) {a : List (SV true)} {b : List (List (SV true))} {a' : List (SV false)} {b' : List (List (SV false))} {r' : SV false × List (List (SV false))} {r : SV true × List (List (SV true))}
    (h : Dn f a' b' = some r') (ha : a.map (reS er) = a') (hb : b.map (List.map (reS er)) = b') (hr : (reS li r'.1, r'.2.map (List.map (reS li))) = r) : Dd f a b = some r := lift_told hk h ha hb hr
theorem sizeT3 : sizeT Tryd.prog 3 = some 1 := by kernel_rfl
theorem sizeT4 : sizeT Tryd.prog 4 = some 1 := by kernel_rfl
theorem sizeT9 : sizeT Tryd.prog 9 = some 1 := by kernel_rfl
end Go.Vs
end
section
open Go Go.Vs Go.Proofs
set_option linter.unusedVariables false
set_option linter.unusedSimpArgs false
namespace Go.Vs
theorem wrap_le {x : Int} (h : 0 ≤ x) : IntKind.i64.wrap x ≤ x := by
  have e : IntKind.i64.wrap x = if x % 18446744073709551616 ≥ 9223372036854775808 then x % 18446744073709551616 - 18446744073709551616 else x % 18446744073709551616 := by
    simp [IntKind.wrap, IntKind.signed, IntKind.bits]
  rw [e]
  split <;> omega
theorem markText_from : ∀ (n : Nat) (i0 : Int) (s3 : ByteArray), i0 < 10 ^ n → s3.size + n + 1 ≤ 140737488355328 → ∃ s : ByteArray, laws_markText_A Dn (laws_markText_0 i0 s3) = some (.leaf (.str s), [])
  | 0, i0, s3, h, hs => by
    have h0 : ¬ i0 > 0 := by simp at h; omega
    rw [laws_markText_0_eq]
    have h1 : (ByteArray.mk #[109]).size + s3.size ≤ 140737488355328 := by have : (ByteArray.mk #[109]).size = 1 := rfl; omega
    simp only [h0, decide_false, branch_false, h1, decide_true, guarded_true]
    exact ⟨_, rfl⟩
  | n + 1, i0, s3, h, hs => by
    rw [laws_markText_0_eq]
    by_cases h0 : i0 > 0
    · have hz : ∀ x : UInt8, (ByteArray.mk #[x]).size = 1 := fun _ => rfl
      have h2 : IntKind.i64.wrap (i0.tdiv 10) < 10 ^ n := by
        have h3 : 0 ≤ i0.tdiv 10 := Int.tdiv_nonneg (by omega) (by omega)
        have h4 := wrap_le h3
        have h5 : i0.tdiv 10 < 10 ^ n := by
          rw [Int.tdiv_eq_ediv_of_nonneg (by omega)]
          rw [Int.pow_succ] at h
          omega
        omega
      simp only [h0, decide_true, branch_true, List.map_cons, List.map_nil, hz, show 1 + s3.size ≤ 140737488355328 by omega, guarded_true]
      exact markText_from n _ _ h2 (by rw [ByteArray.size_append, hz]; omega)
    · have h1 : (ByteArray.mk #[109]).size + s3.size ≤ 140737488355328 := by have : (ByteArray.mk #[109]).size = 1 := rfl; omega
      simp only [h0, decide_false, branch_false, h1, decide_true, guarded_true]
      exact ⟨_, rfl⟩
theorem markText_ex (k : Int) : ∃ s : ByteArray, Dn F.laws_markText [vint k] [] = some (.leaf (.str s), []) := by
  have key : ∃ s : ByteArray, run2V Go.Proofs.Tryd.prog Dn Hs limR F.laws_markText [vint k] [] = some (.leaf (.str s), []) := by
    rw [run_laws_markText]
    by_cases h : k ≤ 0
    · simp only [h, decide_true, branch_true]; exact ⟨_, rfl⟩
    · obtain ⟨n, hn⟩ : ∃ n : Nat, k < 10 ^ n ∧ n ≤ k.toNat := ⟨k.toNat, by
        have : (k.toNat : Int) < 10 ^ k.toNat := by exact_mod_cast (Nat.lt_pow_self (by omega) : k.toNat < 10 ^ k.toNat)
        omega, Nat.le_refl _⟩
      simp only [h, decide_false, branch_false]
      rw [laws_markText_0_eq]
      have hz : ∀ x : UInt8, (ByteArray.mk #[x]).size = 1 := fun _ => rfl
      have h0 : k > 0 := by omega
      have he : (ByteArray.mk #[]).size = 0 := rfl
      simp only [h0, decide_true, branch_true, List.map_cons, List.map_nil, hz, he, show 1 + 0 ≤ 140737488355328 by omega, guarded_true]
      refine markText_from 19 _ _ ?_ (by rw [ByteArray.size_append, hz, he]; omega)
      have e : ∀ x : Int, IntKind.i64.wrap x < 10 ^ 19 := fun x => by
        have e : IntKind.i64.wrap x = if x % 18446744073709551616 ≥ 9223372036854775808 then x % 18446744073709551616 - 18446744073709551616 else x % 18446744073709551616 := by
          simp [IntKind.wrap, IntKind.signed, IntKind.bits]
        rw [e]
        split <;> omega
      exact e _
  obtain ⟨s, hs⟩ := key
  exact ⟨s, den_of hs⟩
noncomputable def mtx (k : Int) : ByteArray := Classical.choose (markText_ex k)
theorem d_markText (k : Int) : Dn F.laws_markText [vint k] [] = some (.leaf (.str (mtx k)), []) := Classical.choose_spec (markText_ex k)
end Go.Vs
end
section
open Go Go.Vs Go.Proofs
set_option linter.unusedVariables false
set_option linter.unusedSimpArgs false
namespace Go.Vs
abbrev IsString (e : List (Leaf false)) : Prop := IsStr e
theorem IsStr.nosl {e : El} (h : IsStr e) : e.all noSl = true := by obtain ⟨s, rfl, _⟩ := h; rfl
theorem laws_eqStringS_from {es : List (List (Leaf false))} (hl : es.length ≤ maxLen) (hq : ∀ e ∈ es, IsStr e) : ∀ i : Nat, i ≤ es.length →
    laws_eqStringS_A Dn (laws_eqStringS_0 es es i) = some (vbool true, []) := by
  refine upto_ind ?_ ?_
  · rw [laws_eqStringS_0_eq]; simp
  · intro i hi ih
    obtain ⟨s, he, hs⟩ := hq _ (List.getElem_mem hi)
    rw [laws_eqStringS_0_eq]
    simp only [Int.ofNat_lt, hi, decide_true, branch_true, Int.natCast_nonneg, Bool.and_true, Int.toNat_natCast, guarded_true, wrap_upL (Nat.lt_of_lt_of_le hi hl), sized_all (fun e he => (hq e he).len), getD_lt hi]
    rw [he]
    simp only [atK_zero, strK_str, beq_self_eq_true, Bool.not_true, branch_false]
    exact ih
theorem d_laws_eqStringS {es : List (List (Leaf false))} (hl : es.length ≤ maxLen) (hq : ∀ e ∈ es, IsStr e) : Dn F.laws_eqStringS [vsl es, vsl es] [] = some (vbool true, []) := by
  refine den_of ?_
  rw [run_laws_eqStringS]
  have := laws_eqStringS_from hl hq 0 (Nat.zero_le _)
  simpa using this
noncomputable def mkString (k : Int) : List (Leaf false) := [.str (mtx k)]
def nextString (k : Int) : Int := IntKind.i64.wrap (k + 1)
noncomputable def rowString : Nat → Int → List (List (Leaf false))
  | 0, _ => []
  | n + 1, k => mkString k :: rowString n (nextString k)
def endString : Nat → Int → Int
  | 0, k => k
  | n + 1, k => endString n (nextString k)
theorem endString_succ : ∀ (n : Nat) (k : Int), endString (n + 1) k = nextString (endString n k)
  | 0, _ => rfl
  | n + 1, k => endString_succ n (nextString k)
theorem rowString_length : ∀ (n : Nat) (k : Int), (rowString n k).length = n
  | 0, _ => rfl
  | n + 1, k => by rw [rowString, List.length_cons, rowString_length n]
theorem rowString_all : ∀ (n : Nat) (k : Int), ∀ e ∈ rowString n k, e.length = 1
  | 0, _, e, h => by simp [rowString] at h
  | n + 1, k, e, h => by
    rcases List.mem_cons.1 h with rfl | h
    · rfl
    · exact rowString_all n _ e h
theorem rowString_get : ∀ (n : Nat) (k : Int) (i : Nat) (h : i < (rowString n k).length), (rowString n k)[i] = mkString (endString i k)
  | 0, _, i, h => by simp [rowString] at h
  | n + 1, k, 0, h => rfl
  | n + 1, k, i + 1, h => rowString_get n (nextString k) i (by simpa [rowString] using h)
theorem laws_markStringS_from {n : Nat} {k : Int} (hl : n ≤ maxLen) : ∀ i : Nat, i ≤ n → ∀ z : List (SV false), z.all SV.flat = true → (n - i) * 1 ≤ z.length →
    laws_markStringS_r0_A Dn (laws_markStringS_r0_0 n (endString i k) i (rowAt (rowString n k) i z)) = some (vint (endString n k), [rowAt (rowString n k) n (z.drop ((n - i) * 1))]) := by
  have hN := rowString_length n k
  have hall := rowString_all n k
  refine upto_ind ?_ ?_
  · intro z hz hzl
    rw [laws_markStringS_r0_0_eq]
    have hf := rowAt_flat (l := rowString n k) (i := n) hz
    simp [hf]
  · intro i hi ih z hz hzl
    have hlen := rowAt_len (z := z) hall (i := i) (by omega)
    have hp := putAt_row (z := z) hall (i := i) (by omega)
    rw [rowString_get] at hp
    simp only [mkString, List.map_cons, List.map_nil] at hp
    have hd : (n - i) * 1 = (n - (i + 1)) * 1 + 1 := by omega
    rw [laws_markStringS_r0_0_eq]
    simp only [Int.ofNat_lt, hi, decide_true, branch_true, Int.natCast_nonneg, Bool.and_true, guarded_true, wrap_upL (Nat.lt_of_lt_of_le hi hl), Nat.zero_add, Int.toNat_natCast, d_markText, Option.bind_some, svLeafK_leaf, strK_str]
    have b0 : i * 1 + 1 ≤ (rowAt (rowString n k) i z).length := by rw [hlen]; omega
    simp only [b0, decide_true, guarded_true]
    rw [hp]
    have hz2 : (z.drop 1).all SV.flat = true := List.all_eq_true.2 fun x hx => List.all_eq_true.1 hz x (List.mem_of_mem_drop hx)
    have := ih (z.drop 1) hz2 (by rw [List.length_drop]; omega)
    rw [endString_succ] at this
    simp only [nextString] at this
    rw [this, List.drop_drop, hd, Nat.add_comm 1]
theorem d_laws_markStringS_r {n : Nat} {k : Int} (hl : n ≤ maxLen) {z : List (SV false)} (hz : z.all SV.flat = true) (hzl : n * 1 ≤ z.length) :
    Dn F.laws_markStringS [.bsl 0 1 0 n, vint k] [z] = some (vint (endString n k), [rowAt (rowString n k) n (z.drop (n * 1))]) := by
  refine den_of ?_
  rw [run_laws_markStringS_r0]
  have := laws_markStringS_from (n := n) (k := k) hl 0 (Nat.zero_le _) z hz (by simpa using hzl)
  simpa [rowAt, endString] using this
theorem laws_heldStringS_from {n : Nat} {k : Int} (hl : n ≤ maxLen) {z : List (SV false)} (hz : z.all SV.flat = true) : ∀ i : Nat, i ≤ n →
    laws_heldStringS_r0_A Dn (laws_heldStringS_r0_0 n (endString i k) i (rowAt (rowString n k) n z)) = some (vint (endString n k), [rowAt (rowString n k) n z]) := by
  have hN := rowString_length n k
  have hall := rowString_all n k
  have hf := rowAt_flat (l := rowString n k) (i := n) hz
  refine upto_ind ?_ ?_
  · rw [laws_heldStringS_r0_0_eq]
    simp [hf]
  · intro i hi ih
    have hi' : i < (rowString n k).length := by omega
    rw [endString_succ] at ih
    simp only [nextString] at ih
    rw [laws_heldStringS_r0_0_eq]
    have get : ∀ (o p : Nat) (ho : o < 1) (hp : p = i * 1 + o) (kk : SV false → Res), atSV (rowAt (rowString n k) n z) p kk = kk (.leaf ((mkString (endString i k))[o]'ho)) := fun o p ho hp kk => by
      have := atSV_row (r := z) hall hi' ho hp kk
      rw [hN] at this
      rw [this]
      simp only [rowString_get]
      try rfl
    simp only [Int.ofNat_lt, hi, decide_true, branch_true, Int.natCast_nonneg, Bool.and_true, guarded_true, wrap_upL (Nat.lt_of_lt_of_le hi hl), Nat.zero_add, Int.toNat_natCast]
    rw [get 0 _ (by omega) (by omega)]
    simp only [mkString, List.getElem_cons_zero, SV.drop, svLeafK_leaf, strK_str, d_markText, Option.bind_some, beq_self_eq_true, Bool.not_true, branch_false]
    exact ih
theorem d_laws_heldStringS_r {n : Nat} {k : Int} (hl : n ≤ maxLen) {z : List (SV false)} (hz : z.all SV.flat = true) :
    Dn F.laws_heldStringS [.bsl 0 1 0 n, vint k] [rowAt (rowString n k) n z] = some (vint (endString n k), [rowAt (rowString n k) n z]) := by
  refine den_of ?_
  rw [run_laws_heldStringS_r0]
  have := laws_heldStringS_from (n := n) (k := k) hl hz 0 (Nat.zero_le _)
  simpa [endString] using this
theorem d_laws_markStringS_nil (k : Int) : Dn F.laws_markStringS [vsl [], vint k] [] = some (vint k, []) := by
  refine den_of ?_
  rw [run_laws_markStringS, laws_markStringS_0_eq]
  simp
theorem d_laws_heldStringS_nil (k : Int) : Dn F.laws_heldStringS [vsl [], vint k] [] = some (vint k, []) := by
  refine den_of ?_
  rw [run_laws_heldStringS, laws_heldStringS_0_eq]
  simp
end Go.Vs
end
section
open Go Go.Vs Go.Proofs
set_option linter.unusedVariables false
set_option linter.unusedSimpArgs false
namespace Go.Vs
def brk : List UInt8 → List UInt8 × List (List UInt8)
  | [] => ([], [])
  | c :: r => if c = 10 then ([], (brk r).1 :: (brk r).2) else (c :: (brk r).1, (brk r).2)
def linesL (s : List UInt8) : List (List UInt8) := (brk s).1 :: (brk s).2
theorem splitK_lines : ∀ s : List UInt8, Lib.splitK [10] 0 (Lib.count s [10]) s = linesL s
  | [] => rfl
  | c :: r => by
    have ih := splitK_lines r
    by_cases hc : c = 10
    · subst hc
      have hi : Lib.index (10 :: r) [10] = ((0 : Nat) : Int) := by rw [Lib.index_one]; rfl
      have hk := Lib.count_hit (by simp) hi
      simp -implicitDefEqProofs only [List.length_cons, List.length_nil, Nat.zero_add, List.drop_succ_cons, List.drop_zero] at hk
      rw [hk, Nat.add_comm 1, Lib.splitK, if_neg (by rw [hi]; decide), hi]
      simp -implicitDefEqProofs only [Int.toNat_natCast, Nat.zero_add, Nat.add_zero, List.take_zero, List.length_cons, List.length_nil, List.drop_succ_cons, List.drop_zero]
      rw [ih]
      simp [linesL, brk]
    · have hb : (c == 10) = false := by simpa using hc
      have hi : Lib.index (c :: r) [10] = if Lib.index r [10] == -1 then -1 else Lib.index r [10] + 1 := by
        rw [Lib.index_one, Lib.index_one, Lib.indexByte, hb]; rfl
      by_cases hr : Lib.index r [10] = -1
      · have h1 : Lib.index (c :: r) [10] = -1 := by rw [hi, hr]; rfl
        rw [Lib.count_miss hr] at ih
        rw [Lib.count_miss h1]
        simp -implicitDefEqProofs only [Lib.splitK, linesL] at ih ⊢
        rw [brk, if_neg hc]
        have h2 := List.cons.inj ih
        rw [← h2.1, ← h2.2]
      · have hge := Lib.indexByte_ge r 10
        rw [← Lib.index_one] at hge
        obtain ⟨i, hj⟩ : ∃ i : Nat, Lib.index r [10] = (i : Int) := ⟨(Lib.index r [10]).toNat, by omega⟩
        have h1 : Lib.index (c :: r) [10] = ((i + 1 : Nat) : Int) := by
          rw [hi, hj, if_neg (by simp)]; omega
        have k1 := Lib.count_hit (by simp) hj
        have k2 := Lib.count_hit (by simp) h1
        rw [k1, Nat.add_comm 1, Lib.splitK, if_neg (by rw [hj]; simp), hj] at ih
        rw [k2, Nat.add_comm 1, Lib.splitK, if_neg (by rw [h1]; simp; omega), h1]
        simp -implicitDefEqProofs only [Int.toNat_natCast, Nat.add_zero, List.length_cons, List.length_nil, Nat.zero_add, linesL, List.take_succ_cons, List.drop_succ_cons] at ih ⊢
        rw [brk, if_neg hc]
        have h2 := List.cons.inj ih
        simp only
        rw [← h2.1, ← h2.2]
def sB (l : List UInt8) : ByteArray := ⟨l.toArray⟩
theorem sB_data (l : List UInt8) : (sB l).data.toList = l := rfl
theorem sB_eq (s : ByteArray) : sB s.data.toList = s := rfl
theorem sB_size (l : List UInt8) : (sB l).size = l.length := rfl
theorem split_is (s : ByteArray) : Lib.splitB (ByteArray.mk #[10]) 0 (Lib.countB s (ByteArray.mk #[10])) s = (linesL s.data.toList).map sB := by
  have h := Lib.splitB_data (ByteArray.mk #[10]) 0 (Lib.countB s (ByteArray.mk #[10])) s
  have h2 : Lib.splitK [10] 0 (Lib.count s.data.toList [10]) s.data.toList = linesL s.data.toList := splitK_lines _
  rw [show (ByteArray.mk #[10]).data.toList = [10] from rfl] at h
  rw [show Lib.countB s (ByteArray.mk #[10]) = Lib.count s.data.toList [10] from rfl] at h ⊢
  rw [← h2, ← h, List.map_map]
  exact (List.map_id _).symm.trans (List.map_congr_left fun x _ => rfl)
def jn (own : List (List UInt8)) : List UInt8 := Lib.join own [10]
theorem jn_nil : jn [] = [] := rfl
theorem jn_snoc (own : List (List UInt8)) (l : List UInt8) : jn (own ++ [l]) = if own = [] then l else jn own ++ 10 :: l := by
  cases own with
  | nil => simp [jn, Lib.join_one]
  | cons x r =>
    rw [if_neg (by simp)]
    unfold jn
    rw [List.cons_append, Lib.join_cons, Lib.join_cons]
    simp [Lib.joinTail]
def isSep (l : List UInt8) : Bool := (sB l).toList == (ByteArray.mk #[61, 61]).toList
def parts : List (List UInt8) → List (List UInt8) → List (List UInt8)
  | own, [] => [jn own]
  | own, l :: r => if isSep l then jn own :: parts [] r else parts (own ++ [l]) r
theorem parts_len : ∀ (r own : List (List UInt8)), (parts own r).length ≤ r.length + 1
  | [], own => by simp [parts]
  | l :: r, own => by
    unfold parts
    split
    · have := parts_len r []; simp -implicitDefEqProofs only [List.length_cons]; omega
    · have := parts_len r (own ++ [l]); simp -implicitDefEqProofs only [List.length_cons]; omega
def tot : List (List UInt8) → Nat
  | [] => 0
  | l :: r => l.length + 1 + tot r
theorem tot_lines : ∀ s : List UInt8, tot (linesL s) = s.length + 1
  | [] => rfl
  | c :: r => by
    have ih := tot_lines r
    unfold linesL at ih ⊢
    unfold brk
    split
    · simp -implicitDefEqProofs only [tot, List.length_nil, List.length_cons] at ih ⊢; omega
    · simp -implicitDefEqProofs only [tot, List.length_cons] at ih ⊢; omega
theorem tot_len : ∀ r : List (List UInt8), r.length ≤ tot r
  | [] => Nat.le_refl _
  | l :: r => by have := tot_len r; simp -implicitDefEqProofs only [tot, List.length_cons]; omega
theorem jn_len (own : List (List UInt8)) : (jn own).length ≤ tot own := by
  cases own with
  | nil => exact Nat.le_refl _
  | cons x r =>
    unfold jn
    rw [Lib.join_cons, List.length_append, Lib.joinTail_length]
    have : ∀ r : List (List UInt8), 1 * r.length + Lib.lens r ≤ tot r := by
      intro r
      induction r with
      | nil => simp [Lib.lens, tot]
      | cons y r ih => simp -implicitDefEqProofs only [Lib.lens, List.map_cons, List.sum_cons, tot, List.length_cons] at ih ⊢; omega
    have h := this r
    simp -implicitDefEqProofs only [tot, List.length_cons, List.length_nil] at h ⊢
    omega
theorem tot_app (a b : List (List UInt8)) : tot (a ++ b) = tot a + tot b := by
  induction a with
  | nil => simp [tot]
  | cons x a ih => simp -implicitDefEqProofs only [List.cons_append, tot, ih]; omega
theorem parts_size : ∀ (r own : List (List UInt8)), ∀ p ∈ parts own r, p.length ≤ tot own + tot r
  | [], own, p, h => by
    simp -implicitDefEqProofs only [parts, List.mem_singleton] at h
    subst h
    have := jn_len own; omega
  | l :: r, own, p, h => by
    unfold parts at h
    split at h
    · rcases List.mem_cons.1 h with rfl | h
      · have := jn_len own; omega
      · have := parts_size r [] p h; simp -implicitDefEqProofs only [tot] at this ⊢; omega
    · have := parts_size r (own ++ [l]) p h
      rw [tot_app] at this
      simp -implicitDefEqProofs only [tot] at this ⊢; omega
def partsP (s : ByteArray) : List El := rowS ((parts [] (linesL s.data.toList)).map sB)
theorem partsP_len {s : ByteArray} (h : s.size ≤ 1048576) : (partsP s).length ≤ 1048578 := by
  unfold partsP
  rw [rowS_len, List.length_map]
  have h1 := parts_len (linesL s.data.toList) []
  have h2 := tot_len (linesL s.data.toList)
  rw [tot_lines] at h2
  have : s.data.toList.length = s.size := rfl
  omega
theorem partsP_all {s : ByteArray} (h : s.size ≤ 1048576) : ∀ e ∈ partsP s, IsStr e := fun e he => by
  obtain ⟨x, hx, rfl⟩ := List.mem_map.1 he
  obtain ⟨p, hp, rfl⟩ := List.mem_map.1 hx
  refine ⟨_, rfl, ?_⟩
  have h1 := parts_size _ _ p hp
  rw [tot_lines] at h1
  simp -implicitDefEqProofs only [tot] at h1
  have h2 : s.data.toList.length = s.size := rfl
  rw [sB_size]
  have : maxLen = 9223372036854775807 := rfl
  omega
end Go.Vs
end
section
open Go Go.Vs Go.Proofs
set_option linter.unusedVariables false
set_option linter.unusedSimpArgs false
namespace Go.Vs
theorem byteOf_u8 (b : UInt8) : byteOf (m := false) [.int .u8 (b.toNat : Int)] = b := by
  simp [byteOf]
def rowB (l : List UInt8) : List El := l.map fun b => [.int .u8 (b.toNat : Int)]
theorem rowB_app (a b : List UInt8) : rowB (a ++ b) = rowB a ++ rowB b := by simp [rowB]
theorem rowB_text (l : List UInt8) : ByteArray.mk ((rowB l).map (byteOf (m := false))).toArray = sB l := by
  unfold rowB sB
  rw [List.map_map]
  congr 1
  congr 1
  exact (List.map_congr_left fun b _ => byteOf_u8 b).trans (List.map_id _)
theorem rowB_byte (l : List UInt8) : (rowB l).all isByte = true := by
  rw [List.all_eq_true]; intro e he
  obtain ⟨b, _, rfl⟩ := List.mem_map.1 he
  rfl
theorem rowB_len (l : List UInt8) : (rowB l).length = l.length := by simp [rowB]
theorem rowS_app (a b : List ByteArray) : rowS (a ++ b) = rowS a ++ rowS b := by simp [rowS]
theorem rowS_get {xs : List ByteArray} {i : Nat} (h : i < xs.length) : (rowS xs).getD i [] = [.str xs[i]] := by
  simp [rowS, List.getD, h]
theorem rowS_sized (xs : List ByteArray) : sized 1 (rowS xs) = true := sized_all (rowS_one xs)
theorem room16 {n : Nat} (h : n ≤ 3000000) : decide ((n + 1) * 16 ≤ maxBytes) = true := room (k := 1) (by omega) (by decide)
theorem d_join {own : List (List UInt8)} (h : tot own ≤ 3000000) : Dn F.strings_Join [vsl (rowS (own.map sB)), .leaf (.str (ByteArray.mk #[10]))] [] = some (.leaf (.str (sB (jn own))), []) := by
  refine den_told (T := told) (t := joinT) (by unfold told; rw [if_neg (by decide)]; exact if_pos rfl) ?_
  unfold joinT
  have e1 : (own.map sB).map (·.data.toList) = own := by rw [List.map_map]; exact (List.map_congr_left fun x _ => rfl).trans (List.map_id _)
  have hex : ∃ xs, rowS (own.map sB) = rowS xs ∧ xs.length ≤ 140737488355328 ∧ (Lib.join (xs.map (·.data.toList)) (ByteArray.mk #[10]).data.toList).length ≤ 140737488355328 := by
    refine ⟨own.map sB, rfl, ?_, ?_⟩
    · rw [List.length_map]; have := tot_len own; omega
    · rw [e1, show (ByteArray.mk #[10]).data.toList = [10] from rfl]; have := jn_len own; unfold jn at this; omega
  refine Eq.trans (dif_pos hex) ?_
  have hinj : ∀ a b : List ByteArray, rowS a = rowS b → a = b := by
    intro a
    induction a with
    | nil => intro b h; cases b with
      | nil => rfl
      | cons y b => simp [rowS] at h
    | cons x a ih => intro b h; cases b with
      | nil => simp [rowS] at h
      | cons y b =>
        simp -implicitDefEqProofs only [rowS, List.map_cons, List.cons.injEq, Leaf.str.injEq, and_true] at h
        rw [h.1, ih b h.2]
  have hc := hinj _ _ hex.choose_spec.1
  rw [← hc, e1]
  rfl
theorem d_split {s : ByteArray} (h : s.size ≤ 1048576) : Dn F.strings_Split [.leaf (.str s), .leaf (.str (ByteArray.mk #[10]))] [] = some (.own (some T.string) (rowS ((linesL s.data.toList).map sB)), []) := by
  refine den_told (T := told) (t := splitT) (by unfold told; exact if_pos rfl) ?_
  unfold splitT
  refine Eq.trans (if_pos ⟨h, by decide⟩) ?_
  rw [split_is]
theorem impl_from {ls : List (List UInt8)} (ht : tot ls ≤ 2000000) : ∀ i : Nat, i ≤ ls.length → ∀ (out own : List (List UInt8)), out.length ≤ i → tot own + tot (ls.drop i) ≤ 2000000 →
    impl_PartsBy_A Dn (impl_PartsBy_0 (rowS (out.map sB)) (rowS (own.map sB)) (rowS (ls.map sB)) ls.length i) = some (.own (some T.string) (rowS ((out ++ parts own (ls.drop i)).map sB)), []) := by
  have hll := tot_len ls
  have hm : (2000000 : Nat) < maxLen := by decide
  refine upto_ind ?_ ?_
  · intro out own ho hw
    have hd := d_join (own := own) (by omega)
    have hr : decide (((rowS (out.map sB)).length + 1) * 16 ≤ maxBytes) = true := room16 (by rw [rowS_len, List.length_map]; omega)
    rw [impl_PartsBy_0_eq]
    simp -implicitDefEqProofs only [show ¬ ((ls.length : Int) < ls.length) from by omega, decide_false, branch_false, hd, rStr_eq, hr, Bool.and_self, guarded_true, List.drop_length, parts, List.map_append, rowS_app]
    rfl
  · intro i hi ih out own ho hw
    have hi' : i < (ls.map sB).length := by simpa using hi
    have hr : decide (((rowS (out.map sB)).length + 1) * 16 ≤ maxBytes) = true := room16 (by rw [rowS_len, List.length_map]; omega)
    have hdr := drop_at hi
    rw [hdr] at hw ⊢
    simp -implicitDefEqProofs only [tot] at hw
    have hw1 := tot_len own
    have hr2 : decide (((rowS (own.map sB)).length + 1) * 16 ≤ maxBytes) = true := room16 (by rw [rowS_len, List.length_map]; omega)
    have hd := d_join (own := own) (by omega)
    rw [impl_PartsBy_0_eq]
    simp -implicitDefEqProofs only [Int.ofNat_lt, hi, rowS_len, hi', decide_true, branch_true, Int.natCast_nonneg, Bool.and_true, Int.toNat_natCast, rowS_sized, guarded_true, rowS_get hi', List.getElem_map, aStr_z]
    unfold parts
    by_cases hs : isSep ls[i] = true
    · have hs2 : ((sB ls[i]).toList == (ByteArray.mk #[61, 61]).toList) = true := hs
      rw [if_pos hs]
      simp -implicitDefEqProofs only [rowS_len] at hr
      simp -implicitDefEqProofs only [hs2, branch_true, hd, rStr_eq, hr, Bool.and_self, guarded_true, impl_PartsBy_1_eq, wrap_upL (show i < maxLen by omega)]
      have := ih (out ++ [jn own]) [] (by simp; omega) (by simp -implicitDefEqProofs only [tot]; omega)
      simp -implicitDefEqProofs only [List.map_append, rowS_app, List.map_cons, List.map_nil] at this
      rw [show rowS [sB (jn own)] = [[.str (sB (jn own))]] from rfl, show rowS ([] : List ByteArray) = [] from rfl] at this
      rw [this]
      simp [rowS_app, rowS]
    · have hs1 : isSep ls[i] = false := by simpa using hs
      have hs2 : ((sB ls[i]).toList == (ByteArray.mk #[61, 61]).toList) = false := hs1
      rw [hs1]
      simp -implicitDefEqProofs only [rowS_len] at hr2
      simp -implicitDefEqProofs only [hs2, branch_false, hr2, Bool.and_self, guarded_true, impl_PartsBy_1_eq, wrap_upL (show i < maxLen by omega), Bool.false_eq_true, if_false]
      have := ih out (own ++ [ls[i]]) (by omega) (by rw [tot_app]; simp -implicitDefEqProofs only [tot]; omega)
      simp -implicitDefEqProofs only [List.map_append, rowS_app, List.map_cons, List.map_nil] at this
      rw [show rowS [sB ls[i]] = [[.str (sB ls[i])]] from rfl] at this
      rw [this]
      simp [rowS_app, rowS]
theorem d_impl_PartsBy {s : ByteArray} (h : s.size ≤ 1048576) : Dn F.impl_PartsBy [.leaf (.str s)] [] = some (.own (some T.string) (partsP s), []) := by
  refine den_of ?_
  have ht := tot_lines s.data.toList
  have hs : s.data.toList.length = s.size := rfl
  rw [run_impl_PartsBy, d_split h, rOwn_eq, rowS_len, List.length_map]
  have := impl_from (ls := linesL s.data.toList) (by omega) 0 (Nat.zero_le _) [] [] (Nat.le_refl _) (by simp -implicitDefEqProofs only [tot, List.drop_zero]; omega)
  exact this
theorem spec_from {ls : List (List UInt8)} (ht : tot ls ≤ 2000000) : ∀ i : Nat, i ≤ ls.length → ∀ (out own : List (List UInt8)), out.length ≤ i → tot own + tot (ls.drop i) ≤ 2000000 →
    spec_PartsBy_A Dn (spec_PartsBy_0 (rowS (out.map sB)) (rowB (jn own)) own.isEmpty (rowS (ls.map sB)) i) = some (.own (some T.string) (rowS ((out ++ parts own (ls.drop i)).map sB)), []) := by
  have hll := tot_len ls
  have hm : (2000000 : Nat) < maxLen := by decide
  have hb : maxBytes = 140737488355328 := rfl
  refine upto_ind ?_ ?_
  · intro out own ho hw
    have hr : decide (((rowS (out.map sB)).length + 1) * 16 ≤ maxBytes) = true := room16 (by rw [rowS_len, List.length_map]; omega)
    rw [spec_PartsBy_0_eq]
    simp -implicitDefEqProofs only [rowS_len] at hr
    simp -implicitDefEqProofs only [rowS_len, List.length_map, show ¬ ((ls.length : Int) < ls.length) from by omega, decide_false, branch_false, rowB_byte, guarded_true, rowB_text, List.drop_length, parts, List.map_append, rowS_app]
    simp -implicitDefEqProofs only [List.length_map] at hr
    simp -implicitDefEqProofs only [hr, Bool.and_self, guarded_true]
    rfl
  · intro i hi ih out own ho hw
    have hi' : i < (ls.map sB).length := by simpa using hi
    have hr : decide (((rowS (out.map sB)).length + 1) * 16 ≤ maxBytes) = true := room16 (by rw [rowS_len, List.length_map]; omega)
    have hdr := drop_at hi
    rw [hdr] at hw ⊢
    simp -implicitDefEqProofs only [tot] at hw
    have hj := jn_len own
    rw [spec_PartsBy_0_eq]
    simp -implicitDefEqProofs only [Int.ofNat_lt, hi, rowS_len, hi', decide_true, branch_true, Int.natCast_nonneg, Bool.and_true, Int.toNat_natCast, rowS_sized, guarded_true, rowS_get hi', List.getElem_map, aStr_z]
    unfold parts
    by_cases hs : isSep ls[i] = true
    · have hs2 : ((sB ls[i]).toList == (ByteArray.mk #[61, 61]).toList) = true := hs
      rw [if_pos hs]
      simp -implicitDefEqProofs only [rowS_len] at hr
      simp -implicitDefEqProofs only [hs2, branch_true, rowB_byte, guarded_true, rowB_text, hr, Bool.and_self, spec_PartsBy_1_eq, wrap_upL (show i < maxLen by omega)]
      have := ih (out ++ [jn own]) [] (by simp; omega) (by simp -implicitDefEqProofs only [tot]; omega)
      simp -implicitDefEqProofs only [List.map_append, rowS_app, List.map_cons, List.map_nil] at this
      rw [show rowS [sB (jn own)] = [[.str (sB (jn own))]] from rfl, show rowB (jn []) = [] from rfl, show ([] : List (List UInt8)).isEmpty = true from rfl] at this
      rw [this]
      simp [rowS_app, rowS]
    · have hs1 : isSep ls[i] = false := by simpa using hs
      have hs2 : ((sB ls[i]).toList == (ByteArray.mk #[61, 61]).toList) = false := hs1
      have next : ∀ p : List UInt8, p ++ ls[i] = jn (own ++ [ls[i]]) → p.length ≤ tot own + 1 → spec_PartsBy_A Dn (spec_PartsBy_2 (rowS (out.map sB)) (rowB p) (rowS (ls.map sB)) i) = some (.own (some T.string) (rowS ((out ++ parts (own ++ [ls[i]]) (ls.drop (i + 1))).map sB)), []) := by
        intro p hp hpl
        rw [spec_PartsBy_2_eq]
        simp -implicitDefEqProofs only [Int.ofNat_lt, hi, rowS_len, hi', decide_true, Int.natCast_nonneg, Bool.and_true, Int.toNat_natCast, rowS_sized, guarded_true, rowS_get hi', List.getElem_map, aStr_z, rowB_len, sB_size]
        rw [show decide (p.length + ls[i].length ≤ maxBytes) = true from decide_eq_true (by omega), guarded_true, spec_PartsBy_1_eq, wrap_upL (show i < maxLen by omega)]
        have := ih out (own ++ [ls[i]]) (by omega) (by rw [tot_app]; simp -implicitDefEqProofs only [tot]; omega)
        rw [← hp, rowB_app, show (own ++ [ls[i]]).isEmpty = false from by simp] at this
        exact this
      rw [hs1]
      simp -implicitDefEqProofs only [hs2, branch_false, Bool.false_eq_true, if_false]
      cases ho2 : own with
      | nil =>
        simp -implicitDefEqProofs only [List.isEmpty_nil, Bool.not_true, branch_false]
        have := next (jn []) (by rw [ho2, jn_snoc, if_pos rfl]; rfl) (by rw [jn_nil]; simp)
        rw [ho2] at this
        exact this
      | cons x r =>
        simp -implicitDefEqProofs only [List.isEmpty_cons, Bool.not_false, branch_true]
        have hr3 : decide (((rowB (jn (x :: r))).length + 1) * 1 ≤ maxBytes) = true := decide_eq_true (by rw [rowB_len]; rw [ho2] at hj hw; omega)
        simp -implicitDefEqProofs only [hr3, Bool.and_self, guarded_true]
        have := next (jn (x :: r) ++ [10]) (by rw [ho2, jn_snoc, if_neg (by simp)]; simp) (by rw [ho2] at hj ⊢; simp -implicitDefEqProofs only [List.length_append, List.length_cons, List.length_nil]; omega)
        rw [ho2, rowB_app] at this
        exact this
theorem extract_is (s : ByteArray) (a b : Nat) : s.extract a b = sB ((s.data.toList.drop a).take (b - a)) := by
  apply ByteArray.ext
  rw [ByteArray.data_extract]
  apply Array.ext'
  simp [sB, Array.toList_extract]
theorem lines_from {s : ByteArray} (h : s.size ≤ 1048576) : ∀ i : Nat, i ≤ s.size → ∀ (out : List (List UInt8)) (b : Nat), b ≤ i → out.length ≤ b →
    spec_l33Lines_A Dn (spec_l33Lines_0 s (rowS (out.map sB)) b i) = some (.own (some T.string) (rowS ((out ++ (((s.data.toList.drop b).take (i - b) ++ (brk (s.data.toList.drop i)).1) :: (brk (s.data.toList.drop i)).2)).map sB)), []) := by
  have hsz : s.data.toList.length = s.size := rfl
  have hm : (1048577 : Nat) < maxLen := by decide
  have cut : ∀ (i : Nat) (out : List (List UInt8)) (b : Nat), i ≤ s.size → b ≤ i → out.length ≤ b → spec_l33Lines_A Dn (spec_l33Lines_1 s (rowS (out.map sB)) b i true) = spec_l33Lines_A Dn (spec_l33Lines_0 s (rowS ((out ++ [(s.data.toList.drop b).take (i - b)]).map sB)) ((i + 1 : Nat) : Int) ((i + 1 : Nat) : Int)) := by
    intro i out b hi hb ho
    have hr : decide (((rowS (out.map sB)).length + 1) * 16 ≤ maxBytes) = true := room16 (by rw [rowS_len, List.length_map]; omega)
    rw [spec_l33Lines_1_eq]
    simp -implicitDefEqProofs only [branch_true, Int.natCast_nonneg, decide_true, Int.toNat_natCast, hb, hi, Bool.and_self, guarded_true, hr, spec_l33Lines_2_eq, wrap_upL (show i < maxLen by omega), extract_is]
    rw [List.map_append, rowS_app]
    rfl
  refine upto_ind ?_ ?_
  · intro out b hb ho
    have hd : s.data.toList.drop s.size = [] := by rw [← hsz]; exact List.drop_length
    rw [spec_l33Lines_0_eq]
    simp -implicitDefEqProofs only [Int.le_refl, decide_true, branch_true, beq_self_eq_true, hd, brk, List.append_nil]
    rw [show ((true == false) = false) from rfl, branch_false, cut _ _ _ (Nat.le_refl _) hb ho, spec_l33Lines_0_eq]
    simp -implicitDefEqProofs only [show ¬ (((s.size + 1 : Nat) : Int) ≤ s.size) from by omega, decide_false, branch_false]
  · intro i hi ih out b hb ho
    have hi' : i < s.data.toList.length := by omega
    have hget : s.data.toList.getD i 0 = s.data.toList[i] := by rw [List.getD_eq_getElem?_getD, List.getElem?_eq_getElem hi']; rfl
    have hne : ((i : Int) == (s.size : Int)) = false := by simp; omega
    rw [spec_l33Lines_0_eq, drop_at hi', brk]
    simp -implicitDefEqProofs only [show ((i : Int) ≤ s.size) from by omega, decide_true, branch_true, hne, beq_self_eq_true, Int.natCast_nonneg, Int.ofNat_lt, hi, Bool.and_self, guarded_true, Int.toNat_natCast, hget]
    by_cases hc : s.data.toList[i] = 10
    · have hc2 : ((s.data.toList[i].toNat : Int) == 10) = true := by rw [hc]; rfl
      rw [hc2, cut i out b (Nat.le_of_lt hi) hb ho, if_pos hc, ih _ (i + 1) (Nat.le_refl _) (by simp; omega)]
      simp
    · have hc2 : ((s.data.toList[i].toNat : Int) == 10) = false := by
        rw [beq_eq_false_iff_ne]
        intro he
        apply hc
        apply UInt8.toNat_inj.1
        show s.data.toList[i].toNat = 10
        omega
      rw [hc2, spec_l33Lines_1_eq, branch_false, spec_l33Lines_2_eq, wrap_upL (show i < maxLen by omega), if_neg hc, ih out b (by omega) ho]
      have e1 : (s.data.toList.drop b).take (i + 1 - b) = (s.data.toList.drop b).take (i - b) ++ [s.data.toList[i]] := by
        rw [show i + 1 - b = (i - b) + 1 by omega, List.take_succ_eq_append_getElem (by rw [List.length_drop]; omega), List.getElem_drop]
        congr 2
        congr 1
        omega
      rw [e1]
      simp
theorem d_spec_PartsBy {s : ByteArray} (h : s.size ≤ 1048576) : Dn F.spec_PartsBy [.leaf (.str s)] [] = some (.own (some T.string) (partsP s), []) := by
  refine den_of ?_
  have ht := tot_lines s.data.toList
  have hs : s.data.toList.length = s.size := rfl
  have hl : Dn F.spec_l33Lines [.leaf (.str s)] [] = some (.own (some T.string) (rowS ((linesL s.data.toList).map sB)), []) := by
    refine den_of ?_
    rw [run_spec_l33Lines]
    have := lines_from h 0 (Nat.zero_le _) [] 0 (Nat.le_refl _) (Nat.le_refl _)
    simp -implicitDefEqProofs only [List.map_nil, Nat.sub_self, List.take_zero, List.nil_append, List.drop_zero] at this
    exact this
  rw [run_spec_PartsBy, hl, rOwn_eq]
  have := spec_from (ls := linesL s.data.toList) (by omega) 0 (Nat.zero_le _) [] [] (Nat.le_refl _) (by simp -implicitDefEqProofs only [tot, List.drop_zero]; omega)
  exact this
end Go.Vs
end
section
namespace Go.Vs
mutual
theorem reF_er (c : Fl true) : ∀ l : Leaf false, reF er (reF (fl c) l) = l
  | .sl _ es => by rw [reF, reF, reE_er c es]; cases ‹Fl false›; rfl
  | .bool _ | .int _ _ | .str _ | .unk | .nl _ => by simp [reF]
theorem reL_er (c : Fl true) : ∀ l : List (Leaf false), reL er (reL (fl c) l) = l
  | [] => by rw [reL, reL]
  | l :: r => by rw [reL, reL, reF_er c l, reL_er c r]
theorem reE_er (c : Fl true) : ∀ l : List (List (Leaf false)), reE er (reE (fl c) l) = l
  | [] => by rw [reE, reE]
  | l :: r => by rw [reE, reE, reL_er c l, reE_er c r]
end
theorem reE_append {m m' : Bool} {φ : Fl m → Fl m'} (a b : List (List (Leaf m))) : reE φ (a ++ b) = reE φ a ++ reE φ b := by rw [reE_map, reE_map, reE_map, List.map_append]
theorem reS_sl (c : Fl true) (es : List (List (Leaf false))) : reS er (.leaf (.sl c (reE (fl c) es))) = vsl es := by
  simp only [reS, reF, reE_er]
theorem reS_agg (c : Fl true) (ls : List (Leaf false)) : reS er (.agg (reL (fl c) ls)) = .agg ls := by
  simp only [reS, reL_er]
end Go.Vs
end
section
open Go Go.Vs Go.Proofs
set_option linter.unusedVariables false
set_option linter.unusedSimpArgs false
set_option maxRecDepth 100000
namespace Go.Vs
theorem hP : Tryd.prog.follows .mixedOrders = true := by kernel_rfl
theorem hG : Tryd.prog.funcs.all (fun fn => !(fn.name == "runtime.NumGoroutine")) = true := by kernel_rfl
theorem dn_sound {N : Env} {mx : Int} (hN : N.K = KOf mx) : DSound Tryd.prog N Dn := den_sound hP hG (told_sound hN) Hs
theorem dd_sound {N : Env} {mx : Int} (hN : N.K = KOf mx) : DSound Tryd.prog N Dd := den_sound hP hG (liftT_sound (dn_sound hN) keep) Hs
section
variable {c : Fl true}
theorem reS_er_li {x : SV false} (h : x.flat = true) : reS er (reS li x) = x := by
  have e : ∀ es : List (List (Leaf false)), reE er (reE li es) = es := fun es => reE_er fOld es
  cases x <;> simp [SV.flat] at h <;> simp only [reS]
  · rw [show reF er (reF li _) = _ from reF_er fOld _]
  · rw [e]
  · rw [e]
  · rw [show reL er (reL li _) = _ from reL_er fOld _]
theorem map_er_li : ∀ {l : List (SV false)}, l.all SV.flat = true → (l.map (reS li)).map (reS er) = l
  | [], _ => rfl
  | x :: l, h => by
    rw [List.all_cons, Bool.and_eq_true] at h
    rw [List.map_cons, List.map_cons, reS_er_li h.1, map_er_li h.2]
theorem map_flat {l : List (SV false)} (h : l.all SV.flat = true) : (l.map (reS li)).all SV.flat = true := by
  rw [List.all_map]
  exact List.all_eq_true.2 fun x hx => reS_flat x (List.all_eq_true.1 h x hx)
noncomputable def marked (n k : Nat) : List (SV false) := rowAt (rowString n 1) n ((List.replicate k SV.any).drop (n * 1))
theorem any_flat (k : Nat) : (List.replicate k (SV.any (m := false))).all SV.flat = true := by
  rw [List.all_eq_true]; intro x hx; rw [List.eq_of_mem_replicate hx]; rfl
theorem drop_flat {l : List (SV false)} (h : l.all SV.flat = true) (n : Nat) : (l.drop n).all SV.flat = true :=
  List.all_eq_true.2 fun x hx => List.all_eq_true.1 h x (List.mem_of_mem_drop hx)
theorem marked_flat (n k : Nat) : (marked n k).all SV.flat = true := rowAt_flat (drop_flat (any_flat k) _)
theorem t_markStringS_r {n k : Nat} (hl : n ≤ maxLen) (hk : n * 1 ≤ k) : Dd F.laws_markStringS [.bsl 0 1 0 n, .leaf (.int .i64 1)] [List.replicate k .any] = some (.leaf (.int .i64 (endString n 1)), [(marked n k).map (reS li)]) :=
  dd_told rfl (d_laws_markStringS_r (k := 1) hl (any_flat k) (by rw [List.length_replicate]; exact hk)) rfl (by rw [List.map_cons, List.map_replicate]; rfl) rfl
theorem t_heldStringS_r {n k : Nat} (hl : n ≤ maxLen) : Dd F.laws_heldStringS [.bsl 0 1 0 n, .leaf (.int .i64 1)] [(marked n k).map (reS li)] = some (.leaf (.int .i64 (endString n 1)), [(marked n k).map (reS li)]) :=
  dd_told rfl (d_laws_heldStringS_r (k := 1) hl (drop_flat (any_flat k) _)) rfl (by rw [List.map_cons, map_er_li (marked_flat n k)]; rfl) rfl
theorem endString_le : ∀ (n : Nat) (k : Int), 0 ≤ k → k + n ≤ cap → 0 ≤ endString n k
  | 0, k, h, _ => h
  | n + 1, k, h, hc => by
    rw [endString]
    have e : nextString k = k + 1 := by
      unfold nextString
      simp only [cap] at hc
      rw [wrap64 (z := k + 1) (by omega) (by omega)]
    rw [e]
    exact endString_le n _ (by omega) (by omega)
end
end Go.Vs
end
section
open Go Go.Vs Go.Proofs
set_option linter.unusedVariables false
set_option linter.unusedSimpArgs false
set_option maxRecDepth 100000
namespace Go.Vs
noncomputable abbrev body : Code := bodyOf Tryd.prog F.laws_FnExactPartsBy
theorem hc0 : (fnOf Tryd.prog F.laws_FnExactPartsBy).body = some body := by kernel_rfl
theorem hfn : Tryd.prog.funcs[F.laws_FnExactPartsBy]? = some (fnOf Tryd.prog F.laws_FnExactPartsBy) := by kernel_rfl
theorem spA : spine (0 + (2 + 1)) body = true := by kernel_rfl
theorem spC : spine (3 + (1 + 1)) body = true := by kernel_rfl
theorem nlD : noLoop (sub body (way 5)) = true := by kernel_rfl
structure Fits (x0 : ByteArray) (w : List (List (Leaf false))) : Prop where
  wl : w.length ≤ maxLen
  wc : (w.length : Int) * 1 + 1 ≤ cap
  wq : ∀ e ∈ w, IsString e
  spc : Dd F.spec_PartsBy [.leaf (.str x0)] [] = some (.own (some T.string) (reE (fl fOld) w), [])
  imp : Dd F.impl_PartsBy [.leaf (.str x0)] [] = some (.own (some T.string) (reE (fl fNew) w), [])
section
variable {x0 : ByteArray} {w : List (List (Leaf false))} {mx : Int}
theorem fits (h : x0.size ≤ 1048576) : Fits x0 (partsP x0) := by
  have h1 := partsP_len h
  have h2 := partsP_all h
  have hm : maxLen = 9223372036854775807 := rfl
  refine ⟨by omega, by simp only [cap]; omega, h2, ?_, ?_⟩
  · exact dd_told rfl (d_spec_PartsBy h) rfl rfl rfl
  · rw [reE_nosl (φ := fl fNew) (ψ := fl fOld) fun e he => (h2 e he).nosl]
    exact dd_told rfl (d_impl_PartsBy h) rfl rfl rfl
theorem Fits.eqw (h : Fits x0 w) (c c' : Fl true) : Dd F.laws_eqStringS [.leaf (.sl c (reE (fl c) w)), .leaf (.sl c' (reE (fl c') w))] [] = some (.leaf (.bool true), []) :=
  dd_told rfl (d_laws_eqStringS h.wl h.wq) (by rw [List.map_cons, List.map_cons, reS_sl, reS_sl]; rfl) rfl rfl
theorem turn1_eq : Vs.turn φ1 (fun _ => false) [] ({ tmps := ((laws_FnExactPartsBy_s1 x0 fOld (reE (fl fOld) w)).tmps.set 3 (.own (some T.string) (reE (fl fOld) w))), boxes := (laws_FnExactPartsBy_s1 x0 fOld (reE (fl fOld) w)).boxes } : St true) = laws_FnExactPartsBy_s1 x0 (φ1 fNew) (tuE φ1 (fun _ => false) false (reE (fl fOld) w)) := by
  kernel_rfl
theorem turn2_eq : Vs.turn φ2 (fun _ => false) [] (laws_FnExactPartsBy_s1 x0 tA (reE (fl tA) w) : St true) = laws_FnExactPartsBy_s1 x0 (φ2 tA) (tuE φ2 (fun _ => false) false (reE (fl tA) w)) := by
  kernel_rfl
theorem turn3_eq : Vs.turn φ3 σ3 [] ({ tmps := (laws_FnExactPartsBy_s2 x0 tA (reE (fl tA) w) fNew (reE (fl fNew) w)).tmps.set 4 (.own (some T.string) (reE (fl fNew) w)), boxes := (laws_FnExactPartsBy_s2 x0 tA (reE (fl tA) w) fNew (reE (fl fNew) w)).boxes } : St true) = laws_FnExactPartsBy_s2 x0 (if σ3 tA then fSoft else φ3 tA) (tuE φ3 σ3 (σ3 tA) (reE (fl tA) w)) (if σ3 fNew then fSoft else φ3 fNew) (tuE φ3 σ3 (σ3 fNew) (reE (fl fNew) w)) := by
  kernel_rfl
theorem row_eq (n k : Nat) : rowSt (Vs.turn φ4 (fun _ => false) [4] (laws_FnExactPartsBy_s2 x0 tA (reE (fl tA) w) tG (reE (fl tG) w))) 4 1 n k = laws_FnExactPartsBy_s2r x0 (φ4 tA) (tuE φ4 (fun _ => false) false (reE (fl tA) w)) n (List.replicate k .any) := by
  kernel_rfl
theorem slots2 : slotsOk p2 (laws_FnExactPartsBy_s1 x0 tA (reE (fl tA) w) : St true).boxes [] 0 (laws_FnExactPartsBy_s1 x0 tA (reE (fl tA) w) : St true).tmps = true := by
  simp [slotsOk, slotOkB, slotOk, boxAt, asLeaves, asLeaf, laws_FnExactPartsBy_s1, allF, allL, isTQ, allE_re (p := p2) (c := tA) rfl, show p2 tA = true from rfl]
theorem slots3 : slotsOk p3 ({ tmps := (laws_FnExactPartsBy_s2 x0 tA (reE (fl tA) w) fNew (reE (fl fNew) w)).tmps.set 4 (.own (some T.string) (reE (fl fNew) w)), boxes := (laws_FnExactPartsBy_s2 x0 tA (reE (fl tA) w) fNew (reE (fl fNew) w)).boxes } : St true).boxes [] 0 ({ tmps := (laws_FnExactPartsBy_s2 x0 tA (reE (fl tA) w) fNew (reE (fl fNew) w)).tmps.set 4 (.own (some T.string) (reE (fl fNew) w)), boxes := (laws_FnExactPartsBy_s2 x0 tA (reE (fl tA) w) fNew (reE (fl fNew) w)).boxes } : St true).tmps = true := by
  simp [slotsOk, slotOkB, slotOk, boxAt, laws_FnExactPartsBy_s2, allF, allL, isTQ, Fl.new, allE_re (p := p3) (c := tA) rfl, allE_re (p := p3) (c := fNew) rfl, show p3 tA = true from rfl, show p3 fNew = true from rfl]
theorem slots4 : slotsOk p4 (laws_FnExactPartsBy_s2 x0 tA (reE (fl tA) w) tG (reE (fl tG) w)).boxes [4] 0 (laws_FnExactPartsBy_s2 x0 tA (reE (fl tA) w) tG (reE (fl tG) w)).tmps = true := by
  simp [slotsOk, slotOkB, slotOk, laws_FnExactPartsBy_s2, allF, allL, isTQ, allE_re (p := p4) (c := tA) rfl, show p4 tA = true from rfl]
theorem law_c4 (h : Fits x0 w) {W w' : World} {act : Act} {A B : Nat} {w0 : World} {F2 F3 : Fr} {hB0 : B ≤ w0.heap.size} {Fx : Fr} {Ow : Own} {bm : Nat → Nat} (hA : W.heap.size ≤ A) (hAB : A ≤ B) (hB : B ≤ w'.heap.size)
    (hK : KOk W (KOf mx)) (on : OnWay Tryd.prog (fnOf Tryd.prog F.laws_FnExactPartsBy) W (N3 w0 A B F2 F3 hB0 (KOf mx)) (laws_FnExactPartsBy_s2 x0 tA (reE (fl tA) w) tG (reE (fl tG) w)) act w' Fx Ow bm) :
    (sub body (way 5)).wp Tryd.prog (bodyPost Tryd.prog (fnOf Tryd.prog F.laws_FnExactPartsBy) (Good W)) act w' := by
  by_cases hw : w = []
  · have eqw0 := h.eqw
    have im0 := h.imp
    have mkn : ∀ (c : Fl true) (k : Int), Dd F.laws_markStringS [.leaf (.sl c []), .leaf (.int .i64 k)] [] = some (.leaf (.int .i64 k), []) := fun c k => dd_told rfl (d_laws_markStringS_nil k) (by simp [reS, reF, reE]) rfl rfl
    have hdn : ∀ (c : Fl true) (k : Int), Dd F.laws_heldStringS [.leaf (.sl c []), .leaf (.int .i64 k)] [] = some (.leaf (.int .i64 k), []) := fun c k => dd_told rfl (d_laws_heldStringS_nil k) (by simp [reS, reF, reE]) rfl rfl
    rw [hw] at on
    simp only [hw, reE] at eqw0 im0
    refine stretch_last (H := Hs) hP (dd_sound rfl) hfn hc0 spC nlD on fun J => ?_
    simp only [reE]
    rw [laws_FnExactPartsBy_c2]
    simp -implicitDefEqProofs only [mkn, hdn, Option.bind_some, svLeafK_leaf, svSlK_leaf, svOwnK_own, svAggK_agg, atK_zero, atK_succ, intK_int, strK_str, boolK_bool, slK_sl, List.length_cons, List.length_nil, beq_self_eq_true, guarded_true, im0, eqw0, show decide ((1 : Int) < 0) = false from rfl, branch_false, bne_self_eq_false, Bool.not_true, lastB_nil]
  · have hpos : 0 < w.length := List.length_pos_iff.2 hw
    have hez : ∀ e ∈ reE (fl tG) w, e.length = 1 := reE_all fun e he => (h.wq e he).len
    obtain ⟨k, F', Ow', bm', R, hk, on'⟩ := turn4 on hA hB hAB [4] (t := 4) (of_decide_eq_true (by kernel_rfl)) (of_decide_eq_true (by kernel_rfl)) (es := reE (fl tG) w) (z := 1) rfl (by rw [reE_length]; exact hpos) hez slots4 hK.lt
    rw [row_eq] at on'
    simp only [tuE_fl (φ := φ4) (σ := fun _ => false) (c := tA) rfl, show φ4 tA = tA from rfl, reE_length] at on'
    rw [reE_length] at hk
    refine stretch_last (H := Hs) hP (dd_sound rfl) hfn hc0 spC nlD on' fun J => ?_
    have hm := t_markStringS_r (k := k) h.wl hk
    have hd := t_heldStringS_r (n := w.length) (k := k) h.wl
    have hf1 : ([List.replicate k (SV.any (m := true))].all fun (x : List (SV true)) => x.all SV.flat) = true := by
      simp only [List.all_cons, List.all_nil, Bool.and_true]
      rw [List.all_eq_true]; intro x hx; rw [List.eq_of_mem_replicate hx]; rfl
    have hf2 : ([(marked w.length k).map (reS li)].all fun (x : List (SV true)) => x.all SV.flat) = true := by
      simp only [List.all_cons, List.all_nil, Bool.and_true]
      exact map_flat (marked_flat _ _)
    have he : ¬ endString w.length 1 < 0 := by
      have := endString_le w.length 1 (by omega) (by have := h.wc; simp only [cap] at *; omega)
      omega
    rw [laws_FnExactPartsBy_c2r]
    simp -implicitDefEqProofs only [hf1, hm, hd, Option.bind_some, svLeafK_leaf, svSlK_leaf, svOwnK_own, svAggK_agg, atK_zero, atK_succ, intK_int, strK_str, boolK_bool, slK_sl, List.length_cons, List.length_nil, beq_self_eq_true, guarded_true, headB_cons, lastB_nil, hf2, h.imp, h.eqw, he, decide_false, branch_false, bne_self_eq_false, Bool.not_true]
theorem law_c3 (h : Fits x0 w) {W w' : World} {act : Act} {A B : Nat} {F2 : Fr} {Fx : Fr} {Ow : Own} {bm : Nat → Nat} (hA : W.heap.size ≤ A) (hAB : A ≤ B) (hB : B ≤ w'.heap.size)
    (hK : KOk W (KOf mx)) (on : OnWay Tryd.prog (fnOf Tryd.prog F.laws_FnExactPartsBy) W (N2 A B F2 (KOf mx)) ({ tmps := (laws_FnExactPartsBy_s2 x0 tA (reE (fl tA) w) fNew (reE (fl fNew) w)).tmps.set 4 (.own (some T.string) (reE (fl fNew) w)), boxes := (laws_FnExactPartsBy_s2 x0 tA (reE (fl tA) w) fNew (reE (fl fNew) w)).boxes } : St true) act w' Fx Ow bm) :
    (sub body (way 5)).wp Tryd.prog (bodyPost Tryd.prog (fnOf Tryd.prog F.laws_FnExactPartsBy) (Good W)) act w' := by
  have on' := turn3 on hA hB hAB [] slots3 hK.lt
  rw [turn3_eq] at on'
  simp only [show σ3 tA = false from rfl, show σ3 fNew = false from rfl, tuE_fl (φ := φ3) (σ := σ3) (c := tA) rfl, tuE_fl (φ := φ3) (σ := σ3) (c := fNew) rfl, Bool.false_eq_true, if_false, if_true, show φ3 tA = tA from rfl, show φ3 fNew = tG from rfl] at on'
  exact law_c4 h hA hAB hB hK on'
theorem law_c2 (h : Fits x0 w) {W w' : World} {act : Act} {A : Nat} {Fx : Fr} {Ow : Own} {bm : Nat → Nat} (hA : W.heap.size ≤ A) (hB : A ≤ w'.heap.size)
    (hK : KOk W (KOf mx)) (on : OnWay Tryd.prog (fnOf Tryd.prog F.laws_FnExactPartsBy) W (N1 A (KOf mx)) (laws_FnExactPartsBy_s1 x0 tA (reE (fl tA) w) : St true) act w' Fx Ow bm) :
    (sub body (way 3)).wp Tryd.prog (bodyPost Tryd.prog (fnOf Tryd.prog F.laws_FnExactPartsBy) (Good W)) act w' := by
  have on' := turn2 on [] slots2
  rw [turn2_eq] at on'
  simp only [tuE_fl (φ := φ2) (σ := fun _ => false) (c := tA) rfl, show φ2 tA = tA from rfl] at on'
  refine stretch (H := Hs) (s1 := { tmps := (laws_FnExactPartsBy_s2 x0 tA (reE (fl tA) w) fNew (reE (fl fNew) w)).tmps.set 4 (.own (some T.string) (reE (fl fNew) w)), boxes := (laws_FnExactPartsBy_s2 x0 tA (reE (fl tA) w) fNew (reE (fl fNew) w)).boxes }) hP (dd_sound rfl) hfn hc0 spC on' (fun J => ?_) fun a' w2 F' Ow' bm' on2 far => ?_
  · rw [laws_FnExactPartsBy_c1]
    simp -implicitDefEqProofs only [h.imp, Option.bind_some, svLeafK_leaf, svSlK_leaf, svOwnK_own, svAggK_agg, atK_zero, atK_succ, intK_int, strK_str, boolK_bool, slK_sl, List.length_cons, List.length_nil, beq_self_eq_true, guarded_true, h.eqw, Bool.not_true, branch_false]
    rfl
  · exact law_c3 h hA hB far.size hK on2
theorem law_c0 {W : World} {act : Act} {Fx : Fr} {Ow : Own} {bm : Nat → Nat}
    (hK : KOk W (KOf mx)) (on : OnWay Tryd.prog (fnOf Tryd.prog F.laws_FnExactPartsBy) W (N0 W (KOf mx)) (laws_FnExactPartsBy_s0 x0) act W Fx Ow bm) :
    (sub body (way 0)).wp Tryd.prog (bodyPost Tryd.prog (fnOf Tryd.prog F.laws_FnExactPartsBy) (Good W)) act W := by
  by_cases hn0 : (x0.size : Int) > 1048576
  · refine stretch_left (H := Hs) hP (dd_sound rfl) hfn hc0 spA on fun J => ?_
    rw [laws_FnExactPartsBy_c0]
    simp -implicitDefEqProofs only [decide_eq_true hn0, branch_true, branch_false]
  · have h := fits (x0 := x0) (by omega)
    refine stretch (H := Hs) (s1 := { tmps := ((laws_FnExactPartsBy_s1 x0 fOld (reE (fl fOld) (partsP x0))).tmps.set 3 (.own (some T.string) (reE (fl fOld) (partsP x0)))), boxes := (laws_FnExactPartsBy_s1 x0 fOld (reE (fl fOld) (partsP x0))).boxes }) hP (dd_sound rfl) hfn hc0 spA on (fun J => ?_) fun a' w2 F' Ow' bm' on2 far => ?_
    · rw [laws_FnExactPartsBy_c0]
      simp -implicitDefEqProofs only [Option.bind_some, svLeafK_leaf, svSlK_leaf, svOwnK_own, svAggK_agg, atK_zero, atK_succ, intK_int, strK_str, boolK_bool, slK_sl, List.length_cons, List.length_nil, beq_self_eq_true, guarded_true, decide_eq_false hn0, branch_true, branch_false, h.spc]
      rfl
    · have on3 := turn1 (K := KOf mx) on2 (fun _ => rfl) []
      rw [turn1_eq] at on3
      simp only [tuE_fl (φ := φ1) (σ := fun _ => false) (c := fOld) rfl, show φ1 fOld = tA from rfl, show φ1 fNew = tA from rfl] at on3
      exact law_c2 h far.size (Nat.le_refl _) hK on3
end
end Go.Vs
end
section
namespace Go.Vs
variable {m : Bool} {P : Program} {c : Fl m}
theorem sh_bool {n : Nat} {t : TypeId} {ls : List (Leaf m)} (hu : P.underlying t = some .bool) (h : Shaped P c n t ls) : ∃ b, ls = [.bool b] := by
  cases n with
  | zero => exact h.elim
  | succ n => unfold Shaped at h; simp only [hu] at h; exact h
theorem sh_int {n : Nat} {t : TypeId} {k : IntKind} {ls : List (Leaf m)} (hu : P.underlying t = some (.int k)) (h : Shaped P c n t ls) : ∃ z, ls = [.int k z] := by
  cases n with
  | zero => exact h.elim
  | succ n =>
    unfold Shaped at h
    simp only [hu] at h
    obtain ⟨z, e, _⟩ := h
    exact ⟨z, e⟩
theorem sh_str {n : Nat} {t : TypeId} {ls : List (Leaf m)} (hu : P.underlying t = some .string) (h : Shaped P c n t ls) : ∃ s : ByteArray, ls = [.str s] ∧ s.size ≤ maxLen := by
  cases n with
  | zero => exact h.elim
  | succ n => unfold Shaped at h; simp only [hu] at h; exact h
theorem sh_sl {n : Nat} {t e : TypeId} {ls : List (Leaf m)} (hu : P.underlying t = some (.slice e)) (h : Shaped P c n t ls) : ∃ k es, n = k + 1 ∧ ls = [.sl c es] ∧ es.length ≤ maxLen ∧ ∀ x ∈ es, Shaped P c k e x := by
  cases n with
  | zero => exact h.elim
  | succ n =>
    unfold Shaped at h
    simp only [hu] at h
    obtain ⟨es, e1, e2, e3⟩ := h
    exact ⟨n, es, rfl, e1, e2, e3⟩
theorem sh_struct {n : Nat} {t : TypeId} {fs : Array Field} {ts : List TypeId} {ls : List (Leaf m)} (hu : P.underlying t = some (.struct fs)) (hts : fs.toList.map Field.type = ts) (h : Shaped P c n t ls) : ∃ k, n = k + 1 ∧ Parts (Shaped P c k) ts ls := by
  subst hts
  cases n with
  | zero => exact h.elim
  | succ n =>
    unfold Shaped at h
    simp only [hu] at h
    exact ⟨n, rfl, h⟩
end Go.Vs
end
section
set_option linter.unusedVariables false
namespace Go.Vs
theorem trod_iface {H : Type} {enc : TypeId × Value → H} {P : Program} {w : World} {base : Nat} {spare : Nat → Bool} {held : Bool} {fuel : Nat} {t : TypeId} {cs : List Value} {x : DataW H × List MemPlace} {ms : Array (String × TypeId)}
    (ht : P.underlying t = some (.interface ms)) (h : DataW.trod enc P w base spare held fuel t cs = some x) : cs = [.nilIface] ∨ ∃ u v, cs = [.iface u v] := by
  cases fuel with
  | zero => simp [DataW.trod] at h
  | succ n =>
    unfold DataW.trod at h
    rw [ht] at h
    split at h <;> simp_all
theorem laid_err {P : Program} {w : World} {n : String} {d : DataW Unit} {g t : Nat} {ms : Array (String × TypeId)} (hg : P.globalNamed n = some g) (ht : (P.globals[g]?).map (·.type) = some t) (hu : P.underlying t = some (.interface ms)) :
    ∀ {l : List (String × DataW Unit)} {ps : List MemPlace}, DataW.LaidVars P w l ps → (n, d) ∈ l → ∃ ev, w.cell? ⟨g, 0, none⟩ = some ev ∧ (ev = .nilIface ∨ ∃ te pe, ev = .iface te pe)
  | [], _, _, hm => by cases hm
  | (n', d') :: r, ps, h, hm => by
    obtain ⟨g', t', cs, fuel, p, q, hg', ht', hv, hd, hr, _⟩ := h
    rcases List.mem_cons.1 hm with e | hm
    · obtain ⟨rfl, rfl⟩ := Prod.mk.inj e
      obtain rfl := Option.some.inj (hg.symm.trans hg')
      obtain rfl := Option.some.inj (ht.symm.trans ht')
      have hc := World.var?_cell hg hv 0
      obtain ⟨l⟩ := cs
      rcases trod_iface hu hd with e | ⟨u, v, e⟩
      · simp at e; subst e
        exact ⟨_, hc, .inl rfl⟩
      · simp at e; subst e
        exact ⟨_, hc, .inr ⟨u, v, rfl⟩⟩
    · exact laid_err hg ht hu hr hm
end Go.Vs
end
