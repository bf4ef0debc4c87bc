/- What the program's functions compute, read off their text by the shadow runner (VsDat, CTa, CTm0, CTi, CTj, CTk); no condition. -/
import Derived.Laws.Strings
import Derived.Test.YtingdapimncjjaaVB5
section
/- Data of whatever type, as leaves: how much of it there is; how it is counted. -/
set_option linter.unusedVariables false
namespace Go.Vs
theorem wrap_upL {i : Nat} (h : i < maxLen) : IntKind.i64.wrap ((i : Int) + 1) = ((i + 1 : Nat) : Int) := by
  have hm : maxLen = 9223372036854775807 := rfl
  rw [wrap64 (by omega) (by omega)]; rfl
mutual
/-- What is left of a number of bytes; -1: they do not last. -/
def szF : Leaf false → Int → Int
  | .str s, n => if IntKind.i64.wrap (n - (s.size : Int)) < 0 then -1 else IntKind.i64.wrap (n - (s.size : Int))
  | .sl _ es, n => if IntKind.i64.wrap (n - (es.length : Int)) < 0 then -1 else szE es (IntKind.i64.wrap (n - (es.length : Int)))
  | .bool _, n => n
  | .int _ _, n => n
  | .unk, n => n
  | .nl _, n => n
def szL : List (Leaf false) → Int → Int
  | [], n => n
  | l :: r, n => if szF l n < 0 then -1 else szL r (szF l n)
def szE : List (List (Leaf false)) → Int → Int
  | [], n => n
  | e :: es, n => if szL e n < 0 then -1 else szE es (szL e n)
end
theorem szL_append : ∀ (a b : List (Leaf false)) (n : Int), 0 ≤ n → szL (a ++ b) n = if szL a n < 0 then -1 else szL b (szL a n)
  | [], b, n, h => by simp [szL, Int.not_lt.2 h]
  | l :: a, b, n, h => by
    simp only [List.cons_append, szL]
    by_cases h1 : szF l n < 0
    · simp [h1]
    · simp only [h1, if_false]
      exact szL_append a b _ (by omega)
/-! Steps of the functions that count. -/
section
variable {r : List (Leaf false)} {n : Int}
abbrev vint (n : Int) : SV false := .leaf (.int .i64 n)
abbrev vbool (b : Bool) : SV false := .leaf (.bool b)
abbrev vsl (es : List (List (Leaf false))) : SV false := .leaf (.sl fP es)
abbrev Res := Option (SV false × List (List (SV false)))
theorem sz_str {s : ByteArray} {Y : Res} (g : 0 ≤ IntKind.i64.wrap (n - (s.size : Int)) → Y = some (vint (szL r (IntKind.i64.wrap (n - (s.size : Int)))), [])) :
    branch (decide (IntKind.i64.wrap (n - (s.size : Int)) < 0)) (some (SV.leaf (Leaf.int .i64 (-1)), [])) Y = some (vint (szL (.str s :: r) n), []) := by
  rw [branch_ite]
  by_cases h : IntKind.i64.wrap (n - (s.size : Int)) < 0
  · simp [h, szL, szF]
  · simp only [h, decide_false, Bool.false_eq_true, if_false, szL, szF]
    exact g (by omega)
theorem sz_int {k : IntKind} {z : Int} {Y : Res} (hn : 0 ≤ n) (g : Y = some (vint (szL r n), [])) : Y = some (vint (szL (.int k z :: r) n), []) := by
  rw [g]; simp [szL, szF, Int.not_lt.2 hn]
theorem sz_bool {b : Bool} {Y : Res} (hn : 0 ≤ n) (g : Y = some (vint (szL r n), [])) : Y = some (vint (szL (.bool b :: r) n), []) := by
  rw [g]; simp [szL, szF, Int.not_lt.2 hn]
theorem sz_call {d : Res} {a : List (Leaf false)} {Y : Int → Res} (hd : d = some (vint (szL a n), [])) (hn : 0 ≤ n) (g : ∀ k, 0 ≤ k → Y k = some (vint (szL r k), [])) :
    (d.bind fun r => svLeafK r.fst fun l => intK .i64 l fun n => branch (decide (n < 0)) (some (SV.leaf (Leaf.int .i64 (-1)), [])) (Y n)) = some (vint (szL (a ++ r) n), []) := by
  rw [hd, szL_append _ _ _ hn]
  simp only [Option.bind_some, svLeafK_leaf, intK_int, branch_ite]
  by_cases h : szL a n < 0
  · simp [h]
  · simp only [h, decide_false, Bool.false_eq_true, if_false]
    exact g _ (by omega)
theorem sz_callS {d : Res} {es : List (List (Leaf false))} {Y : Int → Res} (hd : d = some (vint (szF (.sl fP es) n), [])) (g : ∀ k, 0 ≤ k → Y k = some (vint (szL r k), [])) :
    (d.bind fun r => svLeafK r.fst fun l => intK .i64 l fun n => branch (decide (n < 0)) (some (SV.leaf (Leaf.int .i64 (-1)), [])) (Y n)) = some (vint (szL (.sl fP es :: r) n), []) := by
  rw [hd]
  simp only [Option.bind_some, svLeafK_leaf, intK_int, branch_ite, szL]
  by_cases h : szF (.sl fP es) n < 0
  · simp [h]
  · simp only [h, decide_false, Bool.false_eq_true, if_false]
    exact g _ (by omega)
theorem sz_len {es : List (List (Leaf false))} {Y : Res} (g : 0 ≤ IntKind.i64.wrap (n - (es.length : Int)) → Y = some (vint (szE es (IntKind.i64.wrap (n - (es.length : Int)))), [])) :
    branch (decide (IntKind.i64.wrap (n - (es.length : Int)) < 0)) (some (SV.leaf (Leaf.int .i64 (-1)), [])) Y = some (vint (szF (.sl fP es) n), []) := by
  rw [branch_ite, szF]
  by_cases h : IntKind.i64.wrap (n - (es.length : Int)) < 0
  · simp [h]
  · simp only [h, decide_false, Bool.false_eq_true, if_false]
    exact g (by omega)
theorem sz_next {e : List (Leaf false)} {es : List (List (Leaf false))} {d : Res} {Y : Int → Res} (hd : d = some (vint (szL e n), [])) (g : ∀ k, 0 ≤ k → Y k = some (vint (szE es k), [])) :
    (d.bind fun r => svLeafK r.fst fun l => intK .i64 l fun n => branch (decide (n < 0)) (some (SV.leaf (Leaf.int .i64 (-1)), [])) (Y n)) = some (vint (szE (e :: es) n), []) := by
  rw [hd]
  simp only [Option.bind_some, svLeafK_leaf, intK_int, branch_ite, szE]
  by_cases h : szL e n < 0
  · simp [h]
  · simp only [h, decide_false, Bool.false_eq_true, if_false]
    exact g _ (by omega)
theorem sz_nextS {s : ByteArray} {es : List (List (Leaf false))} {Y : Res} (g : 0 ≤ IntKind.i64.wrap (n - (s.size : Int)) → Y = some (vint (szE es (IntKind.i64.wrap (n - (s.size : Int)))), [])) :
    branch (decide (IntKind.i64.wrap (n - (s.size : Int)) < 0)) (some (SV.leaf (Leaf.int .i64 (-1)), [])) Y = some (vint (szE ([.str s] :: es) n), []) := by
  rw [branch_ite]
  by_cases h : IntKind.i64.wrap (n - (s.size : Int)) < 0
  · simp [h, szE, szL, szF]
  · simp only [h, decide_false, Bool.false_eq_true, if_false, szE, szL, szF]
    exact g (by omega)
end
/-! How many marks. -/
mutual
def mkF : Leaf false → Int → Int
  | .str _, k => IntKind.i64.wrap (k + 1)
  | .bool _, k => IntKind.i64.wrap (k + 1)
  | .int _ _, k => IntKind.i64.wrap (k + 1)
  | .sl _ es, k => mkE es k
  | .unk, k => k
  | .nl _, k => k
def mkL : List (Leaf false) → Int → Int
  | [], k => k
  | l :: r, k => mkL r (mkF l k)
def mkE : List (List (Leaf false)) → Int → Int
  | [], k => k
  | e :: es, k => mkE es (mkL e k)
end
theorem mkL_append : ∀ (a b : List (Leaf false)) (k : Int), mkL (a ++ b) k = mkL b (mkL a k)
  | [], _, _ => rfl
  | l :: a, b, k => by simp only [List.cons_append, mkL]; exact mkL_append a b _
mutual
/-- Elements, rows within rows. -/
def tF : Leaf false → Nat
  | .sl _ es => es.length + tE es
  | _ => 0
def tL : List (Leaf false) → Nat
  | [] => 0
  | l :: r => tF l + tL r
def tE : List (List (Leaf false)) → Nat
  | [] => 0
  | e :: es => tL e + tE es
end
mutual
/-- No element has more cells than that; texts and rows are not too long. -/
def okF (z : Nat) : Leaf false → Prop
  | .str s => s.size ≤ maxLen
  | .sl _ es => es.length ≤ maxLen ∧ okE z es
  | _ => True
def okL (z : Nat) : List (Leaf false) → Prop
  | [] => True
  | l :: r => okF z l ∧ okL z r
def okE (z : Nat) : List (List (Leaf false)) → Prop
  | [] => True
  | e :: es => e.length ≤ z ∧ okL z e ∧ okE z es
end
def cap : Int := 4611686018427387904
mutual
theorem szF_t {z : Nat} : ∀ (l : Leaf false) (n : Int), okF z l → 0 ≤ n → n ≤ cap → 0 ≤ szF l n → szF l n ≤ n ∧ (tF l : Int) ≤ n - szF l n
  | .str s, n, ho, h0, hn, h => by
    have hm : maxLen = 9223372036854775807 := rfl
    simp only [okF] at ho
    simp only [szF, tF, cap] at *
    rw [wrap64 (by omega) (by omega)] at h ⊢
    split at h <;> simp_all <;> omega
  | .sl _ es, n, ho, h0, hn, h => by
    have hm : maxLen = 9223372036854775807 := rfl
    simp only [okF] at ho
    simp only [szF, tF] at *
    rw [wrap64 (by simp only [cap] at hn; omega) (by simp only [cap] at hn; omega)] at h ⊢
    by_cases hl : n - (es.length : Int) < 0
    · simp [hl] at h
    · simp only [hl, if_false] at h ⊢
      have := szE_t es (n - es.length) ho.2 (by omega) (by omega) h
      omega
  | .bool _, n, _, _, _, _ => by simp [szF, tF]
  | .int _ _, n, _, _, _, _ => by simp [szF, tF]
  | .unk, n, _, _, _, _ => by simp [szF, tF]
  | .nl _, n, _, _, _, _ => by simp [szF, tF]
theorem szL_t {z : Nat} : ∀ (l : List (Leaf false)) (n : Int), okL z l → 0 ≤ n → n ≤ cap → 0 ≤ szL l n → szL l n ≤ n ∧ (tL l : Int) ≤ n - szL l n
  | [], n, _, _, _, _ => by simp [szL, tL]
  | l :: r, n, ho, h0, hn, h => by
    simp only [okL] at ho
    simp only [szL, tL] at *
    by_cases hl : szF l n < 0
    · simp [hl] at h
    · simp only [hl, if_false] at h ⊢
      have h1 := szF_t l n ho.1 h0 hn (by omega)
      have h2 := szL_t r _ ho.2 (by omega) (by omega) h
      omega
theorem szE_t {z : Nat} : ∀ (l : List (List (Leaf false))) (n : Int), okE z l → 0 ≤ n → n ≤ cap → 0 ≤ szE l n → szE l n ≤ n ∧ (tE l : Int) ≤ n - szE l n
  | [], n, _, _, _, _ => by simp [szE, tE]
  | e :: r, n, ho, h0, hn, h => by
    simp only [okE] at ho
    simp only [szE, tE] at *
    by_cases hl : szL e n < 0
    · simp [hl] at h
    · simp only [hl, if_false] at h ⊢
      have h1 := szL_t e n ho.2.1 h0 hn (by omega)
      have h2 := szE_t r _ ho.2.2 (by omega) (by omega) h
      omega
end
mutual
theorem mkF_t {z : Nat} : ∀ (l : Leaf false) (k : Int), okF z l → 0 ≤ k → k + 1 + z * tF l ≤ cap → k ≤ mkF l k ∧ mkF l k ≤ k + 1 + z * tF l
  | .str s, k, _, h0, hn => by simp only [mkF, tF, cap] at *; rw [wrap64 (by omega) (by omega)]; omega
  | .bool s, k, _, h0, hn => by simp only [mkF, tF, cap] at *; rw [wrap64 (by omega) (by omega)]; omega
  | .int _ s, k, _, h0, hn => by simp only [mkF, tF, cap] at *; rw [wrap64 (by omega) (by omega)]; omega
  | .unk, k, _, h0, hn => by simp only [mkF, tF]; omega
  | .nl _, k, _, h0, hn => by simp only [mkF, tF]; omega
  | .sl _ es, k, ho, h0, hn => by
    simp only [okF] at ho
    simp only [mkF, tF] at *
    have e : (z : Int) * ((es.length + tE es : Nat) : Int) = z * es.length + z * tE es := by push_cast; rw [Int.mul_add]
    rw [e] at hn ⊢
    have := mkE_t es k ho.2 h0 (by omega)
    omega
theorem mkL_t {z : Nat} : ∀ (l : List (Leaf false)) (k : Int), okL z l → 0 ≤ k → k + l.length + z * tL l ≤ cap → k ≤ mkL l k ∧ mkL l k ≤ k + l.length + z * tL l
  | [], k, _, _, _ => by simp [mkL, tL]
  | l :: r, k, ho, h0, hn => by
    simp only [okL] at ho
    have e : (z : Int) * ((tF l + tL r : Nat) : Int) = z * tF l + z * tL r := by push_cast; rw [Int.mul_add]
    have e2 : (((l :: r).length : Nat) : Int) = r.length + 1 := by simp
    rw [show tL (l :: r) = tF l + tL r by simp [tL], e, e2] at hn ⊢
    rw [show mkL (l :: r) k = mkL r (mkF l k) by simp [mkL]]
    have p1 : 0 ≤ (z : Int) * tF l := Int.mul_nonneg (by omega) (by omega)
    have p2 : 0 ≤ (z : Int) * tL r := Int.mul_nonneg (by omega) (by omega)
    have h1 := mkF_t l k ho.1 h0 (by omega)
    have h2 := mkL_t r (mkF l k) ho.2 (by omega) (by omega)
    omega
theorem mkE_t {z : Nat} : ∀ (l : List (List (Leaf false))) (k : Int), okE z l → 0 ≤ k → k + z * l.length + z * tE l ≤ cap → k ≤ mkE l k ∧ mkE l k ≤ k + z * l.length + z * tE l
  | [], k, _, _, _ => by simp [mkE, tE]
  | e :: r, k, ho, h0, hn => by
    simp only [okE] at ho
    have e1 : (z : Int) * ((tL e + tE r : Nat) : Int) = z * tL e + z * tE r := by push_cast; rw [Int.mul_add]
    have e2 : (z : Int) * (((e :: r).length : Nat) : Int) = z * r.length + z := by rw [List.length_cons]; push_cast; rw [Int.mul_add, Int.mul_one]
    rw [show tE (e :: r) = tL e + tE r by simp [tE], e1, e2] at hn ⊢
    rw [show mkE (e :: r) k = mkE r (mkL e k) by simp [mkE]]
    have p1 : 0 ≤ (z : Int) * tL e := Int.mul_nonneg (by omega) (by omega)
    have p2 : 0 ≤ (z : Int) * tE r := Int.mul_nonneg (by omega) (by omega)
    have p3 : 0 ≤ (z : Int) * r.length := Int.mul_nonneg (by omega) (by omega)
    have h1 := mkL_t e k ho.2.1 h0 (by omega)
    have h2 := mkE_t r (mkL e k) ho.2.2 (by omega) (by omega)
    omega
end
theorem getD_lt {m : Bool} {l : List (List (Leaf m))} {i : Nat} (h : i < l.length) : l.getD i [] = l[i] := by simp [List.getD, h]
theorem drop_at {α : Type} {l : List α} {i : Nat} (h : i < l.length) : l.drop i = l[i] :: l.drop (i + 1) := List.drop_eq_getElem_cons h
theorem sized_all {m : Bool} {z : Nat} {es : List (List (Leaf m))} (h : ∀ e ∈ es, e.length = z) : sized z es = true := by
  simp only [sized, List.all_eq_true, beq_iff_eq]; exact h
theorem reE_all {m m' : Bool} {φ : Fl m → Fl m'} {z : Nat} {es : List (List (Leaf m))} (h : ∀ e ∈ es, e.length = z) : ∀ e ∈ reE φ es, e.length = z := by
  intro e he
  rw [reE_map] at he
  obtain ⟨x, hx, rfl⟩ := List.mem_map.1 he
  rw [reL_length]; exact h x hx
theorem reE_get {m m' : Bool} {φ : Fl m → Fl m'} {es : List (List (Leaf m))} {i : Nat} (h : i < (reE φ es).length) : (reE φ es)[i] = reL φ (es[i]'(by rwa [reE_length] at h)) := by
  simp only [reE_map, List.getElem_map]
theorem reE_getD {m m' : Bool} {φ : Fl m → Fl m'} {es : List (List (Leaf m))} {i : Nat} (h : i < es.length) : (reE φ es).getD i [] = reL φ es[i] := by
  rw [getD_lt (by rwa [reE_length]), reE_get (by rwa [reE_length])]
theorem soL_map : ∀ l : List (Leaf false), soL l = l.map soF
  | [] => by rw [soL]; rfl
  | l :: r => by rw [soL, List.map_cons, soL_map r]
theorem soE_map : ∀ l : List (List (Leaf false)), soE l = l.map soL
  | [] => by rw [soE]; rfl
  | l :: r => by rw [soE, List.map_cons, soE_map r]
theorem soE_length (l : List (List (Leaf false))) : (soE l).length = l.length := by rw [soE_map, List.length_map]
theorem soE_all {z : Nat} {es : List (List (Leaf false))} (h : ∀ e ∈ es, e.length = z) : ∀ e ∈ soE es, e.length = z := by
  intro e he
  rw [soE_map] at he
  obtain ⟨x, hx, rfl⟩ := List.mem_map.1 he
  rw [soL_map, List.length_map]; exact h x hx
theorem soE_getD {es : List (List (Leaf false))} {i : Nat} (h : i < es.length) : (soE es).getD i [] = soL es[i] := by
  rw [soE_map, List.getD_eq_getElem?_getD, List.getElem?_map, List.getElem?_eq_getElem h]; rfl
theorem okE_of {z : Nat} : ∀ {es : List (List (Leaf false))}, (∀ e ∈ es, e.length ≤ z ∧ okL z e) → okE z es
  | [], _ => by simp [okE]
  | e :: r, h => by
    simp only [okE]
    exact ⟨(h e (by simp)).1, (h e (by simp)).2, okE_of fun x hx => h x (by simp [hx])⟩
theorem tE_mem : ∀ {es : List (List (Leaf false))} {e : List (Leaf false)}, e ∈ es → tL e ≤ tE es
  | x :: r, e, h => by
    simp only [tE]
    rcases List.mem_cons.1 h with rfl | h
    · omega
    · have := tE_mem h; omega
def IsStr (e : List (Leaf false)) : Prop := ∃ s : ByteArray, e = [.str s] ∧ s.size ≤ maxLen
theorem IsStr.len {e : List (Leaf false)} (h : IsStr e) : e.length = 1 := by obtain ⟨s, rfl, _⟩ := h; rfl
theorem IsStr.ok {e : List (Leaf false)} (h : IsStr e) : okL 16 e := by obtain ⟨s, rfl, hs⟩ := h; simp only [okL, okF]; exact ⟨hs, trivial⟩
theorem soft_isSoft : Fl.isSoft fSoft = true := rfl
theorem ite_yes {α : Type} {p : Prop} [Decidable p] {a b : α} (h : p) : (if p then a else b) = a := if_pos h
end Go.Vs
namespace Go.Vs
variable {m : Bool}
/-! Rows that are marked and looked at. -/
theorem putAt_two {v l1 l2 : List (SV m)} {p q : Nat} (hq : q = p + l1.length) (h : p + l1.length + l2.length ≤ v.length) : putAt (putAt v p l1) q l2 = putAt v p (l1 ++ l2) := by
  subst hq
  unfold putAt
  have h1 : (v.take p).length = p := by rw [List.length_take]; omega
  have e1 : (v.take p ++ l1 ++ v.drop (p + l1.length)).take (p + l1.length) = v.take p ++ l1 := by
    rw [List.take_append_of_le_length (by rw [List.length_append, h1]; omega), List.take_of_length_le (by rw [List.length_append, h1]; omega)]
  have e2 : (v.take p ++ l1 ++ v.drop (p + l1.length)).drop (p + l1.length + l2.length) = v.drop (p + (l1.length + l2.length)) := by
    rw [List.drop_append, List.drop_of_length_le (by rw [List.length_append, h1]; omega), List.nil_append, List.drop_drop, List.length_append, h1]
    congr 1; omega
  rw [e1, e2, List.length_append]
  simp only [List.append_assoc]
theorem putAt_length {v l : List (SV m)} {p : Nat} (h : p + l.length ≤ v.length) : (putAt v p l).length = v.length := by
  unfold putAt
  simp only [List.length_append, List.length_take, List.length_drop]
  omega
theorem flatten_get {α : Type} {z : Nat} : ∀ {l : List (List α)} {i o : Nat} (hl : ∀ e ∈ l, e.length = z) (hi : i < l.length) (ho : o < z), l.flatten[i * z + o]? = (l[i])[o]?
  | e :: l, 0, o, hl, hi, ho => by
    rw [List.flatten_cons, List.getElem?_append_left (by rw [hl e (by simp)]; omega)]
    simp
  | e :: l, i + 1, o, hl, hi, ho => by
    have he := hl e (by simp)
    rw [List.flatten_cons, List.getElem?_append_right (by rw [he, Nat.add_mul]; omega), he]
    have : (i + 1) * z + o - z = i * z + o := by rw [Nat.add_mul]; omega
    rw [this, List.getElem_cons_succ]
    exact flatten_get (fun e h => hl e (by simp [h])) (by simpa using hi) ho
theorem atSV_row {β : Type} {l : List (List (Leaf m))} {z : Nat} {r : List (SV m)} {i o p : Nat} (hl : ∀ e ∈ l, e.length = z) (hi : i < l.length) (ho : o < z) (hp : p = i * z + o) (k : SV m → Option β) :
    atSV (rowAt l l.length r) p k = k (.leaf ((l[i])[o]'(by rw [hl _ (List.getElem_mem hi)]; exact ho))) := by
  subst hp
  have hlen : l.flatten.length = l.length * z := flatten_len hl
  have hm : i * z + o < l.flatten.length := by
    rw [hlen]
    have : (i + 1) * z ≤ l.length * z := Nat.mul_le_mul_right z hi
    rw [Nat.add_mul] at this; omega
  unfold atSV rowAt
  rw [List.take_length, List.getElem?_append_left (by rw [List.length_map]; exact hm), List.getElem?_map, flatten_get hl hi ho, List.getElem?_eq_getElem (by rw [hl _ (List.getElem_mem hi)]; exact ho)]
  rfl
theorem rowAt_flat {l : List (List (Leaf m))} {i : Nat} {r : List (SV m)} (h : r.all SV.flat = true) : (rowAt l i r).all SV.flat = true := by
  unfold rowAt
  rw [List.all_append, h, Bool.and_true, List.all_map]
  exact List.all_eq_true.2 fun _ _ => rfl
end Go.Vs
end
section
open Go Go.Vs Go.Proofs
set_option linter.unusedVariables false
set_option linter.unusedSimpArgs false
namespace Go.Vs
noncomputable abbrev Dn : Oracle false := den Go.Proofs.Try.prog (fun _ => none) Hs
theorem den_of {f : FuncId} {a : List (SV false)} {b : List (List (SV false))} {r : SV false × List (List (SV false))} (h : run2V Go.Proofs.Try.prog Dn Hs limR f a b = some r) : Dn f a b = some r :=
  den_fast rfl h
inductive IsType : List (Leaf false) → Prop
  | mk (s0 : ByteArray) (s1 : ByteArray) (h0 : s0.size ≤ maxLen) (h1 : s1.size ≤ maxLen) : IsType [.str s0, .str s1]
theorem IsType.ex {ls : List (Leaf false)} (h : IsType ls) : ∃ (s0 : ByteArray) (s1 : ByteArray), ls = [.str s0, .str s1] ∧ s0.size ≤ maxLen ∧ s1.size ≤ maxLen := by
  cases h with
  | mk s0 s1 h0 h1 => exact ⟨s0, s1, rfl, h0, h1⟩
theorem IsType.len {ls : List (Leaf false)} (h : IsType ls) : ls.length = 2 := by cases h; rfl
theorem IsType.ok {ls : List (Leaf false)} (h : IsType ls) : okL 16 ls := by
  cases h with
  | mk s0 s1 h0 h1 => simp only [okL, okF]; exact ⟨h0, h1, trivial⟩
inductive IsValue : List (Leaf false) → Prop
  | mk (i0 : Int) (s1 : ByteArray) (e2 : List (List (Leaf false))) (e3 : List (List (Leaf false))) (h1 : s1.size ≤ maxLen) (h2 : e2.length ≤ maxLen) (q2 : ∀ e ∈ e2, IsValue e) (h3 : e3.length ≤ maxLen) (q3 : ∀ e ∈ e3, IsStr e) : IsValue [.int .i64 i0, .str s1, .sl fP e2, .sl fP e3]
theorem IsValue.ex {ls : List (Leaf false)} (h : IsValue ls) : ∃ (i0 : Int) (s1 : ByteArray) (e2 : List (List (Leaf false))) (e3 : List (List (Leaf false))), ls = [.int .i64 i0, .str s1, .sl fP e2, .sl fP e3] ∧ s1.size ≤ maxLen ∧ e2.length ≤ maxLen ∧ (∀ e ∈ e2, IsValue e) ∧ e3.length ≤ maxLen ∧ (∀ e ∈ e3, IsStr e) := by
  cases h with
  | mk i0 s1 e2 e3 h1 h2 q2 h3 q3 => exact ⟨i0, s1, e2, e3, rfl, h1, h2, q2, h3, q3⟩
theorem IsValue.len {ls : List (Leaf false)} (h : IsValue ls) : ls.length = 4 := by cases h; rfl
theorem IsValue.ok {ls : List (Leaf false)} (h : IsValue ls) : okL 16 ls := by
  induction h with
  | mk i0 s1 e2 e3 h1 h2 q2 h3 q3 ih2 => simp only [okL, okF]; exact ⟨trivial, h1, ⟨h2, okE_of fun e he => ⟨by have := (q2 e he).len; omega, ih2 e he⟩⟩, ⟨h3, okE_of fun e he => ⟨by have := (q3 e he).len; omega, (q3 e he).ok⟩⟩, trivial⟩
inductive IsArg : List (Leaf false) → Prop
  | mk (s0 : ByteArray) (i1 : Int) (s2 : ByteArray) (e3 : List (List (Leaf false))) (e4 : List (List (Leaf false))) (h0 : s0.size ≤ maxLen) (h2 : s2.size ≤ maxLen) (h3 : e3.length ≤ maxLen) (q3 : ∀ e ∈ e3, IsValue e) (h4 : e4.length ≤ maxLen) (q4 : ∀ e ∈ e4, IsStr e) : IsArg [.str s0, .int .i64 i1, .str s2, .sl fP e3, .sl fP e4]
theorem IsArg.ex {ls : List (Leaf false)} (h : IsArg ls) : ∃ (s0 : ByteArray) (i1 : Int) (s2 : ByteArray) (e3 : List (List (Leaf false))) (e4 : List (List (Leaf false))), ls = [.str s0, .int .i64 i1, .str s2, .sl fP e3, .sl fP e4] ∧ s0.size ≤ maxLen ∧ s2.size ≤ maxLen ∧ e3.length ≤ maxLen ∧ (∀ e ∈ e3, IsValue e) ∧ e4.length ≤ maxLen ∧ (∀ e ∈ e4, IsStr e) := by
  cases h with
  | mk s0 i1 s2 e3 e4 h0 h2 h3 q3 h4 q4 => exact ⟨s0, i1, s2, e3, e4, rfl, h0, h2, h3, q3, h4, q4⟩
theorem IsArg.len {ls : List (Leaf false)} (h : IsArg ls) : ls.length = 5 := by cases h; rfl
theorem IsArg.ok {ls : List (Leaf false)} (h : IsArg ls) : okL 16 ls := by
  cases h with
  | mk s0 i1 s2 e3 e4 h0 h2 h3 q3 h4 q4 => simp only [okL, okF]; exact ⟨h0, trivial, h2, ⟨h3, okE_of fun e he => ⟨by have := (q3 e he).len; omega, (q3 e he).ok⟩⟩, ⟨h4, okE_of fun e he => ⟨by have := (q4 e he).len; omega, (q4 e he).ok⟩⟩, trivial⟩
inductive IsDir : List (Leaf false) → Prop
  | mk (s0 : ByteArray) (e1 : List (List (Leaf false))) (h0 : s0.size ≤ maxLen) (h1 : e1.length ≤ maxLen) (q1 : ∀ e ∈ e1, IsArg e) : IsDir [.str s0, .sl fP e1]
theorem IsDir.ex {ls : List (Leaf false)} (h : IsDir ls) : ∃ (s0 : ByteArray) (e1 : List (List (Leaf false))), ls = [.str s0, .sl fP e1] ∧ s0.size ≤ maxLen ∧ e1.length ≤ maxLen ∧ (∀ e ∈ e1, IsArg e) := by
  cases h with
  | mk s0 e1 h0 h1 q1 => exact ⟨s0, e1, rfl, h0, h1, q1⟩
theorem IsDir.len {ls : List (Leaf false)} (h : IsDir ls) : ls.length = 2 := by cases h; rfl
theorem IsDir.ok {ls : List (Leaf false)} (h : IsDir ls) : okL 16 ls := by
  cases h with
  | mk s0 e1 h0 h1 q1 => simp only [okL, okF]; exact ⟨h0, ⟨h1, okE_of fun e he => ⟨by have := (q1 e he).len; omega, (q1 e he).ok⟩⟩, trivial⟩
inductive IsInDef : List (Leaf false) → Prop
  | mk (s0 : ByteArray) (s1 : ByteArray) (s2 : ByteArray) (s3 : ByteArray) (b4 : Bool) (i5 : Int) (s6 : ByteArray) (e7 : List (List (Leaf false))) (e8 : List (List (Leaf false))) (e9 : List (List (Leaf false))) (h0 : s0.size ≤ maxLen) (h1 : s1.size ≤ maxLen) (h2 : s2.size ≤ maxLen) (h3 : s3.size ≤ maxLen) (h6 : s6.size ≤ maxLen) (h7 : e7.length ≤ maxLen) (q7 : ∀ e ∈ e7, IsValue e) (h8 : e8.length ≤ maxLen) (q8 : ∀ e ∈ e8, IsStr e) (h9 : e9.length ≤ maxLen) (q9 : ∀ e ∈ e9, IsDir e) : IsInDef [.str s0, .str s1, .str s2, .str s3, .bool b4, .int .i64 i5, .str s6, .sl fP e7, .sl fP e8, .sl fP e9]
theorem IsInDef.ex {ls : List (Leaf false)} (h : IsInDef ls) : ∃ (s0 : ByteArray) (s1 : ByteArray) (s2 : ByteArray) (s3 : ByteArray) (b4 : Bool) (i5 : Int) (s6 : ByteArray) (e7 : List (List (Leaf false))) (e8 : List (List (Leaf false))) (e9 : List (List (Leaf false))), ls = [.str s0, .str s1, .str s2, .str s3, .bool b4, .int .i64 i5, .str s6, .sl fP e7, .sl fP e8, .sl fP e9] ∧ s0.size ≤ maxLen ∧ s1.size ≤ maxLen ∧ s2.size ≤ maxLen ∧ s3.size ≤ maxLen ∧ s6.size ≤ maxLen ∧ e7.length ≤ maxLen ∧ (∀ e ∈ e7, IsValue e) ∧ e8.length ≤ maxLen ∧ (∀ e ∈ e8, IsStr e) ∧ e9.length ≤ maxLen ∧ (∀ e ∈ e9, IsDir e) := by
  cases h with
  | mk s0 s1 s2 s3 b4 i5 s6 e7 e8 e9 h0 h1 h2 h3 h6 h7 q7 h8 q8 h9 q9 => exact ⟨s0, s1, s2, s3, b4, i5, s6, e7, e8, e9, rfl, h0, h1, h2, h3, h6, h7, q7, h8, q8, h9, q9⟩
theorem IsInDef.len {ls : List (Leaf false)} (h : IsInDef ls) : ls.length = 10 := by cases h; rfl
theorem IsInDef.ok {ls : List (Leaf false)} (h : IsInDef ls) : okL 16 ls := by
  cases h with
  | mk s0 s1 s2 s3 b4 i5 s6 e7 e8 e9 h0 h1 h2 h3 h6 h7 q7 h8 q8 h9 q9 => simp only [okL, okF]; exact ⟨h0, h1, h2, h3, trivial, trivial, h6, ⟨h7, okE_of fun e he => ⟨by have := (q7 e he).len; omega, (q7 e he).ok⟩⟩, ⟨h8, okE_of fun e he => ⟨by have := (q8 e he).len; omega, (q8 e he).ok⟩⟩, ⟨h9, okE_of fun e he => ⟨by have := (q9 e he).len; omega, (q9 e he).ok⟩⟩, trivial⟩
inductive IsChange : List (Leaf false) → Prop
  | mk (i0 : Int) (s1 : ByteArray) (s2 : ByteArray)  : IsChange [.int .i64 i0, .str s1, .str s2]
theorem IsChange.ex {ls : List (Leaf false)} (h : IsChange ls) : ∃ (i0 : Int) (s1 : ByteArray) (s2 : ByteArray), ls = [.int .i64 i0, .str s1, .str s2] := by
  cases h with
  | mk i0 s1 s2  => exact ⟨i0, s1, s2, rfl⟩
theorem IsChange.len {ls : List (Leaf false)} (h : IsChange ls) : ls.length = 3 := by cases h; rfl

end Go.Vs
end
section
open Go Go.Vs Go.Proofs
set_option linter.unusedVariables false
set_option linter.unusedSimpArgs false
namespace Go.Vs
theorem wrap_le {x : Int} (h : 0 ≤ x) : IntKind.i64.wrap x ≤ x := by
  have e : IntKind.i64.wrap x = if x % 18446744073709551616 ≥ 9223372036854775808 then x % 18446744073709551616 - 18446744073709551616 else x % 18446744073709551616 := by
    simp [IntKind.wrap, IntKind.signed, IntKind.bits]
  rw [e]
  split <;> omega
theorem markText_from : ∀ (n : Nat) (i0 : Int) (s3 : ByteArray), i0 < 10 ^ n → s3.size + n + 1 ≤ 140737488355328 → ∃ s : ByteArray, laws_markText_A Dn (laws_markText_0 i0 s3) = some (.leaf (.str s), [])
  | 0, i0, s3, h, hs => by
    have h0 : ¬ i0 > 0 := by simp at h; omega
    rw [laws_markText_0_eq]
    have h1 : (ByteArray.mk #[109]).size + s3.size ≤ 140737488355328 := by have : (ByteArray.mk #[109]).size = 1 := rfl; omega
    simp only [h0, decide_false, branch_false, h1, decide_true, guarded_true]
    exact ⟨_, rfl⟩
  | n + 1, i0, s3, h, hs => by
    rw [laws_markText_0_eq]
    by_cases h0 : i0 > 0
    · have hz : ∀ x : UInt8, (ByteArray.mk #[x]).size = 1 := fun _ => rfl
      have h2 : IntKind.i64.wrap (i0.tdiv 10) < 10 ^ n := by
        have h3 : 0 ≤ i0.tdiv 10 := Int.tdiv_nonneg (by omega) (by omega)
        have h4 := wrap_le h3
        have h5 : i0.tdiv 10 < 10 ^ n := by
          rw [Int.tdiv_eq_ediv_of_nonneg (by omega)]
          rw [Int.pow_succ] at h
          omega
        omega
      simp only [h0, decide_true, branch_true, List.map_cons, List.map_nil, hz, show 1 + s3.size ≤ 140737488355328 by omega, guarded_true]
      exact markText_from n _ _ h2 (by rw [ByteArray.size_append, hz]; omega)
    · have h1 : (ByteArray.mk #[109]).size + s3.size ≤ 140737488355328 := by have : (ByteArray.mk #[109]).size = 1 := rfl; omega
      simp only [h0, decide_false, branch_false, h1, decide_true, guarded_true]
      exact ⟨_, rfl⟩
theorem markText_ex (k : Int) : ∃ s : ByteArray, Dn F.laws_markText [vint k] [] = some (.leaf (.str s), []) := by
  have key : ∃ s : ByteArray, run2V Go.Proofs.Try.prog Dn Hs limR F.laws_markText [vint k] [] = some (.leaf (.str s), []) := by
    rw [run_laws_markText]
    by_cases h : k ≤ 0
    · simp only [h, decide_true, branch_true]; exact ⟨_, rfl⟩
    · obtain ⟨n, hn⟩ : ∃ n : Nat, k < 10 ^ n ∧ n ≤ k.toNat := ⟨k.toNat, by
        have : (k.toNat : Int) < 10 ^ k.toNat := by exact_mod_cast (Nat.lt_pow_self (by omega) : k.toNat < 10 ^ k.toNat)
        omega, Nat.le_refl _⟩
      simp only [h, decide_false, branch_false]
      -- the first round brings it below the bound of the kind
      rw [laws_markText_0_eq]
      have hz : ∀ x : UInt8, (ByteArray.mk #[x]).size = 1 := fun _ => rfl
      have h0 : k > 0 := by omega
      have he : (ByteArray.mk #[]).size = 0 := rfl
      simp only [h0, decide_true, branch_true, List.map_cons, List.map_nil, hz, he, show 1 + 0 ≤ 140737488355328 by omega, guarded_true]
      refine markText_from 19 _ _ ?_ (by rw [ByteArray.size_append, hz, he]; omega)
      have e : ∀ x : Int, IntKind.i64.wrap x < 10 ^ 19 := fun x => by
        have e : IntKind.i64.wrap x = if x % 18446744073709551616 ≥ 9223372036854775808 then x % 18446744073709551616 - 18446744073709551616 else x % 18446744073709551616 := by
          simp [IntKind.wrap, IntKind.signed, IntKind.bits]
        rw [e]
        split <;> omega
      exact e _
  obtain ⟨s, hs⟩ := key
  exact ⟨s, den_of hs⟩
/-- The text of a mark. -/
noncomputable def mtx (k : Int) : ByteArray := Classical.choose (markText_ex k)
theorem d_markText (k : Int) : Dn F.laws_markText [vint k] [] = some (.leaf (.str (mtx k)), []) := Classical.choose_spec (markText_ex k)
end Go.Vs
end
section
open Go Go.Vs Go.Proofs
set_option linter.unusedVariables false
set_option linter.unusedSimpArgs false
namespace Go.Vs
/-! ### Texts and their ends -/
/-- Does a text end so? -/
def ends (s : ByteArray) (c : UInt8) : Bool := decide (0 < s.size) && (s.data.toList.getD (s.size - 1) 0 == c)
def cut (s : ByteArray) : ByteArray := s.extract 0 (s.size - 1)
theorem cut_size (s : ByteArray) : (cut s).size = s.size - 1 := by unfold cut; rw [ByteArray.size_extract]; omega
theorem wrap_sub {n d : Nat} (h : n ≤ maxLen) (hd : d ≤ n) : IntKind.i64.wrap ((n : Int) - (d : Int)) = ((n - d : Nat) : Int) := by
  have hm : maxLen = 9223372036854775807 := rfl
  rw [wrap64 (by omega) (by omega)]; omega
theorem tl (s : ByteArray) : s.toList = s.data.toList := by first | exact ByteArray.toList_eq s | exact Go.ByteArray.toList_eq s
theorem size_data (s : ByteArray) : s.data.toList.length = s.size := by rw [Array.length_toList]; rfl
theorem suffix_one (s : ByteArray) (c : UInt8) (h : 0 < s.size) : ((s.extract (s.size - 1) s.size).toList == (ByteArray.mk #[c]).toList) = ends s c := by
  have hl := size_data s
  have e1 : (s.extract (s.size - 1) s.size).toList = [s.data.toList.getD (s.size - 1) 0] := by
    rw [tl, ByteArray.data_extract, Array.toList_extract, List.extract_eq_take_drop]
    have : s.data.toList.drop (s.size - 1) = [s.data.toList.getD (s.size - 1) 0] := by
      rw [List.drop_eq_getElem_cons (by omega), List.drop_of_length_le (by omega)]
      rw [List.getD_eq_getElem?_getD, List.getElem?_eq_getElem (show s.size - 1 < s.data.toList.length by omega)]; rfl
    rw [this]
    have : s.size - (s.size - 1) = 1 := by omega
    rw [this]; rfl
  have e2 : (ByteArray.mk #[c]).toList = [c] := by rw [tl]
  rw [e1, e2]
  unfold ends
  simp only [h, decide_true, Bool.true_and]
  cases hx : (s.data.toList.getD (s.size - 1) 0 == c) <;> simp_all
theorem d_HasSuffix {s : ByteArray} {c : UInt8} (hs : s.size ≤ maxLen) : Dn F.internal_stringslite_HasSuffix [.leaf (.str s), .leaf (.str ⟨#[c]⟩)] [] = some (vbool (ends s c), []) := by
  apply den_of
  rw [run_internal_stringslite_HasSuffix]
  have h1 : (ByteArray.mk #[c]).size = 1 := rfl
  rw [h1]
  by_cases h : 0 < s.size
  · have hw := wrap_sub hs (show 1 ≤ s.size by omega)
    simp only [hw, show ((s.size : Nat) : Int) ≥ ((1 : Nat) : Int) by omega, decide_true, beq_self_eq_true, branch_true, Int.natCast_nonneg, Bool.true_and, Option.getD_some, Option.getD_none, Int.toNat_natCast, Nat.sub_le, Nat.le_refl, guarded_true]
    rw [suffix_one s c h]
  · have h0 : ¬ ((s.size : Nat) : Int) ≥ ((1 : Nat) : Int) := by omega
    simp only [h0, decide_false, show ((false : Bool) == true) = false from rfl, branch_false]
    have : ends s c = false := by unfold ends; simp [h]
    rw [this]
theorem d_CutSuffix {s : ByteArray} {c : UInt8} (hs : s.size ≤ maxLen) : Dn F.strings_CutSuffix [.leaf (.str s), .leaf (.str ⟨#[c]⟩)] [] = some (.tup [.leaf (.str (if ends s c then cut s else s)), vbool (ends s c)], []) := by
  have h1 : (ByteArray.mk #[c]).size = 1 := rfl
  have key : Dn F.internal_stringslite_CutSuffix [.leaf (.str s), .leaf (.str ⟨#[c]⟩)] [] = some (.tup [.leaf (.str (if ends s c then cut s else s)), vbool (ends s c)], []) := by
    apply den_of
    rw [run_internal_stringslite_CutSuffix, d_HasSuffix hs, h1]
    simp only [Option.bind_some, svLeafK_leaf, boolK_bool]
    cases he : ends s c with
    | false => simp
    | true =>
      have h : 0 < s.size := by unfold ends at he; simp at he; omega
      have hw := wrap_sub hs (show 1 ≤ s.size by omega)
      simp only [hw, Bool.not_true, branch_false, Int.natCast_nonneg, decide_true, Bool.true_and, Option.getD_some, Option.getD_none, Int.toNat_natCast, Nat.sub_le, guarded_true, if_true]
      rfl
  apply den_of
  rw [run_strings_CutSuffix, key]
  simp
theorem d_unwrapped {n s : ByteArray} {c : UInt8} (hs : s.size ≤ maxLen) : Dn F.impl_unwrapped [.agg [.str n, .str s], .leaf (.str ⟨#[c]⟩)] [] = some (.tup [.agg [.str n, .str (if ends s c then cut s else s)], vbool (ends s c)], []) := by
  apply den_of
  rw [run_impl_unwrapped, d_CutSuffix hs]
  simp
theorem d_impl_Needed {n s : ByteArray} (hs : s.size ≤ maxLen) : Dn F.impl_Needed [.agg [.str n, .str s]] [] = some (vbool (ends s 33), []) := by
  have key : Dn F.strings_HasSuffix [.leaf (.str s), .leaf (.str ⟨#[33]⟩)] [] = some (vbool (ends s 33), []) := by
    apply den_of
    rw [run_strings_HasSuffix, d_HasSuffix hs]
    simp
  apply den_of
  rw [run_impl_Needed, key]
  simp
theorem byte_is (x : UInt8) (c : Nat) (hc : c < 256) : (((x.toNat : Nat) : Int) == (c : Int)) = (x == UInt8.ofNat c) := by
  rw [Bool.eq_iff_iff, beq_iff_eq, beq_iff_eq, ← UInt8.toNat_inj]
  simp only [UInt8.toNat_ofNat']
  omega
theorem d_spec_Needed {n s : ByteArray} (hs : s.size ≤ maxLen) : Dn F.spec_Needed [.agg [.str n, .str s]] [] = some (vbool (ends s 33), []) := by
  apply den_of
  rw [run_spec_Needed]
  by_cases h : 0 < s.size
  · have hw : IntKind.i64.wrap ((s.size : Int) - 1) = ((s.size - 1 : Nat) : Int) := wrap_sub hs (show 1 ≤ s.size by omega)
    have hlt : ((s.size - 1 : Nat) : Int) < (s.size : Int) := by omega
    simp only [hw, show ((s.size : Nat) : Int) > 0 by omega, decide_true, beq_self_eq_true, branch_true, Int.natCast_nonneg, Bool.true_and, hlt, Int.toNat_natCast, guarded_true]
    have := byte_is (s.data.toList.getD (s.size - 1) 0) 33 (by omega)
    rw [show ((33 : Nat) : Int) = 33 from rfl] at this
    rw [this]
    unfold ends
    simp only [h, decide_true, Bool.true_and]
    rfl
  · have h0 : ¬ ((s.size : Nat) : Int) > 0 := by omega
    simp only [h0, decide_false, show ((false : Bool) == true) = false from rfl, branch_false]
    have : ends s 33 = false := by unfold ends; simp [h]
    rw [this]
/-! ### May the one stand where the other is wanted? -/
theorem compat_ex (n1 n2 : ByteArray) (k : Nat) : ∀ (w1 w2 : ByteArray), w1.size + w2.size = k → w1.size ≤ maxLen → w2.size ≤ maxLen →
    ∃ b, spec_Compatible_A Dn (spec_Compatible_0 n1 w1 n2 w2) = some (vbool b, []) ∧ Dn F.impl_Compatible [.agg [.str n1, .str w1], .agg [.str n2, .str w2]] [] = some (vbool b, []) := by
  induction k using Nat.strongRecOn with
  | ind k ih =>
    intro w1 w2 hk h1 h2
    have pos : ∀ {w : ByteArray} {c : UInt8}, ends w c = true → 0 < w.size := fun {w c} he => by unfold ends at he; simp at he; omega
    have cutE : ∀ {w : ByteArray}, 0 < w.size → w.size ≤ maxLen → w.extract 0 (IntKind.i64.wrap ((w.size : Int) - 1)).toNat = cut w := fun {w} hp hw => by
      rw [show IntKind.i64.wrap ((w.size : Int) - 1) = ((w.size - 1 : Nat) : Int) from wrap_sub hw (show 1 ≤ w.size by omega), Int.toNat_natCast]; rfl
    have grd : ∀ {w : ByteArray}, 0 < w.size → w.size ≤ maxLen → (decide (0 ≤ IntKind.i64.wrap ((w.size : Int) - 1)) && decide ((IntKind.i64.wrap ((w.size : Int) - 1)).toNat ≤ w.size)) = true := fun {w} hp hw => by
      rw [show IntKind.i64.wrap ((w.size : Int) - 1) = ((w.size - 1 : Nat) : Int) from wrap_sub hw (show 1 ≤ w.size by omega), Int.toNat_natCast]; simp
    have grd2 : ∀ {w : ByteArray}, 0 < w.size → w.size ≤ maxLen → (decide (0 ≤ IntKind.i64.wrap ((w.size : Int) - 1)) && decide (IntKind.i64.wrap ((w.size : Int) - 1) < (w.size : Int))) = true := fun {w} hp hw => by
      rw [show IntKind.i64.wrap ((w.size : Int) - 1) = ((w.size - 1 : Nat) : Int) from wrap_sub hw (show 1 ≤ w.size by omega)]; simp; omega
    have last : ∀ {w : ByteArray}, 0 < w.size → w.size ≤ maxLen → (((w.data.toList.getD (IntKind.i64.wrap ((w.size : Int) - 1)).toNat 0).toNat : Int) == 93) = ends w 93 := fun {w} hp hw => by
      rw [show IntKind.i64.wrap ((w.size : Int) - 1) = ((w.size - 1 : Nat) : Int) from wrap_sub hw (show 1 ≤ w.size by omega), Int.toNat_natCast]
      have := byte_is (w.data.toList.getD (w.size - 1) 0) 93 (by omega)
      rw [show ((93 : Nat) : Int) = 93 from rfl] at this
      rw [this]; unfold ends; simp only [hp, decide_true, Bool.true_and]; rfl
    have emp : ∀ w : ByteArray, (w.toList == (ByteArray.mk #[]).toList) = ((w.size : Int) == 0) := fun w => by
      have hl := size_data w
      rw [tl, tl]
      show (w.data.toList == []) = _
      cases hx : w.data.toList with
      | nil => rw [hx] at hl; simp at hl; rw [← hl]; rfl
      | cons a r => rw [hx] at hl; simp at hl; rw [← hl]; simp; omega
    have sp := spec_Compatible_0_eq Dn n1 w1 n2 w2
    rw [d_spec_Needed h2, d_spec_Needed h1] at sp
    have im : run2V Go.Proofs.Try.prog Dn Hs limR F.impl_Compatible [.agg [.str n1, .str w1], .agg [.str n2, .str w2]] [] = _ := run_impl_Compatible Dn n1 w1 n2 w2
    simp only [d_unwrapped h1, d_unwrapped h2, Option.bind_some, svTupK_tup, headK_cons, svAggK_agg, svLeafK_leaf, boolK_bool, strK_str, atK_zero, atK_succ, lastK_nil, List.length_cons, List.length_nil, Nat.reduceAdd, Nat.reduceBEq, guarded_true] at sp im
    simp only [Option.getD_some, Option.getD_none] at sp
    cases e2 : ends w2 33 with
    | true =>
      cases e1 : ends w1 33 with
      | false =>
        simp only [e1, e2, branch_true, Bool.not_false] at sp im
        exact ⟨false, sp, den_of im⟩
      | true =>
        have p1 := pos e1
        have p2 := pos e2
        obtain ⟨b, k1, k2⟩ := ih _ (by rw [cut_size, cut_size]; omega) (cut w1) (cut w2) rfl (by rw [cut_size]; omega) (by rw [cut_size]; omega)
        simp only [e1, e2, branch_true, Bool.not_true, branch_false, grd p1 h1, grd p2 h2, guarded_true, cutE p1 h1, cutE p2 h2, beq_self_eq_true, if_true, k2, Option.bind_some, svLeafK_leaf, boolK_bool] at sp im
        exact ⟨b, sp.trans k1, den_of im⟩
    | false =>
      cases e1 : ends w1 33 with
      | true =>
        have p1 := pos e1
        obtain ⟨b, k1, k2⟩ := ih _ (by rw [cut_size]; omega) (cut w1) w2 rfl (by rw [cut_size]; omega) h2
        simp only [e1, e2, branch_true, branch_false, grd p1 h1, guarded_true, cutE p1 h1, if_true, k2, Option.bind_some, svLeafK_leaf, boolK_bool] at sp im
        exact ⟨b, sp.trans k1, den_of im⟩
      | false =>
        simp only [e1, e2, branch_false] at sp im
        have s1 := spec_Compatible_1_eq Dn (w1.size : Int) (w2.size : Int)
        have i1 := impl_Compatible_0_eq Dn
        by_cases hb : ends w1 93 = true ∧ ends w2 93 = true
        · obtain ⟨l1, l2⟩ := hb
          have p1 := pos l1
          have p2 := pos l2
          obtain ⟨b, k1, k2⟩ := ih _ (by rw [cut_size, cut_size]; omega) (cut w1) (cut w2) rfl (by rw [cut_size]; omega) (by rw [cut_size]; omega)
          have q1 : ((w1.size : Nat) : Int) > 0 := by omega
          have q2 : ((w2.size : Nat) : Int) > 0 := by omega
          simp only [q1, q2, decide_true, beq_self_eq_true, branch_true, grd2 p1 h1, grd2 p2 h2, guarded_true, last p1 h1, last p2 h2, l1, l2, s1, Option.getD_some, Option.getD_none, grd p1 h1, grd p2 h2, cutE p1 h1, cutE p2 h2] at sp
          simp only [l1, l2, beq_self_eq_true, branch_true, i1, if_true, k2, Option.bind_some, svLeafK_leaf, boolK_bool] at im
          exact ⟨b, sp.trans k1, den_of im⟩
        · have fin : ∃ b, branch ((((w1.size : Nat) : Int) == 0) == true) (branch ((((w2.size : Nat) : Int) == 0) == true) (some (SV.leaf (Leaf.bool (n1.toList == n2.toList)), [])) (some (SV.leaf (Leaf.bool false), []))) (some (SV.leaf (Leaf.bool false), [])) = (some (vbool b, []) : Res) := by
            rw [branch_ite, branch_ite]
            split
            · split
              · exact ⟨_, rfl⟩
              · exact ⟨_, rfl⟩
            · exact ⟨_, rfl⟩
          obtain ⟨b, hb'⟩ := fin
          refine ⟨b, ?_, den_of ?_⟩
          · rw [sp]
            by_cases p1 : 0 < w1.size
            · have q1 : ((w1.size : Nat) : Int) > 0 := by omega
              by_cases p2 : 0 < w2.size
              · have q2 : ((w2.size : Nat) : Int) > 0 := by omega
                simp only [q1, q2, decide_true, beq_self_eq_true, branch_true, grd2 p1 h1, grd2 p2 h2, guarded_true, last p1 h1, last p2 h2]
                cases l1 : ends w1 93 with
                | true =>
                  have l2 : ends w2 93 = false := by simpa [l1] using hb
                  simp only [l2, s1, beq_self_eq_true, branch_true, branch_false]
                  exact hb'
                | false =>
                  simp only [s1, show ((false : Bool) == true) = false from rfl, branch_false]
                  exact hb'
              · have q2 : ¬ ((w2.size : Nat) : Int) > 0 := by omega
                simp only [q1, q2, decide_true, decide_false, beq_self_eq_true, branch_true, show ((false : Bool) == true) = false from rfl, branch_false, s1]
                exact hb'
            · have q1 : ¬ ((w1.size : Nat) : Int) > 0 := by omega
              simp only [q1, decide_false, show ((false : Bool) == true) = false from rfl, branch_false, s1]
              exact hb'
          · rw [im]
            cases l1 : ends w1 93 with
            | true =>
              have l2 : ends w2 93 = false := by simpa [l1] using hb
              simp only [l2, beq_self_eq_true, branch_true, i1, branch_false, emp]
              exact hb'
            | false =>
              simp only [i1, show ((false : Bool) == true) = false from rfl, branch_false, emp]
              exact hb'
end Go.Vs
end
section
open Go Go.Vs Go.Proofs
set_option linter.unusedVariables false
set_option linter.unusedSimpArgs false
namespace Go.Vs
open Classical in
noncomputable def compat (n1 w1 n2 w2 : ByteArray) : Bool := if h : w1.size ≤ maxLen ∧ w2.size ≤ maxLen then Classical.choose (compat_ex n1 n2 _ w1 w2 rfl h.1 h.2) else false
theorem d_spec_Compatible {n1 w1 n2 w2 : ByteArray} (h1 : w1.size ≤ maxLen) (h2 : w2.size ≤ maxLen) : Dn F.spec_Compatible [.agg [.str n1, .str w1], .agg [.str n2, .str w2]] [] = some (vbool (compat n1 w1 n2 w2), []) := by
  have h : w1.size ≤ maxLen ∧ w2.size ≤ maxLen := ⟨h1, h2⟩
  apply den_of
  rw [run_spec_Compatible]
  unfold compat
  rw [dif_pos h]
  exact (Classical.choose_spec (compat_ex n1 n2 _ w1 w2 rfl h.1 h.2)).1
theorem d_impl_Compatible {n1 w1 n2 w2 : ByteArray} (h1 : w1.size ≤ maxLen) (h2 : w2.size ≤ maxLen) : Dn F.impl_Compatible [.agg [.str n1, .str w1], .agg [.str n2, .str w2]] [] = some (vbool (compat n1 w1 n2 w2), []) := by
  have h : w1.size ≤ maxLen ∧ w2.size ≤ maxLen := ⟨h1, h2⟩
  unfold compat
  rw [dif_pos h]
  exact (Classical.choose_spec (compat_ex n1 n2 _ w1 w2 rfl h.1 h.2)).2
/-! ### Where a name stands -/
def strAt (e : List (Leaf false)) (p : Nat) : ByteArray := match e[p]? with | some (.str s) => s | _ => ⟨#[]⟩
def idxOf (s : ByteArray) : Int → List (List (Leaf false)) → Int
  | _, [] => -1
  | i, e :: es => if ((strAt e 0).toList == s.toList) = true then i else idxOf s (i + 1) es
theorem spec_InAt_from {es : List (List (Leaf false))} {s : ByteArray} (hl : es.length ≤ maxLen) (hq : ∀ e ∈ es, IsInDef e) : ∀ i : Nat, i ≤ es.length →
    spec_InAt_A Dn (spec_InAt_0 es s i) = some (vint (idxOf s i (es.drop i)), []) := by
  refine upto_ind ?_ ?_
  · rw [spec_InAt_0_eq]; simp [idxOf]
  · intro i hi ih
    obtain ⟨s0, s1, s2, s3, b4, i5, s6, e7, e8, e9, he, h0, h1, h2, h3, h6, h7, q7, h8, q8, h9, q9⟩ := (hq _ (List.getElem_mem hi)).ex
    rw [spec_InAt_0_eq, drop_at hi]
    simp only [Int.ofNat_lt, hi, decide_true, branch_true, Int.natCast_nonneg, Bool.and_true, Int.toNat_natCast, guarded_true, wrap_upL (Nat.lt_of_lt_of_le hi hl), sized_all (fun e he => (hq e he).len), getD_lt hi]
    rw [he]
    simp only [atK_zero, strK_str, branch_ite, idxOf, strAt, List.getElem?_cons_zero, ih]
    by_cases hx : (s0.toList == s.toList) = true <;> simp [hx]
theorem d_spec_InAt {es : List (List (Leaf false))} {s : ByteArray} (hl : es.length ≤ maxLen) (hq : ∀ e ∈ es, IsInDef e) : Dn F.spec_InAt [vsl es, .leaf (.str s)] [] = some (vint (idxOf s 0 es), []) := by
  apply den_of
  rw [run_spec_InAt]
  exact spec_InAt_from hl hq 0 (Nat.zero_le _)
theorem d_impl_InAt_1 {e : List (Leaf false)} {s : ByteArray} (h : IsInDef e) : Dn F.impl_InAt_1 [.agg e, .ptr 0 0] [[.leaf (.str s)]] = some (vbool ((strAt e 0).toList == s.toList), [[.leaf (.str s)]]) := by
  cases h
  apply den_of
  rw [run_impl_InAt_1]
  rfl
theorem indexIn_from {es : List (List (Leaf false))} {s : ByteArray} (hl : es.length ≤ maxLen) (hq : ∀ e ∈ es, IsInDef e) : ∀ i : Nat, i ≤ es.length →
    slices_IndexFunc_S_impl_InDef_impl_InDef_c1p1_A Dn (slices_IndexFunc_S_impl_InDef_impl_InDef_c1p1_0 es F.impl_InAt_1 es.length i s) = some (vint (idxOf s i (es.drop i)), [[.leaf (.str s)]]) := by
  refine upto_ind ?_ ?_
  · rw [slices_IndexFunc_S_impl_InDef_impl_InDef_c1p1_0_eq]; simp [idxOf]
  · intro i hi ih
    have hci := d_impl_InAt_1 (s := s) (hq _ (List.getElem_mem hi))
    obtain ⟨s0, s1, s2, s3, b4, i5, s6, e7, e8, e9, he, h0, h1, h2, h3, h6, h7, q7, h8, q8, h9, q9⟩ := (hq _ (List.getElem_mem hi)).ex
    rw [slices_IndexFunc_S_impl_InDef_impl_InDef_c1p1_0_eq, drop_at hi]
    simp only [Int.ofNat_lt, hi, decide_true, branch_true, Int.natCast_nonneg, Bool.and_true, Int.toNat_natCast, guarded_true, wrap_upL (Nat.lt_of_lt_of_le hi hl), sized_all (fun e he => (hq e he).len), getD_lt hi]
    rw [he] at hci ⊢
    simp only [bindE_eq, atK_zero, atK_succ, intK_int, strK_str, boolK_bool, slK_sl, hci, Option.bind_some, headB_cons, headK_cons, svLeafK_leaf, lastK_nil, lastB_nil, branch_ite, idxOf, strAt, List.getElem?_cons_zero, ih]
    by_cases hx : (s0.toList == s.toList) = true <;> simp [hx]
theorem d_impl_InAt {es : List (List (Leaf false))} {s : ByteArray} (hl : es.length ≤ maxLen) (hq : ∀ e ∈ es, IsInDef e) : Dn F.impl_InAt [vsl es, .leaf (.str s)] [] = some (vint (idxOf s 0 es), []) := by
  have key : Dn F.slices_IndexFunc_S_impl_InDef_impl_InDef [vsl es, .fn F.impl_InAt_1 [.ptr 0 0]] [[.leaf (.str s)]] = some (vint (idxOf s 0 es), [[.leaf (.str s)]]) := by
    apply den_of
    rw [run_slices_IndexFunc_S_impl_InDef_impl_InDef_c1p1]
    exact indexIn_from hl hq 0 (Nat.zero_le _)
  apply den_of
  rw [run_impl_InAt, key]
  simp
theorem idxOf_lt (s : ByteArray) : ∀ (es : List (List (Leaf false))) (i : Int), 0 ≤ i → idxOf s i es = -1 ∨ (i ≤ idxOf s i es ∧ idxOf s i es < i + es.length)
  | [], i, h => .inl rfl
  | e :: es, i, h => by
    unfold idxOf
    split
    · right; simp; omega
    · rcases idxOf_lt s es (i + 1) (by omega) with h1 | h1
      · exact .inl h1
      · right; simp only [List.length_cons]; push_cast; omega
/-! ### Are two values alike? -/
mutual
def eqF : Leaf false → Leaf false → Bool
  | .int _ a, .int _ b => a == b
  | .str a, .str b => a.toList == b.toList
  | .bool a, .bool b => a == b
  | .sl _ a, .sl _ b => eqE a b
  | _, _ => false
def eqL : List (Leaf false) → List (Leaf false) → Bool
  | [], [] => true
  | a :: r, b :: s => eqF a b && eqL r s
  | _, _ => false
def eqE : List (List (Leaf false)) → List (List (Leaf false)) → Bool
  | [], [] => true
  | a :: r, b :: s => eqL a b && eqE r s
  | _, _ => false
end
theorem eqE_len : ∀ (a b : List (List (Leaf false))), eqE a b = true → a.length = b.length
  | [], [], _ => rfl
  | _ :: r, _ :: s, h => by
    rw [eqE, Bool.and_eq_true] at h
    rw [List.length_cons, List.length_cons, eqE_len r s h.2]
  | [], _ :: _, h => by simp [eqE] at h
  | _ :: _, [], h => by simp [eqE] at h
theorem names_from {β : Type} {A : Int → Option β} {no yes : Option β} {a b : List (List (Leaf false))} (hla : a.length ≤ maxLen) (hlen : a.length = b.length) (qa : ∀ e ∈ a, IsStr e) (qb : ∀ e ∈ b, IsStr e)
    (hend : A a.length = yes) (hstep : ∀ (i : Nat) (hi : i < a.length), A i = branch (!((strAt a[i] 0).toList == (strAt (b[i]'(by omega)) 0).toList)) no (A ((i + 1 : Nat) : Int))) :
    ∀ i : Nat, i ≤ a.length → A i = if eqE (a.drop i) (b.drop i) = true then yes else no := by
  refine upto_ind ?_ ?_
  · rw [hend, List.drop_length, hlen, List.drop_length]; simp [eqE]
  · intro i hi ih
    rw [hstep i hi, ih, drop_at hi, drop_at (show i < b.length by omega)]
    obtain ⟨s, hs, _⟩ := qa _ (List.getElem_mem hi)
    obtain ⟨u, hu, _⟩ := qb _ (List.getElem_mem (show i < b.length by omega))
    simp only [hs, hu, strAt, List.getElem?_cons_zero, eqE, eqL, eqF, branch_ite, Bool.and_true]
    cases hx : (s.toList == u.toList) <;> simp
theorem d_slices_Equal {a b : List (List (Leaf false))} (ha : a.length ≤ maxLen) (qa : ∀ e ∈ a, IsStr e) (qb : ∀ e ∈ b, IsStr e) : Dn F.slices_Equal_S_string_string [vsl a, vsl b] [] = some (vbool (eqE a b), []) := by
  apply den_of
  rw [run_slices_Equal_S_string_string]
  by_cases hlen : a.length = b.length
  · have hne : (((a.length : Nat) : Int) != ((b.length : Nat) : Int)) = false := by simp [hlen]
    rw [hne, branch_false]
    have := names_from (A := fun i => slices_Equal_S_string_string_A Dn (slices_Equal_S_string_string_0 a b a.length i)) (no := some (vbool false, [])) (yes := some (vbool true, [])) ha hlen qa qb (by
      rw [slices_Equal_S_string_string_0_eq]; simp) (fun i hi => by
      obtain ⟨s, hs, _⟩ := qa _ (List.getElem_mem hi)
      have hib : i < b.length := by omega
      obtain ⟨u, hu, _⟩ := qb _ (List.getElem_mem hib)
      rw [slices_Equal_S_string_string_0_eq]
      simp only [Int.ofNat_lt, hi, hib, decide_true, branch_true, Int.natCast_nonneg, Bool.and_true, Int.toNat_natCast, guarded_true, wrap_upL (Nat.lt_of_lt_of_le hi ha), sized_all (fun e he => (qa e he).len), sized_all (fun e he => (qb e he).len), getD_lt hi, getD_lt hib, hs, hu, atK_zero, strK_str, strAt, List.getElem?_cons_zero]) 0 (Nat.zero_le _)
    simp only [List.drop_zero] at this
    rw [show ((0 : Int)) = ((0 : Nat) : Int) from rfl, this]
    cases eqE a b <;> rfl
  · have hne : (((a.length : Nat) : Int) != ((b.length : Nat) : Int)) = true := by simp; omega
    have : eqE a b = false := by rw [Bool.eq_false_iff]; exact fun h => hlen (eqE_len a b h)
    rw [hne, this]; rfl
theorem items_from {β : Type} {A : Int → Option β} {no yes : Option β} {a b : List (List (Leaf false))} (hlen : a.length = b.length)
    (hend : A a.length = yes) (hstep : ∀ (i : Nat) (hi : i < a.length), A i = branch (!(eqL a[i] (b[i]'(by omega)))) no (A ((i + 1 : Nat) : Int))) :
    ∀ i : Nat, i ≤ a.length → A i = if eqE (a.drop i) (b.drop i) = true then yes else no := by
  refine upto_ind ?_ ?_
  · rw [hend, List.drop_length, hlen, List.drop_length]; simp [eqE]
  · intro i hi ih
    rw [hstep i hi, ih, drop_at hi, drop_at (show i < b.length by omega)]
    simp only [eqE, branch_ite]
    by_cases hx : eqL a[i] (b[i]'(by omega)) = true <;> simp [hx]
theorem d_SameValue {x : List (Leaf false)} (hx : IsValue x) : ∀ {y : List (Leaf false)}, IsValue y → Dn F.impl_SameValue [.agg x, .agg y] [] = some (vbool (eqL x y), []) ∧ Dn F.spec_SameValue [.agg x, .agg y] [] = some (vbool (eqL x y), []) := by
  induction hx with
  | mk i0 s1 e2 e3 h1 h2 q2 h3 q3 ih =>
    intro y hy
    cases hy with
    | mk j0 t1 f2 f3 g1 g2 r2 g3 r3 =>
      have step : ∀ (i : Nat) (hi : i < e2.length) (hib : i < f2.length), Dn F.impl_SameValue [.agg e2[i], .agg f2[i]] [] = some (vbool (eqL e2[i] f2[i]), []) ∧ Dn F.spec_SameValue [.agg e2[i], .agg f2[i]] [] = some (vbool (eqL e2[i] f2[i]), []) :=
        fun i hi hib => ih _ (List.getElem_mem hi) (r2 _ (List.getElem_mem hib))
      have val : eqL [.int .i64 i0, .str s1, .sl fP e2, .sl fP e3] [.int .i64 j0, .str t1, .sl fP f2, .sl fP f3] = ((i0 == j0) && ((s1.toList == t1.toList) && (eqE e2 f2 && eqE e3 f3))) := by
        simp only [eqL, eqF, Bool.and_true]
      rw [val]
      constructor
      · have hE : Dn F.slices_EqualFunc_S_impl_Value_S_impl_Value_impl_Value_impl_Value [vsl e2, vsl f2, .fn F.impl_SameValue []] [] = some (vbool (eqE e2 f2), []) := by
          apply den_of
          rw [run_slices_EqualFunc_S_impl_Value_S_impl_Value_impl_Value_impl_Value_c0]
          by_cases hlen : e2.length = f2.length
          · have hne : (((e2.length : Nat) : Int) != ((f2.length : Nat) : Int)) = false := by simp [hlen]
            rw [hne, branch_false]
            have := items_from (A := fun i => slices_EqualFunc_S_impl_Value_S_impl_Value_impl_Value_impl_Value_c0_A Dn (slices_EqualFunc_S_impl_Value_S_impl_Value_impl_Value_impl_Value_c0_0 f2 F.impl_SameValue e2 e2.length i)) (no := some (vbool false, [])) (yes := some (vbool true, [])) hlen (by
              rw [slices_EqualFunc_S_impl_Value_S_impl_Value_impl_Value_impl_Value_c0_0_eq]; simp) (fun i hi => by
              have hib : i < f2.length := by omega
              have hc := (step i hi hib).1
              obtain ⟨a0, a1, a2, a3, ha, _⟩ := (q2 _ (List.getElem_mem hi)).ex
              obtain ⟨b0, b1, b2, b3, hb, _⟩ := (r2 _ (List.getElem_mem hib)).ex
              rw [slices_EqualFunc_S_impl_Value_S_impl_Value_impl_Value_impl_Value_c0_0_eq]
              rw [ha, hb] at hc
              simp only [Int.ofNat_lt, hi, hib, decide_true, branch_true, Int.natCast_nonneg, Bool.and_true, Int.toNat_natCast, guarded_true, wrap_upL (Nat.lt_of_lt_of_le hi h2), sized_all (fun e he => (q2 e he).len), sized_all (fun e he => (r2 e he).len), getD_lt hi, getD_lt hib, ha, hb, bindE_eq, atK_zero, atK_succ, intK_int, strK_str, slK_sl, hc, Option.bind_some, lastB_nil, svLeafK_leaf, boolK_bool]) 0 (Nat.zero_le _)
            simp only [List.drop_zero] at this
            rw [show ((0 : Int)) = ((0 : Nat) : Int) from rfl, this]
            cases eqE e2 f2 <;> rfl
          · have hne : (((e2.length : Nat) : Int) != ((f2.length : Nat) : Int)) = true := by simp; omega
            have : eqE e2 f2 = false := by rw [Bool.eq_false_iff]; exact fun h => hlen (eqE_len _ _ h)
            rw [hne, this]; rfl
        apply den_of
        rw [run_impl_SameValue, d_slices_Equal h3 q3 r3]
        simp only [Option.bind_some, svLeafK_leaf, boolK_bool, hE, lastB_nil]
        cases (i0 == j0) <;> cases (s1.toList == t1.toList) <;> cases eqE e3 f3 <;> cases eqE e2 f2 <;> rfl
      · have s2 : e2.length = f2.length → spec_SameValue_A Dn (spec_SameValue_2 0 i0 s1 e2 e3 j0 t1 f2 f3) = some (vbool (eqE e2 f2), []) := fun hlen => by
          have := items_from (A := fun i => spec_SameValue_A Dn (spec_SameValue_2 i i0 s1 e2 e3 j0 t1 f2 f3)) (no := some (vbool false, [])) (yes := some (vbool true, [])) hlen (by
            rw [spec_SameValue_2_eq]; simp) (fun i hi => by
            have hib : i < f2.length := by omega
            have hc := (step i hi hib).2
            obtain ⟨a0, a1, a2, a3, ha, _⟩ := (q2 _ (List.getElem_mem hi)).ex
            obtain ⟨b0, b1, b2, b3, hb, _⟩ := (r2 _ (List.getElem_mem hib)).ex
            rw [spec_SameValue_2_eq]
            rw [ha, hb] at hc
            simp only [Int.ofNat_lt, hi, hib, decide_true, branch_true, Int.natCast_nonneg, Bool.and_true, Int.toNat_natCast, guarded_true, wrap_upL (Nat.lt_of_lt_of_le hi h2), sized_all (fun e he => (q2 e he).len), sized_all (fun e he => (r2 e he).len), getD_lt hi, getD_lt hib, ha, hb, bindE_eq, atK_zero, atK_succ, intK_int, strK_str, slK_sl, hc, Option.bind_some, lastB_nil, svLeafK_leaf, boolK_bool]) 0 (Nat.zero_le _)
          simp only [List.drop_zero] at this
          rw [show ((0 : Int)) = ((0 : Nat) : Int) from rfl, this]
          cases eqE e2 f2 <;> rfl
        have s1' : e2.length = f2.length → e3.length = f3.length → spec_SameValue_A Dn (spec_SameValue_1 0 i0 s1 e2 e3 j0 t1 f2 f3) = some (vbool (eqE e2 f2 && eqE e3 f3), []) := fun hl2 hl3 => by
          have := names_from (A := fun i => spec_SameValue_A Dn (spec_SameValue_1 i i0 s1 e2 e3 j0 t1 f2 f3)) (no := some (vbool false, [])) (yes := some (vbool (eqE e2 f2), [])) h3 hl3 q3 r3 (by
            rw [spec_SameValue_1_eq, s2 hl2]; simp) (fun i hi => by
            obtain ⟨s, hs, _⟩ := q3 _ (List.getElem_mem hi)
            have hib : i < f3.length := by omega
            obtain ⟨u, hu, _⟩ := r3 _ (List.getElem_mem hib)
            rw [spec_SameValue_1_eq]
            simp only [Int.ofNat_lt, hi, hib, decide_true, branch_true, Int.natCast_nonneg, Bool.and_true, Int.toNat_natCast, guarded_true, wrap_upL (Nat.lt_of_lt_of_le hi h3), sized_all (fun e he => (q3 e he).len), sized_all (fun e he => (r3 e he).len), getD_lt hi, getD_lt hib, hs, hu, atK_zero, strK_str, strAt, List.getElem?_cons_zero]) 0 (Nat.zero_le _)
          simp only [List.drop_zero] at this
          rw [show ((0 : Int)) = ((0 : Nat) : Int) from rfl, this]
          cases eqE e3 f3 <;> simp
        apply den_of
        rw [run_spec_SameValue]
        simp only [spec_SameValue_0_eq, branch_true, branch_ite]
        by_cases hi : i0 = j0
        · subst hi
          cases hs : (s1.toList == t1.toList) with
          | true =>
            by_cases hl2 : e2.length = f2.length
            · by_cases hl3 : e3.length = f3.length
              · have n3 : (((e3.length : Nat) : Int) != ((f3.length : Nat) : Int)) = false := by simp [hl3]
                have n2 : (((e2.length : Nat) : Int) != ((f2.length : Nat) : Int)) = false := by simp [hl2]
                rw [s1' hl2 hl3]
                simp [n2, n3]
              · have : eqE e3 f3 = false := by rw [Bool.eq_false_iff]; exact fun h => hl3 (eqE_len _ _ h)
                have n3 : (((e3.length : Nat) : Int) != ((f3.length : Nat) : Int)) = true := by simp; omega
                simp [n3, this]
            · have : eqE e2 f2 = false := by rw [Bool.eq_false_iff]; exact fun h => hl2 (eqE_len _ _ h)
              have n2 : (((e2.length : Nat) : Int) != ((f2.length : Nat) : Int)) = true := by simp; omega
              simp [n2, this]
          | false => simp
        · have : (i0 != j0) = true := by simp [hi]
          have h2 : (i0 == j0) = false := by simp [hi]
          simp [this, h2]
end Go.Vs
end
section
open Go Go.Vs Go.Proofs
set_option linter.unusedVariables false
set_option linter.unusedSimpArgs false
namespace Go.Vs
/-! ### What is otherwise in what may be handed in -/
def chg (code : Int) (o p : ByteArray) : List (Leaf false) := [.int .i64 code, .str o, .str p]
def boolAt (e : List (Leaf false)) (p : Nat) : Bool := match e[p]? with | some (.bool b) => b | _ => false
noncomputable def d1 (o p n1 w1 n2 w2 : ByteArray) : List (List (Leaf false)) := if (!(n1 == n2 && w1 == w2)) = true then [chg (if compat n1 w1 n2 w2 = true then 19 else 7) o p] else []
def d2 (o p : ByteArray) (b c : Bool) (w2 : ByteArray) (xv yv : List (Leaf false)) : List (List (Leaf false)) :=
  if (b && (!c && ends w2 33)) = true then [chg 9 o p] else if (!(b == c) || !(eqL xv yv)) = true then [chg 21 o p] else []
noncomputable def perA (o : ByteArray) (b : List (List (Leaf false))) (x : List (Leaf false)) : List (List (Leaf false)) :=
  if idxOf (strAt x 0) 0 b < 0 then [chg 6 o (strAt x 0)] else
    d1 o (strAt x 0) (strAt x 2) (strAt x 3) (strAt (b.getD (idxOf (strAt x 0) 0 b).toNat []) 2) (strAt (b.getD (idxOf (strAt x 0) 0 b).toNat []) 3) ++
    d2 o (strAt x 0) (boolAt x 4) (boolAt (b.getD (idxOf (strAt x 0) 0 b).toNat []) 4) (strAt (b.getD (idxOf (strAt x 0) 0 b).toNat []) 3) ((x.drop 5).take 4) (((b.getD (idxOf (strAt x 0) 0 b).toNat []).drop 5).take 4)
def perB (o : ByteArray) (a : List (List (Leaf false))) (y : List (Leaf false)) : List (List (Leaf false)) :=
  if idxOf (strAt y 0) 0 a ≥ 0 then [] else [chg (if (ends (strAt y 3) 33 && !(boolAt y 4)) = true then 8 else 20) o (strAt y 0)]
noncomputable def inCh (o : ByteArray) (a b : List (List (Leaf false))) : List (List (Leaf false)) := a.flatMap (perA o b) ++ b.flatMap (perB o a)
theorem d1_len (o p n1 w1 n2 w2 : ByteArray) : (d1 o p n1 w1 n2 w2).length ≤ 1 := by unfold d1; split <;> simp
theorem d2_len (o p : ByteArray) (b c : Bool) (w2 : ByteArray) (xv yv : List (Leaf false)) : (d2 o p b c w2 xv yv).length ≤ 1 := by unfold d2; split <;> (try split) <;> simp
theorem perA_len (o : ByteArray) (b : List (List (Leaf false))) (x : List (Leaf false)) : (perA o b x).length ≤ 2 := by
  unfold perA
  split
  · simp
  · rw [List.length_append]
    have h1 := d1_len o (strAt x 0) (strAt x 2) (strAt x 3) (strAt (b.getD (idxOf (strAt x 0) 0 b).toNat []) 2) (strAt (b.getD (idxOf (strAt x 0) 0 b).toNat []) 3)
    have h2 := d2_len o (strAt x 0) (boolAt x 4) (boolAt (b.getD (idxOf (strAt x 0) 0 b).toNat []) 4) (strAt (b.getD (idxOf (strAt x 0) 0 b).toNat []) 3) ((x.drop 5).take 4) (((b.getD (idxOf (strAt x 0) 0 b).toNat []).drop 5).take 4)
    omega
theorem perB_len (o : ByteArray) (a : List (List (Leaf false))) (y : List (Leaf false)) : (perB o a y).length ≤ 1 := by unfold perB; split <;> simp
theorem flatMap_len {α β : Type} {f : α → List β} {k : Nat} (h : ∀ x, (f x).length ≤ k) : ∀ l : List α, (l.flatMap f).length ≤ k * l.length
  | [] => by simp
  | x :: l => by
    have h1 := h x
    have h2 := flatMap_len h l
    rw [List.flatMap_cons, List.length_append, List.length_cons, Nat.mul_add]; omega
theorem chg_all {o : ByteArray} {a b : List (List (Leaf false))} : ∀ e ∈ inCh o a b, IsChange e := by
  intro e he
  have hc : ∀ {code : Int} {p : ByteArray}, IsChange (chg code o p) := fun {code p} => .mk _ _ _
  have h1 : ∀ {x : List (Leaf false)}, e ∈ perA o b x → IsChange e := fun {x} hx => by
    unfold perA at hx
    split at hx
    · rw [List.mem_singleton.1 hx]; exact hc
    · rcases List.mem_append.1 hx with hx | hx
      · unfold d1 at hx
        split at hx
        · rw [List.mem_singleton.1 hx]; exact hc
        · simp at hx
      · unfold d2 at hx
        split at hx
        · rw [List.mem_singleton.1 hx]; exact hc
        · split at hx
          · rw [List.mem_singleton.1 hx]; exact hc
          · simp at hx
  have h2 : ∀ {x : List (Leaf false)}, e ∈ perB o a x → IsChange e := fun {x} hx => by
    unfold perB at hx
    split at hx
    · simp at hx
    · rw [List.mem_singleton.1 hx]; exact hc
  rcases List.mem_append.1 he with he | he
  · obtain ⟨x, _, hx⟩ := List.mem_flatMap.1 he; exact h1 hx
  · obtain ⟨x, _, hx⟩ := List.mem_flatMap.1 he; exact h2 hx
theorem room {n : Nat} (h : n ≤ 4194304) : (decide ((n + 1) * 40 ≤ maxBytes) && true) = true := by
  have hb : maxBytes = 140737488355328 := rfl
  rw [Bool.and_true, decide_eq_true_eq]; omega
theorem room2 {n : Nat} (h : n ≤ 4194304) : decide ((n + 1) * 40 ≤ maxBytes) = true := by
  have hb : maxBytes = 140737488355328 := rfl
  rw [decide_eq_true_eq]; omega
section
variable {o : ByteArray} {a b : List (List (Leaf false))}
theorem spec_tail {out : List (List (Leaf false))} {i : Int} {x0 x1 x2 x3 : ByteArray} {x4 : Bool} {x5 : Int} {x6 : ByteArray} {x7 x8 x9 : List (List (Leaf false))} {y0 y1 y2 y3 : ByteArray} {y4 : Bool} {y5 : Int} {y6 : ByteArray} {y7 y8 y9 : List (List (Leaf false))}
    (hx : IsValue [.int .i64 x5, .str x6, .sl fP x7, .sl fP x8]) (hy : IsValue [.int .i64 y5, .str y6, .sl fP y7, .sl fP y8]) (hw : y3.size ≤ maxLen) (hr : out.length ≤ 4194304) :
    spec_InChanges_A Dn (spec_InChanges_3 o a b out i x0 x1 x2 x3 x4 x5 x6 x7 x8 x9 y0 y1 y2 y3 y4 y5 y6 y7 y8 y9) =
      spec_InChanges_A Dn (spec_InChanges_1 o a b (out ++ d2 o x0 x4 y4 y3 [.int .i64 x5, .str x6, .sl fP x7, .sl fP x8] [.int .i64 y5, .str y6, .sl fP y7, .sl fP y8]) i) := by
  have sv := (d_SameValue hx hy).2
  rw [spec_InChanges_3_eq]
  simp -implicitDefEqProofs only [d_spec_Needed hw, Option.bind_some, svLeafK_leaf, boolK_bool, spec_InChanges_5_eq, spec_InChanges_8_eq, sv, room hr, guarded_true]
  unfold d2
  generalize eqL [.int .i64 x5, .str x6, .sl fP x7, .sl fP x8] [.int .i64 y5, .str y6, .sl fP y7, .sl fP y8] = q
  cases x4 <;> cases y4 <;> cases ends y3 33 <;> cases q <;> simp [chg]
theorem spec_A_from (ha : a.length ≤ 1048576) (hb : b.length ≤ 1048576) (qa : ∀ e ∈ a, IsInDef e) (qb : ∀ e ∈ b, IsInDef e) : ∀ i : Nat, i ≤ a.length → ∀ out : List (List (Leaf false)), out.length ≤ 2 * i →
    spec_InChanges_A Dn (spec_InChanges_0 o a b out i) = spec_InChanges_A Dn (spec_InChanges_4 o a b (out ++ (a.drop i).flatMap (perA o b)) 0) := by
  have hml : (1048576 : Nat) ≤ maxLen := by decide
  have hla : a.length ≤ maxLen := Nat.le_trans ha hml
  have hlb : b.length ≤ maxLen := Nat.le_trans hb hml
  refine upto_ind ?_ ?_
  · intro out ho; rw [spec_InChanges_0_eq]; simp
  · intro i hi ih out ho
    have hro : out.length ≤ 4194304 := by omega
    have hxi := qa _ (List.getElem_mem hi)
    obtain ⟨x0, x1, x2, x3, x4, x5, x6, x7, x8, x9, he, h0, h1, h2, h3, h6, h7, q7, h8, q8, h9, q9⟩ := hxi.ex
    have next : ∀ out' : List (List (Leaf false)), out' = out ++ perA o b a[i] → spec_InChanges_A Dn (spec_InChanges_1 o a b out' i) = spec_InChanges_A Dn (spec_InChanges_4 o a b (out ++ (a.drop i).flatMap (perA o b)) 0) := fun out' ho' => by
      subst ho'
      rw [spec_InChanges_1_eq, wrap_upL (Nat.lt_of_lt_of_le hi hla), ih _ (by have := perA_len o b a[i]; rw [List.length_append]; omega), drop_at hi, List.flatMap_cons, List.append_assoc]
    have hin := d_spec_InAt (s := x0) hlb qb
    rw [spec_InChanges_0_eq]
    simp -implicitDefEqProofs only [Int.ofNat_lt, hi, decide_true, branch_true, Int.natCast_nonneg, Bool.and_true, Int.toNat_natCast, guarded_true, sized_all (fun e he => (qa e he).len), getD_lt hi]
    rw [he]
    simp -implicitDefEqProofs only [bindE_eq, atK_zero, atK_succ, intK_int, strK_str, boolK_bool, slK_sl, hin, Option.bind_some, svLeafK_leaf]
    rcases idxOf_lt x0 b 0 (by omega) with hk | ⟨hk0, hk1⟩
    · rw [hk]
      simp -implicitDefEqProofs only [show ((-1 : Int) < 0) by omega, decide_true, branch_true, room hro, room2 hro, guarded_true]
      exact next _ (by rw [he]; simp -implicitDefEqProofs only [perA, strAt, List.getElem?_cons_zero, hk, show ((-1 : Int) < 0) = True from eq_true (by omega), if_true, chg])
    · obtain ⟨j, hj⟩ : ∃ j : Nat, idxOf x0 0 b = (j : Int) := ⟨(idxOf x0 0 b).toNat, by omega⟩
      have hjb : j < b.length := by omega
      obtain ⟨y0, y1, y2, y3, y4, y5, y6, y7, y8, y9, hf, g0, g1, g2, g3, g6, g7, r7, g8, r8, g9, r9⟩ := (qb _ (List.getElem_mem hjb)).ex
      have hjn : ¬ ((j : Int) < 0) := by omega
      rw [hj]
      simp -implicitDefEqProofs only [hjn, decide_false, branch_false, Int.ofNat_lt, hjb, decide_true, Int.natCast_nonneg, Bool.and_true, Int.toNat_natCast, guarded_true, sized_all (fun e he => (qb e he).len), getD_lt hjb]
      rw [hf]
      simp -implicitDefEqProofs only [bindE_eq, atK_zero, atK_succ, intK_int, strK_str, boolK_bool, slK_sl, d_spec_Compatible h3 g3, Option.bind_some, svLeafK_leaf, spec_InChanges_2_eq, room hro, room2 hro, guarded_true]
      have tail := fun (out' : List (List (Leaf false))) (hr : out'.length ≤ 4194304) => spec_tail (o := o) (a := a) (b := b) (i := (i : Int)) (x0 := x0) (x1 := x1) (x2 := x2) (x3 := x3) (x4 := x4) (x9 := x9) (y0 := y0) (y1 := y1) (y2 := y2) (y4 := y4) (y9 := y9) (out := out') (.mk x5 x6 x7 x8 h6 h7 q7 h8 q8) (.mk y5 y6 y7 y8 g6 g7 r7 g8 r8) g3 hr
      have pa : perA o b a[i] = d1 o x0 x2 x3 y2 y3 ++ d2 o x0 x4 y4 y3 [.int .i64 x5, .str x6, .sl fP x7, .sl fP x8] [.int .i64 y5, .str y6, .sl fP y7, .sl fP y8] := by
        rw [he]
        simp -implicitDefEqProofs only [perA, strAt, boolAt, List.getElem?_cons_zero, List.getElem?_cons_succ, hj, hjn, if_false, Int.toNat_natCast, getD_lt hjb, hf, List.drop_succ_cons, List.drop_zero, List.take_succ_cons, List.take_zero]
      rw [branch_ite]
      by_cases hne : (!(x2 == y2 && x3 == y3)) = true
      · have e1 : d1 o x0 x2 x3 y2 y3 = [chg (if compat x2 x3 y2 y3 = true then 19 else 7) o x0] := by unfold d1; rw [if_pos hne]
        rw [if_pos hne, branch_ite]
        have hr2 : ∀ l : List (Leaf false), (out ++ [l]).length ≤ 4194304 := fun l => by rw [List.length_append]; simp; omega
        by_cases hcm : compat x2 x3 y2 y3 = true
        · rw [if_pos hcm, Bool.and_self, guarded_true, tail _ (hr2 _)]
          exact next _ (by rw [pa, e1, if_pos hcm]; simp only [chg, List.append_assoc])
        · rw [if_neg hcm, Bool.and_self, guarded_true, tail _ (hr2 _)]
          exact next _ (by rw [pa, e1, if_neg hcm]; simp only [chg, List.append_assoc])
      · have e1 : d1 o x0 x2 x3 y2 y3 = [] := by unfold d1; rw [if_neg hne]
        rw [if_neg hne, tail _ hro]
        exact next _ (by rw [pa, e1]; rfl)
theorem spec_B_from (ha : a.length ≤ 1048576) (hb : b.length ≤ 1048576) (qa : ∀ e ∈ a, IsInDef e) (qb : ∀ e ∈ b, IsInDef e) : ∀ i : Nat, i ≤ b.length → ∀ out : List (List (Leaf false)), out.length ≤ 2097152 + i →
    spec_InChanges_A Dn (spec_InChanges_4 o a b out i) = some (.own (some T.impl_Change) (out ++ (b.drop i).flatMap (perB o a)), []) := by
  have hml : (1048576 : Nat) ≤ maxLen := by decide
  have hla : a.length ≤ maxLen := Nat.le_trans ha hml
  have hlb : b.length ≤ maxLen := Nat.le_trans hb hml
  refine upto_ind ?_ ?_
  · intro out ho; rw [spec_InChanges_4_eq]; simp
  · intro i hi ih out ho
    have hro : out.length ≤ 4194304 := by omega
    obtain ⟨y0, y1, y2, y3, y4, y5, y6, y7, y8, y9, he, h0, h1, h2, h3, h6, h7, q7, h8, q8, h9, q9⟩ := (qb _ (List.getElem_mem hi)).ex
    have next : ∀ out' : List (List (Leaf false)), out' = out ++ perB o a b[i] → spec_InChanges_A Dn (spec_InChanges_6 o a b out' i) = some (.own (some T.impl_Change) (out ++ (b.drop i).flatMap (perB o a)), []) := fun out' ho' => by
      subst ho'
      rw [spec_InChanges_6_eq, wrap_upL (Nat.lt_of_lt_of_le hi hlb), ih _ (by have := perB_len o a b[i]; rw [List.length_append]; omega), drop_at hi, List.flatMap_cons, List.append_assoc]
    have hin := d_spec_InAt (s := y0) hla qa
    rw [spec_InChanges_4_eq]
    simp -implicitDefEqProofs only [spec_InChanges_7_eq, spec_InChanges_9_eq, Int.ofNat_lt, hi, decide_true, branch_true, Int.natCast_nonneg, Bool.and_true, Int.toNat_natCast, guarded_true, sized_all (fun e he => (qb e he).len), getD_lt hi]
    rw [he]
    simp -implicitDefEqProofs only [bindE_eq, atK_zero, atK_succ, intK_int, strK_str, boolK_bool, slK_sl, hin, d_spec_Needed h3, Option.bind_some, svLeafK_leaf, room hro, room2 hro, guarded_true]
    have pb : perB o a b[i] = if idxOf y0 0 a ≥ 0 then [] else [chg (if (ends y3 33 && !y4) = true then 8 else 20) o y0] := by
      rw [he]; rfl
    by_cases hk : idxOf y0 0 a ≥ 0
    · simp -implicitDefEqProofs only [hk, decide_true, branch_true]
      exact next _ (by rw [pb, if_pos hk]; simp)
    · simp -implicitDefEqProofs only [hk, decide_false, branch_false]
      rw [if_neg hk] at pb
      cases hn : ends y3 33 <;> cases hy : y4 <;> simp -implicitDefEqProofs only [hn, hy, beq_self_eq_true, branch_true, branch_false, Bool.not_true, Bool.not_false, show ((false : Bool) == true) = false from rfl] <;> exact next _ (by rw [pb, hn, hy]; rfl)
theorem d_spec_InChanges (ha : a.length ≤ 1048576) (hb : b.length ≤ 1048576) (qa : ∀ e ∈ a, IsInDef e) (qb : ∀ e ∈ b, IsInDef e) : Dn F.spec_InChanges [.leaf (.str o), vsl a, vsl b] [] = some (.own (some T.impl_Change) (inCh o a b), []) := by
  apply den_of
  rw [run_spec_InChanges]
  have h1 := spec_A_from (o := o) ha hb qa qb 0 (Nat.zero_le _) [] (by simp)
  have hl := flatMap_len (fun x => perA_len o b x) a
  have h2 := spec_B_from (o := o) ha hb qa qb 0 (Nat.zero_le _) (a.flatMap (perA o b)) (by omega)
  simp only [List.drop_zero, List.nil_append] at h1 h2
  exact h1.trans h2
end
end Go.Vs
end
