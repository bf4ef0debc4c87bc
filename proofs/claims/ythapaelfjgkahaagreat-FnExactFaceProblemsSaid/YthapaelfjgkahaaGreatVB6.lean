/- What the program's functions compute, read off their text by the shadow runner (VsDat, VsNames, VsBound, VsLst, ETa, ETs, ETe); no condition. -/
import Derived.Laws.Strings
import Derived.Sort.Walk0
import Derived.Test.YthapaelfjgkahaaGreatVB5
section
/- Data of whatever type, as leaves: how much of it there is; how it is counted. -/
set_option linter.unusedVariables false
namespace Go.Vs
theorem wrap_upL {i : Nat} (h : i < maxLen) : IntKind.i64.wrap ((i : Int) + 1) = ((i + 1 : Nat) : Int) := by
  have hm : maxLen = 9223372036854775807 := rfl
  rw [wrap64 (by omega) (by omega)]; rfl
mutual
/-- What is left of a number of bytes; -1: they do not last. -/
def szF : Leaf false → Int → Int
  | .str s, n => if IntKind.i64.wrap (n - (s.size : Int)) < 0 then -1 else IntKind.i64.wrap (n - (s.size : Int))
  | .sl _ es, n => if IntKind.i64.wrap (n - (es.length : Int)) < 0 then -1 else szE es (IntKind.i64.wrap (n - (es.length : Int)))
  | .bool _, n => n
  | .int _ _, n => n
  | .unk, n => n
  | .nl _, n => n
def szL : List (Leaf false) → Int → Int
  | [], n => n
  | l :: r, n => if szF l n < 0 then -1 else szL r (szF l n)
def szE : List (List (Leaf false)) → Int → Int
  | [], n => n
  | e :: es, n => if szL e n < 0 then -1 else szE es (szL e n)
end
theorem szL_append : ∀ (a b : List (Leaf false)) (n : Int), 0 ≤ n → szL (a ++ b) n = if szL a n < 0 then -1 else szL b (szL a n)
  | [], b, n, h => by simp [szL, Int.not_lt.2 h]
  | l :: a, b, n, h => by
    simp only [List.cons_append, szL]
    by_cases h1 : szF l n < 0
    · simp [h1]
    · simp only [h1, if_false]
      exact szL_append a b _ (by omega)
/-! Steps of the functions that count. -/
section
variable {r : List (Leaf false)} {n : Int}
abbrev vint (n : Int) : SV false := .leaf (.int .i64 n)
abbrev vbool (b : Bool) : SV false := .leaf (.bool b)
abbrev vsl (es : List (List (Leaf false))) : SV false := .leaf (.sl fP es)
abbrev Res := Option (SV false × List (List (SV false)))
theorem sz_str {s : ByteArray} {Y : Res} (g : 0 ≤ IntKind.i64.wrap (n - (s.size : Int)) → Y = some (vint (szL r (IntKind.i64.wrap (n - (s.size : Int)))), [])) :
    branch (decide (IntKind.i64.wrap (n - (s.size : Int)) < 0)) (some (SV.leaf (Leaf.int .i64 (-1)), [])) Y = some (vint (szL (.str s :: r) n), []) := by
  rw [branch_ite]
  by_cases h : IntKind.i64.wrap (n - (s.size : Int)) < 0
  · simp [h, szL, szF]
  · simp only [h, decide_false, Bool.false_eq_true, if_false, szL, szF]
    exact g (by omega)
theorem sz_int {k : IntKind} {z : Int} {Y : Res} (hn : 0 ≤ n) (g : Y = some (vint (szL r n), [])) : Y = some (vint (szL (.int k z :: r) n), []) := by
  rw [g]; simp [szL, szF, Int.not_lt.2 hn]
theorem sz_bool {b : Bool} {Y : Res} (hn : 0 ≤ n) (g : Y = some (vint (szL r n), [])) : Y = some (vint (szL (.bool b :: r) n), []) := by
  rw [g]; simp [szL, szF, Int.not_lt.2 hn]
theorem sz_call {d : Res} {a : List (Leaf false)} {Y : Int → Res} (hd : d = some (vint (szL a n), [])) (hn : 0 ≤ n) (g : ∀ k, 0 ≤ k → Y k = some (vint (szL r k), [])) :
    (d.bind fun r => svLeafK r.fst fun l => intK .i64 l fun n => branch (decide (n < 0)) (some (SV.leaf (Leaf.int .i64 (-1)), [])) (Y n)) = some (vint (szL (a ++ r) n), []) := by
  rw [hd, szL_append _ _ _ hn]
  simp only [Option.bind_some, svLeafK_leaf, intK_int, branch_ite]
  by_cases h : szL a n < 0
  · simp [h]
  · simp only [h, decide_false, Bool.false_eq_true, if_false]
    exact g _ (by omega)
theorem sz_callS {d : Res} {es : List (List (Leaf false))} {Y : Int → Res} (hd : d = some (vint (szF (.sl fP es) n), [])) (g : ∀ k, 0 ≤ k → Y k = some (vint (szL r k), [])) :
    (d.bind fun r => svLeafK r.fst fun l => intK .i64 l fun n => branch (decide (n < 0)) (some (SV.leaf (Leaf.int .i64 (-1)), [])) (Y n)) = some (vint (szL (.sl fP es :: r) n), []) := by
  rw [hd]
  simp only [Option.bind_some, svLeafK_leaf, intK_int, branch_ite, szL]
  by_cases h : szF (.sl fP es) n < 0
  · simp [h]
  · simp only [h, decide_false, Bool.false_eq_true, if_false]
    exact g _ (by omega)
theorem sz_len {es : List (List (Leaf false))} {Y : Res} (g : 0 ≤ IntKind.i64.wrap (n - (es.length : Int)) → Y = some (vint (szE es (IntKind.i64.wrap (n - (es.length : Int)))), [])) :
    branch (decide (IntKind.i64.wrap (n - (es.length : Int)) < 0)) (some (SV.leaf (Leaf.int .i64 (-1)), [])) Y = some (vint (szF (.sl fP es) n), []) := by
  rw [branch_ite, szF]
  by_cases h : IntKind.i64.wrap (n - (es.length : Int)) < 0
  · simp [h]
  · simp only [h, decide_false, Bool.false_eq_true, if_false]
    exact g (by omega)
theorem sz_next {e : List (Leaf false)} {es : List (List (Leaf false))} {d : Res} {Y : Int → Res} (hd : d = some (vint (szL e n), [])) (g : ∀ k, 0 ≤ k → Y k = some (vint (szE es k), [])) :
    (d.bind fun r => svLeafK r.fst fun l => intK .i64 l fun n => branch (decide (n < 0)) (some (SV.leaf (Leaf.int .i64 (-1)), [])) (Y n)) = some (vint (szE (e :: es) n), []) := by
  rw [hd]
  simp only [Option.bind_some, svLeafK_leaf, intK_int, branch_ite, szE]
  by_cases h : szL e n < 0
  · simp [h]
  · simp only [h, decide_false, Bool.false_eq_true, if_false]
    exact g _ (by omega)
theorem sz_nextS {s : ByteArray} {es : List (List (Leaf false))} {Y : Res} (g : 0 ≤ IntKind.i64.wrap (n - (s.size : Int)) → Y = some (vint (szE es (IntKind.i64.wrap (n - (s.size : Int)))), [])) :
    branch (decide (IntKind.i64.wrap (n - (s.size : Int)) < 0)) (some (SV.leaf (Leaf.int .i64 (-1)), [])) Y = some (vint (szE ([.str s] :: es) n), []) := by
  rw [branch_ite]
  by_cases h : IntKind.i64.wrap (n - (s.size : Int)) < 0
  · simp [h, szE, szL, szF]
  · simp only [h, decide_false, Bool.false_eq_true, if_false, szE, szL, szF]
    exact g (by omega)
end
/-! How many marks. -/
mutual
def mkF : Leaf false → Int → Int
  | .str _, k => IntKind.i64.wrap (k + 1)
  | .bool _, k => IntKind.i64.wrap (k + 1)
  | .int _ _, k => IntKind.i64.wrap (k + 1)
  | .sl _ es, k => mkE es k
  | .unk, k => k
  | .nl _, k => k
def mkL : List (Leaf false) → Int → Int
  | [], k => k
  | l :: r, k => mkL r (mkF l k)
def mkE : List (List (Leaf false)) → Int → Int
  | [], k => k
  | e :: es, k => mkE es (mkL e k)
end
theorem mkL_append : ∀ (a b : List (Leaf false)) (k : Int), mkL (a ++ b) k = mkL b (mkL a k)
  | [], _, _ => rfl
  | l :: a, b, k => by simp only [List.cons_append, mkL]; exact mkL_append a b _
mutual
/-- Elements, rows within rows. -/
def tF : Leaf false → Nat
  | .sl _ es => es.length + tE es
  | _ => 0
def tL : List (Leaf false) → Nat
  | [] => 0
  | l :: r => tF l + tL r
def tE : List (List (Leaf false)) → Nat
  | [] => 0
  | e :: es => tL e + tE es
end
mutual
/-- No element has more cells than that; texts and rows are not too long. -/
def okF (z : Nat) : Leaf false → Prop
  | .str s => s.size ≤ maxLen
  | .sl _ es => es.length ≤ maxLen ∧ okE z es
  | _ => True
def okL (z : Nat) : List (Leaf false) → Prop
  | [] => True
  | l :: r => okF z l ∧ okL z r
def okE (z : Nat) : List (List (Leaf false)) → Prop
  | [] => True
  | e :: es => e.length ≤ z ∧ okL z e ∧ okE z es
end
def cap : Int := 4611686018427387904
mutual
theorem szF_t {z : Nat} : ∀ (l : Leaf false) (n : Int), okF z l → 0 ≤ n → n ≤ cap → 0 ≤ szF l n → szF l n ≤ n ∧ (tF l : Int) ≤ n - szF l n
  | .str s, n, ho, h0, hn, h => by
    have hm : maxLen = 9223372036854775807 := rfl
    simp only [okF] at ho
    simp only [szF, tF, cap] at *
    rw [wrap64 (by omega) (by omega)] at h ⊢
    split at h <;> simp_all <;> omega
  | .sl _ es, n, ho, h0, hn, h => by
    have hm : maxLen = 9223372036854775807 := rfl
    simp only [okF] at ho
    simp only [szF, tF] at *
    rw [wrap64 (by simp only [cap] at hn; omega) (by simp only [cap] at hn; omega)] at h ⊢
    by_cases hl : n - (es.length : Int) < 0
    · simp [hl] at h
    · simp only [hl, if_false] at h ⊢
      have := szE_t es (n - es.length) ho.2 (by omega) (by omega) h
      omega
  | .bool _, n, _, _, _, _ => by simp [szF, tF]
  | .int _ _, n, _, _, _, _ => by simp [szF, tF]
  | .unk, n, _, _, _, _ => by simp [szF, tF]
  | .nl _, n, _, _, _, _ => by simp [szF, tF]
theorem szL_t {z : Nat} : ∀ (l : List (Leaf false)) (n : Int), okL z l → 0 ≤ n → n ≤ cap → 0 ≤ szL l n → szL l n ≤ n ∧ (tL l : Int) ≤ n - szL l n
  | [], n, _, _, _, _ => by simp [szL, tL]
  | l :: r, n, ho, h0, hn, h => by
    simp only [okL] at ho
    simp only [szL, tL] at *
    by_cases hl : szF l n < 0
    · simp [hl] at h
    · simp only [hl, if_false] at h ⊢
      have h1 := szF_t l n ho.1 h0 hn (by omega)
      have h2 := szL_t r _ ho.2 (by omega) (by omega) h
      omega
theorem szE_t {z : Nat} : ∀ (l : List (List (Leaf false))) (n : Int), okE z l → 0 ≤ n → n ≤ cap → 0 ≤ szE l n → szE l n ≤ n ∧ (tE l : Int) ≤ n - szE l n
  | [], n, _, _, _, _ => by simp [szE, tE]
  | e :: r, n, ho, h0, hn, h => by
    simp only [okE] at ho
    simp only [szE, tE] at *
    by_cases hl : szL e n < 0
    · simp [hl] at h
    · simp only [hl, if_false] at h ⊢
      have h1 := szL_t e n ho.2.1 h0 hn (by omega)
      have h2 := szE_t r _ ho.2.2 (by omega) (by omega) h
      omega
end
mutual
theorem mkF_t {z : Nat} : ∀ (l : Leaf false) (k : Int), okF z l → 0 ≤ k → k + 1 + z * tF l ≤ cap → k ≤ mkF l k ∧ mkF l k ≤ k + 1 + z * tF l
  | .str s, k, _, h0, hn => by simp only [mkF, tF, cap] at *; rw [wrap64 (by omega) (by omega)]; omega
  | .bool s, k, _, h0, hn => by simp only [mkF, tF, cap] at *; rw [wrap64 (by omega) (by omega)]; omega
  | .int _ s, k, _, h0, hn => by simp only [mkF, tF, cap] at *; rw [wrap64 (by omega) (by omega)]; omega
  | .unk, k, _, h0, hn => by simp only [mkF, tF]; omega
  | .nl _, k, _, h0, hn => by simp only [mkF, tF]; omega
  | .sl _ es, k, ho, h0, hn => by
    simp only [okF] at ho
    simp only [mkF, tF] at *
    have e : (z : Int) * ((es.length + tE es : Nat) : Int) = z * es.length + z * tE es := by push_cast; rw [Int.mul_add]
    rw [e] at hn ⊢
    have := mkE_t es k ho.2 h0 (by omega)
    omega
theorem mkL_t {z : Nat} : ∀ (l : List (Leaf false)) (k : Int), okL z l → 0 ≤ k → k + l.length + z * tL l ≤ cap → k ≤ mkL l k ∧ mkL l k ≤ k + l.length + z * tL l
  | [], k, _, _, _ => by simp [mkL, tL]
  | l :: r, k, ho, h0, hn => by
    simp only [okL] at ho
    have e : (z : Int) * ((tF l + tL r : Nat) : Int) = z * tF l + z * tL r := by push_cast; rw [Int.mul_add]
    have e2 : (((l :: r).length : Nat) : Int) = r.length + 1 := by simp
    rw [show tL (l :: r) = tF l + tL r by simp [tL], e, e2] at hn ⊢
    rw [show mkL (l :: r) k = mkL r (mkF l k) by simp [mkL]]
    have p1 : 0 ≤ (z : Int) * tF l := Int.mul_nonneg (by omega) (by omega)
    have p2 : 0 ≤ (z : Int) * tL r := Int.mul_nonneg (by omega) (by omega)
    have h1 := mkF_t l k ho.1 h0 (by omega)
    have h2 := mkL_t r (mkF l k) ho.2 (by omega) (by omega)
    omega
theorem mkE_t {z : Nat} : ∀ (l : List (List (Leaf false))) (k : Int), okE z l → 0 ≤ k → k + z * l.length + z * tE l ≤ cap → k ≤ mkE l k ∧ mkE l k ≤ k + z * l.length + z * tE l
  | [], k, _, _, _ => by simp [mkE, tE]
  | e :: r, k, ho, h0, hn => by
    simp only [okE] at ho
    have e1 : (z : Int) * ((tL e + tE r : Nat) : Int) = z * tL e + z * tE r := by push_cast; rw [Int.mul_add]
    have e2 : (z : Int) * (((e :: r).length : Nat) : Int) = z * r.length + z := by rw [List.length_cons]; push_cast; rw [Int.mul_add, Int.mul_one]
    rw [show tE (e :: r) = tL e + tE r by simp [tE], e1, e2] at hn ⊢
    rw [show mkE (e :: r) k = mkE r (mkL e k) by simp [mkE]]
    have p1 : 0 ≤ (z : Int) * tL e := Int.mul_nonneg (by omega) (by omega)
    have p2 : 0 ≤ (z : Int) * tE r := Int.mul_nonneg (by omega) (by omega)
    have p3 : 0 ≤ (z : Int) * r.length := Int.mul_nonneg (by omega) (by omega)
    have h1 := mkL_t e k ho.2.1 h0 (by omega)
    have h2 := mkE_t r (mkL e k) ho.2.2 (by omega) (by omega)
    omega
end
theorem getD_lt {m : Bool} {l : List (List (Leaf m))} {i : Nat} (h : i < l.length) : l.getD i [] = l[i] := by simp [List.getD, h]
theorem drop_at {α : Type} {l : List α} {i : Nat} (h : i < l.length) : l.drop i = l[i] :: l.drop (i + 1) := List.drop_eq_getElem_cons h
theorem sized_all {m : Bool} {z : Nat} {es : List (List (Leaf m))} (h : ∀ e ∈ es, e.length = z) : sized z es = true := by
  simp only [sized, List.all_eq_true, beq_iff_eq]; exact h
theorem reE_all {m m' : Bool} {φ : Fl m → Fl m'} {z : Nat} {es : List (List (Leaf m))} (h : ∀ e ∈ es, e.length = z) : ∀ e ∈ reE φ es, e.length = z := by
  intro e he
  rw [reE_map] at he
  obtain ⟨x, hx, rfl⟩ := List.mem_map.1 he
  rw [reL_length]; exact h x hx
theorem reE_get {m m' : Bool} {φ : Fl m → Fl m'} {es : List (List (Leaf m))} {i : Nat} (h : i < (reE φ es).length) : (reE φ es)[i] = reL φ (es[i]'(by rwa [reE_length] at h)) := by
  simp only [reE_map, List.getElem_map]
theorem reE_getD {m m' : Bool} {φ : Fl m → Fl m'} {es : List (List (Leaf m))} {i : Nat} (h : i < es.length) : (reE φ es).getD i [] = reL φ es[i] := by
  rw [getD_lt (by rwa [reE_length]), reE_get (by rwa [reE_length])]
theorem soL_map : ∀ l : List (Leaf false), soL l = l.map soF
  | [] => by rw [soL]; rfl
  | l :: r => by rw [soL, List.map_cons, soL_map r]
theorem soE_map : ∀ l : List (List (Leaf false)), soE l = l.map soL
  | [] => by rw [soE]; rfl
  | l :: r => by rw [soE, List.map_cons, soE_map r]
theorem soE_length (l : List (List (Leaf false))) : (soE l).length = l.length := by rw [soE_map, List.length_map]
theorem soE_all {z : Nat} {es : List (List (Leaf false))} (h : ∀ e ∈ es, e.length = z) : ∀ e ∈ soE es, e.length = z := by
  intro e he
  rw [soE_map] at he
  obtain ⟨x, hx, rfl⟩ := List.mem_map.1 he
  rw [soL_map, List.length_map]; exact h x hx
theorem soE_getD {es : List (List (Leaf false))} {i : Nat} (h : i < es.length) : (soE es).getD i [] = soL es[i] := by
  rw [soE_map, List.getD_eq_getElem?_getD, List.getElem?_map, List.getElem?_eq_getElem h]; rfl
theorem okE_of {z : Nat} : ∀ {es : List (List (Leaf false))}, (∀ e ∈ es, e.length ≤ z ∧ okL z e) → okE z es
  | [], _ => by simp [okE]
  | e :: r, h => by
    simp only [okE]
    exact ⟨(h e (by simp)).1, (h e (by simp)).2, okE_of fun x hx => h x (by simp [hx])⟩
theorem tE_mem : ∀ {es : List (List (Leaf false))} {e : List (Leaf false)}, e ∈ es → tL e ≤ tE es
  | x :: r, e, h => by
    simp only [tE]
    rcases List.mem_cons.1 h with rfl | h
    · omega
    · have := tE_mem h; omega
def IsStr (e : List (Leaf false)) : Prop := ∃ s : ByteArray, e = [.str s] ∧ s.size ≤ maxLen
theorem IsStr.len {e : List (Leaf false)} (h : IsStr e) : e.length = 1 := by obtain ⟨s, rfl, _⟩ := h; rfl
theorem IsStr.ok {e : List (Leaf false)} (h : IsStr e) : okL 16 e := by obtain ⟨s, rfl, hs⟩ := h; simp only [okL, okF]; exact ⟨hs, trivial⟩
theorem soft_isSoft : Fl.isSoft fSoft = true := rfl
theorem ite_yes {α : Type} {p : Prop} [Decidable p] {a b : α} (h : p) : (if p then a else b) = a := if_pos h
end Go.Vs
namespace Go.Vs
variable {m : Bool}
/-! Rows that are marked and looked at. -/
theorem putAt_two {v l1 l2 : List (SV m)} {p q : Nat} (hq : q = p + l1.length) (h : p + l1.length + l2.length ≤ v.length) : putAt (putAt v p l1) q l2 = putAt v p (l1 ++ l2) := by
  subst hq
  unfold putAt
  have h1 : (v.take p).length = p := by rw [List.length_take]; omega
  have e1 : (v.take p ++ l1 ++ v.drop (p + l1.length)).take (p + l1.length) = v.take p ++ l1 := by
    rw [List.take_append_of_le_length (by rw [List.length_append, h1]; omega), List.take_of_length_le (by rw [List.length_append, h1]; omega)]
  have e2 : (v.take p ++ l1 ++ v.drop (p + l1.length)).drop (p + l1.length + l2.length) = v.drop (p + (l1.length + l2.length)) := by
    rw [List.drop_append, List.drop_of_length_le (by rw [List.length_append, h1]; omega), List.nil_append, List.drop_drop, List.length_append, h1]
    congr 1; omega
  rw [e1, e2, List.length_append]
  simp only [List.append_assoc]
theorem putAt_length {v l : List (SV m)} {p : Nat} (h : p + l.length ≤ v.length) : (putAt v p l).length = v.length := by
  unfold putAt
  simp only [List.length_append, List.length_take, List.length_drop]
  omega
theorem flatten_get {α : Type} {z : Nat} : ∀ {l : List (List α)} {i o : Nat} (hl : ∀ e ∈ l, e.length = z) (hi : i < l.length) (ho : o < z), l.flatten[i * z + o]? = (l[i])[o]?
  | e :: l, 0, o, hl, hi, ho => by
    rw [List.flatten_cons, List.getElem?_append_left (by rw [hl e (by simp)]; omega)]
    simp
  | e :: l, i + 1, o, hl, hi, ho => by
    have he := hl e (by simp)
    rw [List.flatten_cons, List.getElem?_append_right (by rw [he, Nat.add_mul]; omega), he]
    have : (i + 1) * z + o - z = i * z + o := by rw [Nat.add_mul]; omega
    rw [this, List.getElem_cons_succ]
    exact flatten_get (fun e h => hl e (by simp [h])) (by simpa using hi) ho
theorem atSV_row {β : Type} {l : List (List (Leaf m))} {z : Nat} {r : List (SV m)} {i o p : Nat} (hl : ∀ e ∈ l, e.length = z) (hi : i < l.length) (ho : o < z) (hp : p = i * z + o) (k : SV m → Option β) :
    atSV (rowAt l l.length r) p k = k (.leaf ((l[i])[o]'(by rw [hl _ (List.getElem_mem hi)]; exact ho))) := by
  subst hp
  have hlen : l.flatten.length = l.length * z := flatten_len hl
  have hm : i * z + o < l.flatten.length := by
    rw [hlen]
    have : (i + 1) * z ≤ l.length * z := Nat.mul_le_mul_right z hi
    rw [Nat.add_mul] at this; omega
  unfold atSV rowAt
  rw [List.take_length, List.getElem?_append_left (by rw [List.length_map]; exact hm), List.getElem?_map, flatten_get hl hi ho, List.getElem?_eq_getElem (by rw [hl _ (List.getElem_mem hi)]; exact ho)]
  rfl
theorem rowAt_flat {l : List (List (Leaf m))} {i : Nat} {r : List (SV m)} (h : r.all SV.flat = true) : (rowAt l i r).all SV.flat = true := by
  unfold rowAt
  rw [List.all_append, h, Bool.and_true, List.all_map]
  exact List.all_eq_true.2 fun _ _ => rfl
end Go.Vs
namespace Go.Vs
/-- Marks of a struct's rows; its own cells are another's. -/
def msL : List (Leaf false) → Int → Int
  | [], k => k
  | .sl _ es :: r, k => msL r (mkE es k)
  | .bool _ :: r, k => msL r k
  | .int _ _ :: r, k => msL r k
  | .str _ :: r, k => msL r k
  | .unk :: r, k => msL r k
  | .nl _ :: r, k => msL r k
theorem msL_t {z : Nat} : ∀ (l : List (Leaf false)) (k : Int), okL z l → 0 ≤ k → k + z * tL l ≤ cap → k ≤ msL l k ∧ msL l k ≤ k + z * tL l
  | [], k, _, _, _ => by simp [msL, tL]
  | .sl c es :: r, k, ho, h0, hn => by
    simp only [okL, okF] at ho
    have e1 : (z : Int) * ((tL (.sl c es :: r) : Nat) : Int) = z * es.length + z * tE es + z * tL r := by
      rw [show tL (.sl c es :: r) = es.length + tE es + tL r by simp [tL, tF]]
      push_cast; rw [Int.mul_add, Int.mul_add]
    rw [e1] at hn ⊢
    rw [show msL (.sl c es :: r) k = msL r (mkE es k) by simp [msL]]
    have p1 : 0 ≤ (z : Int) * es.length := Int.mul_nonneg (by omega) (by omega)
    have p2 : 0 ≤ (z : Int) * tE es := Int.mul_nonneg (by omega) (by omega)
    have p3 : 0 ≤ (z : Int) * tL r := Int.mul_nonneg (by omega) (by omega)
    have h1 := mkE_t es k ho.1.2 h0 (by omega)
    have h2 := msL_t r (mkE es k) ho.2 (by omega) (by omega)
    omega
  | .bool b :: r, k, ho, h0, hn => by
    simp only [okL] at ho
    have e : tL (.bool b :: r) = tL r := by simp [tL, tF]
    rw [e] at hn ⊢
    exact msL_t r k ho.2 h0 hn
  | .int kk b :: r, k, ho, h0, hn => by
    simp only [okL] at ho
    have e : tL (.int kk b :: r) = tL r := by simp [tL, tF]
    rw [e] at hn ⊢
    exact msL_t r k ho.2 h0 hn
  | .str b :: r, k, ho, h0, hn => by
    simp only [okL] at ho
    have e : tL (.str b :: r) = tL r := by simp [tL, tF]
    rw [e] at hn ⊢
    exact msL_t r k ho.2 h0 hn
  | .unk :: r, k, ho, h0, hn => by
    simp only [okL] at ho
    have e : tL (.unk :: r) = tL r := by simp [tL, tF]
    rw [e] at hn ⊢
    exact msL_t r k ho.2 h0 hn
  | .nl b :: r, k, ho, h0, hn => by
    simp only [okL] at ho
    have e : tL (.nl b :: r) = tL r := by simp [tL, tF]
    rw [e] at hn ⊢
    exact msL_t r k ho.2 h0 hn
end Go.Vs
end
section
/- Rows of texts: rising, joined, looked at by halves. No program in sight. -/
set_option linter.unusedVariables false
namespace Go.Vs
def key (e : El) : List UInt8 := (strAt e 0).toList
theorem leT {a b c : List UInt8} (h : a ≤ b) (k : b ≤ c) : a ≤ c := List.le_trans h k
theorem leR (a : List UInt8) : a ≤ a := List.le_refl a
theorem leN {a b : List UInt8} (h : ¬ a ≤ b) : b ≤ a := (List.le_total a b).resolve_left h
theorem leA {a b : List UInt8} (h : a ≤ b) (k : b ≤ a) : a = b := List.le_antisymm h k
theorem ltI {a b : List UInt8} : ¬ a < b ↔ b ≤ a := List.not_lt
def Rising (l : List El) : Prop := l.Pairwise fun a b => key a ≤ key b
def push (out : List El) (x : El) : List El := if (out.getLast?.map key) = some (key x) then out else out ++ [x]
theorem push_mem {out : List El} {x : El} {s : List UInt8} : (∃ e ∈ push out x, key e = s) ↔ (∃ e ∈ out, key e = s) ∨ key x = s := by
  unfold push
  split
  · rename_i h
    rw [Option.map_eq_some_iff] at h
    obtain ⟨l, hl, hk⟩ := h
    constructor
    · exact .inl
    · rintro (h | h)
      · exact h
      · exact ⟨l, List.mem_of_getLast? hl, hk.trans h⟩
  · constructor
    · rintro ⟨e, he, hs⟩
      rcases List.mem_append.1 he with he | he
      · exact .inl ⟨e, he, hs⟩
      · rw [List.mem_singleton.1 he] at hs; exact .inr hs
    · rintro (⟨e, he, hs⟩ | h)
      · exact ⟨e, List.mem_append_left _ he, hs⟩
      · exact ⟨x, by simp, h⟩
theorem push_sub {out : List El} {x e : El} (h : e ∈ push out x) : e ∈ out ∨ e = x := by
  unfold push at h
  split at h
  · exact .inl h
  · rcases List.mem_append.1 h with h | h
    · exact .inl h
    · exact .inr (List.mem_singleton.1 h)
theorem push_len (out : List El) (x : El) : (push out x).length ≤ out.length + 1 := by unfold push; split <;> simp
theorem push_rising {out : List El} {x : El} (h : Rising out) (hx : ∀ o ∈ out, key o ≤ key x) : Rising (push out x) := by
  unfold push
  split
  · exact h
  · exact List.pairwise_append.2 ⟨h, by simp, fun a ha b hb => by rw [List.mem_singleton.1 hb]; exact hx a ha⟩
/-- Two rising rows in one. -/
def fin (xs ys out : List El) : List El := match xs, ys with
  | [], [] => out
  | x :: xs, [] => fin xs [] (push out x)
  | [], y :: ys => fin [] ys (push out y)
  | x :: xs, y :: ys => if key x ≤ key y then fin xs (y :: ys) (push out x) else fin (x :: xs) ys (push out y)
termination_by xs.length + ys.length
structure Joins (xs ys out r : List El) : Prop where
  up : Rising r
  mem : ∀ s, (∃ e ∈ r, key e = s) ↔ (∃ e ∈ out, key e = s) ∨ (∃ e ∈ xs, key e = s) ∨ ∃ e ∈ ys, key e = s
  len : r.length ≤ out.length + xs.length + ys.length
  sub : ∀ e ∈ r, e ∈ out ∨ e ∈ xs ∨ e ∈ ys
theorem fin_joins : ∀ (n : Nat) (xs ys out : List El), xs.length + ys.length = n → Rising xs → Rising ys → Rising out → (∀ o ∈ out, ∀ x ∈ xs, key o ≤ key x) → (∀ o ∈ out, ∀ y ∈ ys, key o ≤ key y) → Joins xs ys out (fin xs ys out) := by
  intro n
  induction n using Nat.strongRecOn with
  | ind n ih =>
    intro xs ys out hn hx hy ho h1 h2
    match xs, ys with
    | [], [] => unfold fin; exact ⟨ho, fun s => by simp, by simp, fun e he => .inl he⟩
    | x :: xs, [] =>
      unfold fin
      have hx' := List.pairwise_cons.1 hx
      have j := ih (xs.length + 0) (by simp at hn; omega) xs [] (push out x) rfl hx'.2 hy (push_rising ho fun o h => h1 o h x (by simp)) (fun o h z hz => by
        rcases push_sub h with h | rfl
        · exact h1 o h z (by simp [hz])
        · exact hx'.1 z hz) (fun o h z hz => by simp at hz)
      refine ⟨j.up, fun s => ?_, by have := j.len; have := push_len out x; simp at *; omega, fun e he => ?_⟩
      · rw [j.mem, push_mem]; simp [or_assoc]
      · rcases j.sub e he with h | h | h
        · rcases push_sub h with h | rfl
          · exact .inl h
          · exact .inr (.inl (by simp))
        · exact .inr (.inl (by simp [h]))
        · simp at h
    | [], y :: ys =>
      unfold fin
      have hy' := List.pairwise_cons.1 hy
      have j := ih (0 + ys.length) (by simp at hn; omega) [] ys (push out y) rfl hx hy'.2 (push_rising ho fun o h => h2 o h y (by simp)) (fun o h z hz => by simp at hz) (fun o h z hz => by
        rcases push_sub h with h | rfl
        · exact h2 o h z (by simp [hz])
        · exact hy'.1 z hz)
      refine ⟨j.up, fun s => ?_, by have := j.len; have := push_len out y; simp at *; omega, fun e he => ?_⟩
      · rw [j.mem, push_mem]; simp [or_assoc]
      · rcases j.sub e he with h | h | h
        · rcases push_sub h with h | rfl
          · exact .inl h
          · exact .inr (.inr (by simp))
        · simp at h
        · exact .inr (.inr (by simp [h]))
    | x :: xs, y :: ys =>
      have hx' := List.pairwise_cons.1 hx
      have hy' := List.pairwise_cons.1 hy
      unfold fin
      by_cases hc : key x ≤ key y
      · rw [if_pos hc]
        have j := ih (xs.length + (y :: ys).length) (by simp at hn ⊢; omega) xs (y :: ys) (push out x) rfl hx'.2 hy (push_rising ho fun o h => h1 o h x (by simp)) (fun o h z hz => by
          rcases push_sub h with h | rfl
          · exact h1 o h z (by simp [hz])
          · exact hx'.1 z hz) (fun o h z hz => by
          rcases push_sub h with h | rfl
          · exact h2 o h z hz
          · rcases List.mem_cons.1 hz with rfl | hz
            · exact hc
            · exact leT hc (hy'.1 z hz))
        refine ⟨j.up, fun s => ?_, by have := j.len; have := push_len out x; simp at *; omega, fun e he => ?_⟩
        · rw [j.mem, push_mem]; simp [or_assoc]
        · rcases j.sub e he with h | h | h
          · rcases push_sub h with h | rfl
            · exact .inl h
            · exact .inr (.inl (by simp))
          · exact .inr (.inl (by simp [h]))
          · exact .inr (.inr h)
      · rw [if_neg hc]
        have hc' := leN hc
        have j := ih ((x :: xs).length + ys.length) (by simp at hn ⊢; omega) (x :: xs) ys (push out y) rfl hx hy'.2 (push_rising ho fun o h => h2 o h y (by simp)) (fun o h z hz => by
          rcases push_sub h with h | rfl
          · exact h1 o h z hz
          · rcases List.mem_cons.1 hz with rfl | hz
            · exact hc'
            · exact leT hc' (hx'.1 z hz)) (fun o h z hz => by
          rcases push_sub h with h | rfl
          · exact h2 o h z (by simp [hz])
          · exact hy'.1 z hz)
        refine ⟨j.up, fun s => ?_, by have := j.len; have := push_len out y; simp at *; omega, fun e he => ?_⟩
        · rw [j.mem, push_mem]
          simp only [List.mem_cons, exists_eq_or_imp]
          constructor
          · rintro ((h | h) | h | h) <;> simp [h]
          · rintro (h | (h | h) | h | h) <;> simp [h]
        · rcases j.sub e he with h | h | h
          · rcases push_sub h with h | rfl
            · exact .inl h
            · exact .inr (.inr (by simp))
          · exact .inr (.inl h)
          · exact .inr (.inr (by simp [h]))
/-- Looked at by halves: where all before lo are less, and none from hi on is. -/
theorem halves {l : List El} (hr : Rising l) {s : List UInt8} {lo : Nat} (hlo : ∀ (j : Nat) (h : j < l.length), j < lo → key l[j] < s) (hhi : ∀ (j : Nat) (h : j < l.length), lo ≤ j → s ≤ key l[j]) :
    (∃ e ∈ l, key e = s) ↔ ∃ h : lo < l.length, key l[lo] = s := by
  constructor
  · rintro ⟨e, he, hs⟩
    obtain ⟨j, hj, rfl⟩ := List.getElem_of_mem he
    have hjl : lo ≤ j := by
      rcases Nat.lt_or_ge j lo with h | h
      · have := hlo j hj h
        rw [hs] at this
        exact absurd this (ltI.2 (leR s))
      · exact h
    have hlt : lo < l.length := Nat.lt_of_le_of_lt hjl hj
    refine ⟨hlt, leA ?_ (hhi lo hlt (Nat.le_refl _))⟩
    rw [← hs]
    rcases Nat.eq_or_lt_of_le hjl with h | h
    · subst h; exact leR _
    · exact (List.pairwise_iff_getElem.1 hr) lo j hlt hj h
  · rintro ⟨h, hs⟩; exact ⟨l[lo], List.getElem_mem h, hs⟩
theorem rising_at {l : List El} (hr : Rising l) {i j : Nat} (h : i ≤ j) (hj : j < l.length) : key l[i] ≤ key l[j] := by
  rcases Nat.eq_or_lt_of_le h with h | h
  · subst h; exact leR _
  · exact (List.pairwise_iff_getElem.1 hr) i j (by omega) hj h
end Go.Vs
end
section
/- What is counted and lasts is not too long, wherever it lies. -/
set_option linter.unusedVariables false
namespace Go.Vs
mutual
/-- Texts and rows, wherever they lie, are no longer than that. -/
def bdF (B : Nat) : Leaf false → Prop
  | .str s => s.size ≤ B
  | .sl _ es => es.length ≤ B ∧ bdE B es
  | _ => True
def bdL (B : Nat) : List (Leaf false) → Prop
  | [] => True
  | l :: r => bdF B l ∧ bdL B r
def bdE (B : Nat) : List (List (Leaf false)) → Prop
  | [] => True
  | e :: es => bdL B e ∧ bdE B es
end
theorem bdE_mem {B : Nat} : ∀ {es : List (List (Leaf false))}, bdE B es → ∀ e ∈ es, bdL B e
  | x :: r, h, e, he => by
    rw [bdE] at h
    rcases List.mem_cons.1 he with rfl | he
    · exact h.1
    · exact bdE_mem h.2 e he
mutual
theorem szF_bd {z B : Nat} (hB : (B : Int) ≤ cap) : ∀ (l : Leaf false) (n : Int), okF z l → 0 ≤ n → n ≤ B → 0 ≤ szF l n → bdF B l
  | .str s, n, ho, h0, hn, h => by
    have hm : maxLen = 9223372036854775807 := rfl
    simp only [okF] at ho
    simp only [szF, bdF, cap] at *
    rw [wrap64 (by omega) (by omega)] at h
    split at h <;> omega
  | .sl _ es, n, ho, h0, hn, h => by
    have hm : maxLen = 9223372036854775807 := rfl
    simp only [okF] at ho
    simp only [szF, bdF] at *
    rw [wrap64 (by simp only [cap] at hB; omega) (by simp only [cap] at hB; omega)] at h
    by_cases hl : n - (es.length : Int) < 0
    · simp [hl] at h
    · simp only [hl, if_false] at h
      exact ⟨by omega, szE_bd hB es _ ho.2 (by omega) (by omega) h⟩
  | .bool _, n, _, _, _, _ => by simp [bdF]
  | .int _ _, n, _, _, _, _ => by simp [bdF]
  | .unk, n, _, _, _, _ => by simp [bdF]
  | .nl _, n, _, _, _, _ => by simp [bdF]
theorem szL_bd {z B : Nat} (hB : (B : Int) ≤ cap) : ∀ (l : List (Leaf false)) (n : Int), okL z l → 0 ≤ n → n ≤ B → 0 ≤ szL l n → bdL B l
  | [], n, _, _, _, _ => by simp [bdL]
  | l :: r, n, ho, h0, hn, h => by
    simp only [okL] at ho
    simp only [szL, bdL] at *
    by_cases hl : szF l n < 0
    · simp [hl] at h
    · simp only [hl, if_false] at h
      have h1 := szF_t l n ho.1 h0 (by omega) (by omega)
      exact ⟨szF_bd hB l n ho.1 h0 hn (by omega), szL_bd hB r _ ho.2 (by omega) (by omega) h⟩
theorem szE_bd {z B : Nat} (hB : (B : Int) ≤ cap) : ∀ (l : List (List (Leaf false))) (n : Int), okE z l → 0 ≤ n → n ≤ B → 0 ≤ szE l n → bdE B l
  | [], n, _, _, _, _ => by simp [bdE]
  | e :: r, n, ho, h0, hn, h => by
    simp only [okE] at ho
    simp only [szE, bdE] at *
    by_cases hl : szL e n < 0
    · simp [hl] at h
    · simp only [hl, if_false] at h
      have h1 := szL_t e n ho.2.1 h0 (by omega) (by omega)
      exact ⟨szL_bd hB e n ho.2.1 h0 hn (by omega), szE_bd hB r _ ho.2.2 (by omega) (by omega) h⟩
end
end Go.Vs
end
section
/- Rows looked through: the first that is so, whether one is so, all told one behind the other. No program in sight. -/
set_option linter.unusedVariables false
namespace Go.Vs
abbrev nul : ByteArray := ByteArray.mk #[]
abbrev dot : ByteArray := ByteArray.mk #[46]
/-- A cell that is no slice. -/
def noSl : Leaf false → Bool | .sl _ _ => false | .nl _ => false | _ => true
theorem reF_nosl {φ ψ : Fl false → Fl true} {l : Leaf false} (h : noSl l = true) : reF φ l = reF ψ l := by cases l <;> first | rfl | simp [noSl] at h
theorem reE_nosl {φ ψ : Fl false → Fl true} {l : List El} (h : ∀ e ∈ l, e.all noSl = true) : reE φ l = reE ψ l := by
  rw [reE_map, reE_map]
  refine List.map_congr_left fun e he => ?_
  rw [reL_map, reL_map]
  exact List.map_congr_left fun x hx => reF_nosl (List.all_eq_true.1 (h e he) x hx)
/-- Where the first stands that is so; -1. -/
def idxP (p : El → Bool) : Int → List El → Int
  | _, [] => -1
  | i, e :: es => if p e = true then i else idxP p (i + 1) es
theorem idxP_lt (p : El → Bool) : ∀ (es : List El) (i : Int), 0 ≤ i → idxP p i es = -1 ∨ (i ≤ idxP p i es ∧ idxP p i es < i + es.length)
  | [], i, h => .inl rfl
  | e :: es, i, h => by
    unfold idxP
    split
    · right; simp; omega
    · rcases idxP_lt p es (i + 1) (by omega) with h1 | h1
      · exact .inl h1
      · right; simp only [List.length_cons]; push_cast; omega
theorem idxP_is (p : El → Bool) : ∀ (es : List El) (i j : Nat), idxP p (i : Int) es = (j : Int) → ∃ h : j - i < es.length, i ≤ j ∧ p es[j - i] = true
  | [], i, j, h => by simp [idxP] at h
  | e :: es, i, j, h => by
    unfold idxP at h
    split at h
    · rename_i hp
      have : i = j := by omega
      subst this
      refine ⟨by simp, Nat.le_refl _, ?_⟩
      simp only [Nat.sub_self, List.getElem_cons_zero]; exact hp
    · obtain ⟨h1, h2, h3⟩ := idxP_is p es (i + 1) j (by push_cast; exact h)
      have hj : j - i = (j - (i + 1)) + 1 := by omega
      refine ⟨by simp; omega, by omega, ?_⟩
      simp only [hj, List.getElem_cons_succ]
      exact h3
/-- Where it is found, it stands. -/
theorem idxP_get {p : El → Bool} {es : List El} (h : ¬ idxP p 0 es < 0) : ∃ (j : Nat) (hj : j < es.length), idxP p 0 es = (j : Int) ∧ p es[j] = true := by
  rcases idxP_lt p es 0 (by omega) with h1 | ⟨h1, h2⟩
  · omega
  · obtain ⟨j, hj⟩ : ∃ j : Nat, idxP p 0 es = (j : Int) := ⟨(idxP p 0 es).toNat, by omega⟩
    obtain ⟨a, _, b⟩ := idxP_is p es 0 j hj
    exact ⟨j, by simpa using a, hj, by simpa using b⟩
theorem idxP_any (p : El → Bool) : ∀ (es : List El) (i : Int), 0 ≤ i → decide (idxP p i es ≥ 0) = es.any p
  | [], i, h => by simp [idxP]
  | e :: es, i, h => by
    unfold idxP
    cases hp : p e with
    | true => simp [hp]; omega
    | false => simpa [hp] using idxP_any p es (i + 1) (by omega)
theorem idxP_neg (p : El → Bool) (es : List El) : decide (idxP p 0 es < 0) = !es.any p := by
  have := idxP_any p es 0 (by omega)
  rw [← this]
  by_cases h : idxP p 0 es < 0
  · simp [h]
  · simp [h]; omega
theorem idxP_congr {p q : El → Bool} : ∀ {es : List El} {i : Int}, (∀ e ∈ es, p e = q e) → idxP p i es = idxP q i es
  | [], i, h => rfl
  | e :: es, i, h => by
    unfold idxP
    rw [h e (by simp), idxP_congr (fun e he => h e (by simp [he]))]
abbrev at0 (s : ByteArray) (e : El) : Bool := (strAt e 0).toList == s.toList
abbrev at3 (s : ByteArray) (e : El) : Bool := (strAt e 3).toList == s.toList
theorem beq_sym (a b : List UInt8) : (a == b) = (b == a) := by rw [Bool.eq_iff_iff, beq_iff_eq, beq_iff_eq]; exact eq_comm
section
variable {β : Type} {es : List El}
/-- A loop that looks for the first one. -/
theorem find_loop {p : El → Bool} {A : Int → Option β} {yes : Int → Option β} {no : Option β} (hend : A es.length = no)
    (hstep : ∀ (i : Nat) (hi : i < es.length), A i = branch (p es[i]) (yes i) (A ((i + 1 : Nat) : Int))) :
    ∀ i : Nat, i ≤ es.length → A i = if idxP p i (es.drop i) < 0 then no else yes (idxP p i (es.drop i)) := by
  refine upto_ind ?_ ?_
  · rw [hend]; simp [idxP]
  · intro i hi ih
    rw [hstep i hi, drop_at hi, ih, branch_ite, show idxP p (i : Int) (es[i] :: es.drop (i + 1)) = if p es[i] = true then (i : Int) else idxP p (i + 1) (es.drop (i + 1)) from rfl]
    by_cases hp : p es[i] = true
    · rw [if_pos hp, if_pos hp, if_neg (by omega)]
    · rw [if_neg hp, if_neg hp]; push_cast; rfl
theorem find_loop0 {p : El → Bool} {A : Int → Option β} {yes : Int → Option β} {no : Option β} (hend : A es.length = no)
    (hstep : ∀ (i : Nat) (hi : i < es.length), A i = branch (p es[i]) (yes i) (A ((i + 1 : Nat) : Int))) :
    A 0 = if idxP p 0 es < 0 then no else yes (idxP p 0 es) := by
  have := find_loop hend hstep 0 (Nat.zero_le _)
  simpa using this
theorem find_int {p : El → Bool} {A : Int → Ret false} {bs : List (List (SV false))} (hend : A es.length = some (vint (-1), bs))
    (hstep : ∀ (i : Nat) (hi : i < es.length), A i = branch (p es[i]) (some (vint i, bs)) (A ((i + 1 : Nat) : Int))) : A 0 = some (vint (idxP p 0 es), bs) := by
  rw [find_loop0 (yes := fun i => some (vint i, bs)) hend hstep]
  split
  · rename_i h
    rcases idxP_lt p es 0 (by omega) with h1 | h1
    · rw [h1]
    · omega
  · rfl
theorem any_bool {p : El → Bool} {A : Int → Ret false} {bs : List (List (SV false))} (hend : A es.length = some (vbool false, bs))
    (hstep : ∀ (i : Nat) (hi : i < es.length), A i = branch (p es[i]) (some (vbool true, bs)) (A ((i + 1 : Nat) : Int))) : A 0 = some (vbool (es.any p), bs) := by
  rw [show A 0 = _ from (by
    have h := find_loop0 (yes := fun _ => some (vbool true, bs)) hend hstep
    exact h), ← idxP_any p es 0 (by omega)]
  by_cases hc : idxP p 0 es < 0
  · rw [if_pos hc]; simp; omega
  · rw [if_neg hc]; simp; omega
/-- A loop that asks whether one is so. -/
theorem any_loop {p : El → Bool} {A : Int → Option β} {yes no : Option β} (hend : A es.length = no)
    (hstep : ∀ (i : Nat) (hi : i < es.length), A i = branch (p es[i]) yes (A ((i + 1 : Nat) : Int))) :
    A 0 = if es.any p = true then yes else no := by
  have h := find_loop0 (yes := fun _ => yes) hend hstep
  rw [h, ← idxP_any p es 0 (by omega)]
  by_cases hc : idxP p 0 es < 0
  · rw [if_pos hc, if_neg (by simp; omega)]
  · rw [if_neg hc, if_pos (by simp; omega)]
/-- What a loop tells, each at its place. -/
def flatI (g : Nat → El → List El) : Nat → List El → List El
  | _, [] => []
  | i, e :: r => g i e ++ flatI g (i + 1) r
theorem flatI_const (g : El → List El) : ∀ (l : List El) (i : Nat), flatI (fun _ => g) i l = l.flatMap g
  | [], _ => rfl
  | e :: r, i => by rw [flatI, flatI_const g r, List.flatMap_cons]
theorem flatI_congr {g h : Nat → El → List El} : ∀ {l : List El} {i : Nat}, (∀ (j : Nat) (hj : j < l.length), g (i + j) l[j] = h (i + j) l[j]) → flatI g i l = flatI h i l
  | [], _, _ => rfl
  | e :: r, i, hh => by
    rw [flatI, flatI, flatI_congr (l := r) (i := i + 1) (fun j hj => by have := hh (j + 1) (by simpa using hj); simpa [Nat.add_assoc, Nat.add_comm 1 j] using this)]
    have := hh 0 (by simp)
    simp at this
    rw [this]
theorem flatI_len {g : Nat → El → List El} {c : Nat} : ∀ (l : List El) (i : Nat), (∀ (j : Nat) (hj : j < l.length), (g (i + j) l[j]).length ≤ c) → (flatI g i l).length ≤ l.length * c
  | [], _, _ => by simp [flatI]
  | e :: r, i, h => by
    have h0 := h 0 (by simp)
    have h1 := flatI_len (g := g) (c := c) r (i + 1) (fun j hj => by have := h (j + 1) (by simpa using hj); simpa [Nat.add_assoc, Nat.add_comm 1 j] using this)
    simp at h0
    rw [flatI, List.length_append, List.length_cons, Nat.add_mul]; omega
theorem flatI_mem {g : Nat → El → List El} {x : El} : ∀ (l : List El) (i : Nat), x ∈ flatI g i l → ∃ (j : Nat) (hj : j < l.length), x ∈ g (i + j) l[j]
  | [], _, h => by simp [flatI] at h
  | e :: r, i, h => by
    rw [flatI] at h
    rcases List.mem_append.1 h with h | h
    · exact ⟨0, by simp, by simpa using h⟩
    · obtain ⟨j, hj, hx⟩ := flatI_mem r (i + 1) h
      exact ⟨j + 1, by simpa using hj, by simpa [Nat.add_assoc, Nat.add_comm 1 j] using hx⟩
/-- A loop that tells something of each. c: how much at most of one; N: how much at most in all. -/
theorem app_loop {g : Nat → El → List El} {A : List El → Int → Option β} {fin : List El → Option β} {c N : Nat} (hg : ∀ (j : Nat) (hj : j < es.length), (g j es[j]).length ≤ c)
    (hend : ∀ out, out.length ≤ N → A out es.length = fin out)
    (hstep : ∀ (i : Nat) (hi : i < es.length) (out : List El), out.length + c ≤ N → A out i = A (out ++ g i es[i]) ((i + 1 : Nat) : Int)) :
    ∀ i : Nat, i ≤ es.length → ∀ out : List El, out.length + (es.length - i) * c ≤ N → A out i = fin (out ++ flatI g i (es.drop i)) := by
  refine upto_ind ?_ ?_
  · intro out ho; rw [hend out (by simpa using ho)]; simp [flatI]
  · intro i hi ih out ho
    have e1 : (es.length - i) * c = (es.length - (i + 1)) * c + c := by rw [show es.length - i = (es.length - (i + 1)) + 1 by omega, Nat.add_mul, Nat.one_mul]
    rw [hstep i hi out (by omega), ih _ (by have := hg i hi; rw [List.length_append]; omega), drop_at hi, flatI, List.append_assoc]
theorem app_loop0 {g : Nat → El → List El} {A : List El → Int → Option β} {fin : List El → Option β} {c N : Nat} (hg : ∀ (j : Nat) (hj : j < es.length), (g j es[j]).length ≤ c)
    (hend : ∀ out, out.length ≤ N → A out es.length = fin out)
    (hstep : ∀ (i : Nat) (hi : i < es.length) (out : List El), out.length + c ≤ N → A out i = A (out ++ g i es[i]) ((i + 1 : Nat) : Int))
    {out : List El} (ho : out.length + es.length * c ≤ N) : A out 0 = fin (out ++ flatI g 0 es) := by
  have := app_loop hg hend hstep 0 (Nat.zero_le _) out (by simpa using ho)
  simpa using this
theorem app_loop1 {g : Nat → El → List El} {A : List El → Int → Option β} {fin : List El → Option β} {c N : Nat} (hg : ∀ (j : Nat) (hj : j < es.length), (g j es[j]).length ≤ c)
    (hend : ∀ out, out.length ≤ N → A out es.length = fin out)
    (hstep : ∀ (i : Nat) (hi : i < es.length) (out : List El), out.length + c ≤ N → A out i = A (out ++ g i es[i]) ((i + 1 : Nat) : Int))
    (ho : es.length * c ≤ N) : A [] 0 = fin (flatI g 0 es) :=
  app_loop0 hg hend hstep (out := []) (by simpa using ho)
end
/-- One more, if it is so. -/
def ifP (q : Bool) (x : El) : List El := if q = true then [x] else []
theorem ifP_len (q : Bool) (x : El) : (ifP q x).length ≤ 1 := by unfold ifP; split <;> simp
theorem ifP_mem {q : Bool} {x y : El} (h : y ∈ ifP q x) : q = true ∧ y = x := by unfold ifP at h; split at h <;> simp_all
@[simp] theorem ifP_true (x : El) : ifP true x = [x] := rfl
@[simp] theorem ifP_false (x : El) : ifP false x = [] := rfl
theorem room {n k z : Nat} (h : n + k ≤ 1000000000000) (hz : z ≤ 100) : decide ((n + k) * z ≤ maxBytes) = true := by
  have hb : maxBytes = 140737488355328 := rfl
  rw [decide_eq_true_eq]
  calc (n + k) * z ≤ 1000000000000 * 100 := Nat.mul_le_mul h hz
    _ ≤ maxBytes := by rw [hb]; decide
end Go.Vs
end
section
open Go Go.Vs Go.Proofs
set_option linter.unusedVariables false
set_option linter.unusedSimpArgs false
namespace Go.Vs
noncomputable abbrev Dn : Oracle false := den Go.Proofs.Tryz.prog (fun _ => none) Hs
theorem den_of {f : FuncId} {a : List (SV false)} {b : List (List (SV false))} {r : SV false × List (List (SV false))} (h : run2V Go.Proofs.Tryz.prog Dn Hs limR f a b = some r) : Dn f a b = some r :=
  den_fast rfl h
inductive IsType : List (Leaf false) → Prop
  | mk (s0 : ByteArray) (s1 : ByteArray) (h0 : s0.size ≤ maxLen) (h1 : s1.size ≤ maxLen) : IsType [.str s0, .str s1]
theorem IsType.ex {ls : List (Leaf false)} (h : IsType ls) : ∃ (s0 : ByteArray) (s1 : ByteArray), ls = [.str s0, .str s1] ∧ s0.size ≤ maxLen ∧ s1.size ≤ maxLen := by
  cases h with
  | mk s0 s1 h0 h1 => exact ⟨s0, s1, rfl, h0, h1⟩
theorem IsType.len {ls : List (Leaf false)} (h : IsType ls) : ls.length = 2 := by cases h; rfl
theorem IsType.ok {ls : List (Leaf false)} (h : IsType ls) : okL 16 ls := by
  cases h with
  | mk s0 s1 h0 h1 => simp only [okL, okF]; exact ⟨h0, h1, trivial⟩
inductive IsValue : List (Leaf false) → Prop
  | mk (i0 : Int) (s1 : ByteArray) (e2 : List (List (Leaf false))) (e3 : List (List (Leaf false))) (h1 : s1.size ≤ maxLen) (h2 : e2.length ≤ maxLen) (q2 : ∀ e ∈ e2, IsValue e) (h3 : e3.length ≤ maxLen) (q3 : ∀ e ∈ e3, IsStr e) : IsValue [.int .i64 i0, .str s1, .sl fP e2, .sl fP e3]
theorem IsValue.ex {ls : List (Leaf false)} (h : IsValue ls) : ∃ (i0 : Int) (s1 : ByteArray) (e2 : List (List (Leaf false))) (e3 : List (List (Leaf false))), ls = [.int .i64 i0, .str s1, .sl fP e2, .sl fP e3] ∧ s1.size ≤ maxLen ∧ e2.length ≤ maxLen ∧ (∀ e ∈ e2, IsValue e) ∧ e3.length ≤ maxLen ∧ (∀ e ∈ e3, IsStr e) := by
  cases h with
  | mk i0 s1 e2 e3 h1 h2 q2 h3 q3 => exact ⟨i0, s1, e2, e3, rfl, h1, h2, q2, h3, q3⟩
theorem IsValue.len {ls : List (Leaf false)} (h : IsValue ls) : ls.length = 4 := by cases h; rfl
theorem IsValue.ok {ls : List (Leaf false)} (h : IsValue ls) : okL 16 ls := by
  induction h with
  | mk i0 s1 e2 e3 h1 h2 q2 h3 q3 ih2 => simp only [okL, okF]; exact ⟨trivial, h1, ⟨h2, okE_of fun e he => ⟨by have := (q2 e he).len; omega, ih2 e he⟩⟩, ⟨h3, okE_of fun e he => ⟨by have := (q3 e he).len; omega, (q3 e he).ok⟩⟩, trivial⟩
inductive IsArg : List (Leaf false) → Prop
  | mk (s0 : ByteArray) (i1 : Int) (s2 : ByteArray) (e3 : List (List (Leaf false))) (e4 : List (List (Leaf false))) (h0 : s0.size ≤ maxLen) (h2 : s2.size ≤ maxLen) (h3 : e3.length ≤ maxLen) (q3 : ∀ e ∈ e3, IsValue e) (h4 : e4.length ≤ maxLen) (q4 : ∀ e ∈ e4, IsStr e) : IsArg [.str s0, .int .i64 i1, .str s2, .sl fP e3, .sl fP e4]
theorem IsArg.ex {ls : List (Leaf false)} (h : IsArg ls) : ∃ (s0 : ByteArray) (i1 : Int) (s2 : ByteArray) (e3 : List (List (Leaf false))) (e4 : List (List (Leaf false))), ls = [.str s0, .int .i64 i1, .str s2, .sl fP e3, .sl fP e4] ∧ s0.size ≤ maxLen ∧ s2.size ≤ maxLen ∧ e3.length ≤ maxLen ∧ (∀ e ∈ e3, IsValue e) ∧ e4.length ≤ maxLen ∧ (∀ e ∈ e4, IsStr e) := by
  cases h with
  | mk s0 i1 s2 e3 e4 h0 h2 h3 q3 h4 q4 => exact ⟨s0, i1, s2, e3, e4, rfl, h0, h2, h3, q3, h4, q4⟩
theorem IsArg.len {ls : List (Leaf false)} (h : IsArg ls) : ls.length = 5 := by cases h; rfl
theorem IsArg.ok {ls : List (Leaf false)} (h : IsArg ls) : okL 16 ls := by
  cases h with
  | mk s0 i1 s2 e3 e4 h0 h2 h3 q3 h4 q4 => simp only [okL, okF]; exact ⟨h0, trivial, h2, ⟨h3, okE_of fun e he => ⟨by have := (q3 e he).len; omega, (q3 e he).ok⟩⟩, ⟨h4, okE_of fun e he => ⟨by have := (q4 e he).len; omega, (q4 e he).ok⟩⟩, trivial⟩
inductive IsDir : List (Leaf false) → Prop
  | mk (s0 : ByteArray) (e1 : List (List (Leaf false))) (h0 : s0.size ≤ maxLen) (h1 : e1.length ≤ maxLen) (q1 : ∀ e ∈ e1, IsArg e) : IsDir [.str s0, .sl fP e1]
theorem IsDir.ex {ls : List (Leaf false)} (h : IsDir ls) : ∃ (s0 : ByteArray) (e1 : List (List (Leaf false))), ls = [.str s0, .sl fP e1] ∧ s0.size ≤ maxLen ∧ e1.length ≤ maxLen ∧ (∀ e ∈ e1, IsArg e) := by
  cases h with
  | mk s0 e1 h0 h1 q1 => exact ⟨s0, e1, rfl, h0, h1, q1⟩
theorem IsDir.len {ls : List (Leaf false)} (h : IsDir ls) : ls.length = 2 := by cases h; rfl
theorem IsDir.ok {ls : List (Leaf false)} (h : IsDir ls) : okL 16 ls := by
  cases h with
  | mk s0 e1 h0 h1 q1 => simp only [okL, okF]; exact ⟨h0, ⟨h1, okE_of fun e he => ⟨by have := (q1 e he).len; omega, (q1 e he).ok⟩⟩, trivial⟩
inductive IsInDef : List (Leaf false) → Prop
  | mk (s0 : ByteArray) (s1 : ByteArray) (s2 : ByteArray) (s3 : ByteArray) (b4 : Bool) (i5 : Int) (s6 : ByteArray) (e7 : List (List (Leaf false))) (e8 : List (List (Leaf false))) (e9 : List (List (Leaf false))) (h0 : s0.size ≤ maxLen) (h1 : s1.size ≤ maxLen) (h2 : s2.size ≤ maxLen) (h3 : s3.size ≤ maxLen) (h6 : s6.size ≤ maxLen) (h7 : e7.length ≤ maxLen) (q7 : ∀ e ∈ e7, IsValue e) (h8 : e8.length ≤ maxLen) (q8 : ∀ e ∈ e8, IsStr e) (h9 : e9.length ≤ maxLen) (q9 : ∀ e ∈ e9, IsDir e) : IsInDef [.str s0, .str s1, .str s2, .str s3, .bool b4, .int .i64 i5, .str s6, .sl fP e7, .sl fP e8, .sl fP e9]
theorem IsInDef.ex {ls : List (Leaf false)} (h : IsInDef ls) : ∃ (s0 : ByteArray) (s1 : ByteArray) (s2 : ByteArray) (s3 : ByteArray) (b4 : Bool) (i5 : Int) (s6 : ByteArray) (e7 : List (List (Leaf false))) (e8 : List (List (Leaf false))) (e9 : List (List (Leaf false))), ls = [.str s0, .str s1, .str s2, .str s3, .bool b4, .int .i64 i5, .str s6, .sl fP e7, .sl fP e8, .sl fP e9] ∧ s0.size ≤ maxLen ∧ s1.size ≤ maxLen ∧ s2.size ≤ maxLen ∧ s3.size ≤ maxLen ∧ s6.size ≤ maxLen ∧ e7.length ≤ maxLen ∧ (∀ e ∈ e7, IsValue e) ∧ e8.length ≤ maxLen ∧ (∀ e ∈ e8, IsStr e) ∧ e9.length ≤ maxLen ∧ (∀ e ∈ e9, IsDir e) := by
  cases h with
  | mk s0 s1 s2 s3 b4 i5 s6 e7 e8 e9 h0 h1 h2 h3 h6 h7 q7 h8 q8 h9 q9 => exact ⟨s0, s1, s2, s3, b4, i5, s6, e7, e8, e9, rfl, h0, h1, h2, h3, h6, h7, q7, h8, q8, h9, q9⟩
theorem IsInDef.len {ls : List (Leaf false)} (h : IsInDef ls) : ls.length = 10 := by cases h; rfl
theorem IsInDef.ok {ls : List (Leaf false)} (h : IsInDef ls) : okL 16 ls := by
  cases h with
  | mk s0 s1 s2 s3 b4 i5 s6 e7 e8 e9 h0 h1 h2 h3 h6 h7 q7 h8 q8 h9 q9 => simp only [okL, okF]; exact ⟨h0, h1, h2, h3, trivial, trivial, h6, ⟨h7, okE_of fun e he => ⟨by have := (q7 e he).len; omega, (q7 e he).ok⟩⟩, ⟨h8, okE_of fun e he => ⟨by have := (q8 e he).len; omega, (q8 e he).ok⟩⟩, ⟨h9, okE_of fun e he => ⟨by have := (q9 e he).len; omega, (q9 e he).ok⟩⟩, trivial⟩
inductive IsFieldDef : List (Leaf false) → Prop
  | mk (s0 : ByteArray) (s1 : ByteArray) (e2 : List (List (Leaf false))) (s3 : ByteArray) (s4 : ByteArray) (e5 : List (List (Leaf false))) (h0 : s0.size ≤ maxLen) (h1 : s1.size ≤ maxLen) (h2 : e2.length ≤ maxLen) (q2 : ∀ e ∈ e2, IsInDef e) (h3 : s3.size ≤ maxLen) (h4 : s4.size ≤ maxLen) (h5 : e5.length ≤ maxLen) (q5 : ∀ e ∈ e5, IsDir e) : IsFieldDef [.str s0, .str s1, .sl fP e2, .str s3, .str s4, .sl fP e5]
theorem IsFieldDef.ex {ls : List (Leaf false)} (h : IsFieldDef ls) : ∃ (s0 : ByteArray) (s1 : ByteArray) (e2 : List (List (Leaf false))) (s3 : ByteArray) (s4 : ByteArray) (e5 : List (List (Leaf false))), ls = [.str s0, .str s1, .sl fP e2, .str s3, .str s4, .sl fP e5] ∧ s0.size ≤ maxLen ∧ s1.size ≤ maxLen ∧ e2.length ≤ maxLen ∧ (∀ e ∈ e2, IsInDef e) ∧ s3.size ≤ maxLen ∧ s4.size ≤ maxLen ∧ e5.length ≤ maxLen ∧ (∀ e ∈ e5, IsDir e) := by
  cases h with
  | mk s0 s1 e2 s3 s4 e5 h0 h1 h2 q2 h3 h4 h5 q5 => exact ⟨s0, s1, e2, s3, s4, e5, rfl, h0, h1, h2, q2, h3, h4, h5, q5⟩
theorem IsFieldDef.len {ls : List (Leaf false)} (h : IsFieldDef ls) : ls.length = 6 := by cases h; rfl
theorem IsFieldDef.ok {ls : List (Leaf false)} (h : IsFieldDef ls) : okL 16 ls := by
  cases h with
  | mk s0 s1 e2 s3 s4 e5 h0 h1 h2 q2 h3 h4 h5 q5 => simp only [okL, okF]; exact ⟨h0, h1, ⟨h2, okE_of fun e he => ⟨by have := (q2 e he).len; omega, (q2 e he).ok⟩⟩, h3, h4, ⟨h5, okE_of fun e he => ⟨by have := (q5 e he).len; omega, (q5 e he).ok⟩⟩, trivial⟩
inductive IsEnumDef : List (Leaf false) → Prop
  | mk (s0 : ByteArray) (s1 : ByteArray) (e2 : List (List (Leaf false))) (h0 : s0.size ≤ maxLen) (h1 : s1.size ≤ maxLen) (h2 : e2.length ≤ maxLen) (q2 : ∀ e ∈ e2, IsDir e) : IsEnumDef [.str s0, .str s1, .sl fP e2]
theorem IsEnumDef.ex {ls : List (Leaf false)} (h : IsEnumDef ls) : ∃ (s0 : ByteArray) (s1 : ByteArray) (e2 : List (List (Leaf false))), ls = [.str s0, .str s1, .sl fP e2] ∧ s0.size ≤ maxLen ∧ s1.size ≤ maxLen ∧ e2.length ≤ maxLen ∧ (∀ e ∈ e2, IsDir e) := by
  cases h with
  | mk s0 s1 e2 h0 h1 h2 q2 => exact ⟨s0, s1, e2, rfl, h0, h1, h2, q2⟩
theorem IsEnumDef.len {ls : List (Leaf false)} (h : IsEnumDef ls) : ls.length = 3 := by cases h; rfl
theorem IsEnumDef.ok {ls : List (Leaf false)} (h : IsEnumDef ls) : okL 16 ls := by
  cases h with
  | mk s0 s1 e2 h0 h1 h2 q2 => simp only [okL, okF]; exact ⟨h0, h1, ⟨h2, okE_of fun e he => ⟨by have := (q2 e he).len; omega, (q2 e he).ok⟩⟩, trivial⟩
inductive IsRoot : List (Leaf false) → Prop
  | mk (i0 : Int) (s1 : ByteArray) (h1 : s1.size ≤ maxLen) : IsRoot [.int .i64 i0, .str s1]
theorem IsRoot.ex {ls : List (Leaf false)} (h : IsRoot ls) : ∃ (i0 : Int) (s1 : ByteArray), ls = [.int .i64 i0, .str s1] ∧ s1.size ≤ maxLen := by
  cases h with
  | mk i0 s1 h1 => exact ⟨i0, s1, rfl, h1⟩
theorem IsRoot.len {ls : List (Leaf false)} (h : IsRoot ls) : ls.length = 2 := by cases h; rfl
theorem IsRoot.ok {ls : List (Leaf false)} (h : IsRoot ls) : okL 16 ls := by
  cases h with
  | mk i0 s1 h1 => simp only [okL, okF]; exact ⟨trivial, h1, trivial⟩
inductive IsDef : List (Leaf false) → Prop
  | mk (i0 : Int) (b1 : Bool) (s2 : ByteArray) (s3 : ByteArray) (e4 : List (List (Leaf false))) (e5 : List (List (Leaf false))) (e6 : List (List (Leaf false))) (e7 : List (List (Leaf false))) (e8 : List (List (Leaf false))) (b9 : Bool) (e10 : List (List (Leaf false))) (h2 : s2.size ≤ maxLen) (h3 : s3.size ≤ maxLen) (h4 : e4.length ≤ maxLen) (q4 : ∀ e ∈ e4, IsStr e) (h5 : e5.length ≤ maxLen) (q5 : ∀ e ∈ e5, IsFieldDef e) (h6 : e6.length ≤ maxLen) (q6 : ∀ e ∈ e6, IsInDef e) (h7 : e7.length ≤ maxLen) (q7 : ∀ e ∈ e7, IsEnumDef e) (h8 : e8.length ≤ maxLen) (q8 : ∀ e ∈ e8, IsRoot e) (h10 : e10.length ≤ maxLen) (q10 : ∀ e ∈ e10, IsDir e) : IsDef [.int .i64 i0, .bool b1, .str s2, .str s3, .sl fP e4, .sl fP e5, .sl fP e6, .sl fP e7, .sl fP e8, .bool b9, .sl fP e10]
theorem IsDef.ex {ls : List (Leaf false)} (h : IsDef ls) : ∃ (i0 : Int) (b1 : Bool) (s2 : ByteArray) (s3 : ByteArray) (e4 : List (List (Leaf false))) (e5 : List (List (Leaf false))) (e6 : List (List (Leaf false))) (e7 : List (List (Leaf false))) (e8 : List (List (Leaf false))) (b9 : Bool) (e10 : List (List (Leaf false))), ls = [.int .i64 i0, .bool b1, .str s2, .str s3, .sl fP e4, .sl fP e5, .sl fP e6, .sl fP e7, .sl fP e8, .bool b9, .sl fP e10] ∧ s2.size ≤ maxLen ∧ s3.size ≤ maxLen ∧ e4.length ≤ maxLen ∧ (∀ e ∈ e4, IsStr e) ∧ e5.length ≤ maxLen ∧ (∀ e ∈ e5, IsFieldDef e) ∧ e6.length ≤ maxLen ∧ (∀ e ∈ e6, IsInDef e) ∧ e7.length ≤ maxLen ∧ (∀ e ∈ e7, IsEnumDef e) ∧ e8.length ≤ maxLen ∧ (∀ e ∈ e8, IsRoot e) ∧ e10.length ≤ maxLen ∧ (∀ e ∈ e10, IsDir e) := by
  cases h with
  | mk i0 b1 s2 s3 e4 e5 e6 e7 e8 b9 e10 h2 h3 h4 q4 h5 q5 h6 q6 h7 q7 h8 q8 h10 q10 => exact ⟨i0, b1, s2, s3, e4, e5, e6, e7, e8, b9, e10, rfl, h2, h3, h4, q4, h5, q5, h6, q6, h7, q7, h8, q8, h10, q10⟩
theorem IsDef.len {ls : List (Leaf false)} (h : IsDef ls) : ls.length = 11 := by cases h; rfl
theorem IsDef.ok {ls : List (Leaf false)} (h : IsDef ls) : okL 16 ls := by
  cases h with
  | mk i0 b1 s2 s3 e4 e5 e6 e7 e8 b9 e10 h2 h3 h4 q4 h5 q5 h6 q6 h7 q7 h8 q8 h10 q10 => simp only [okL, okF]; exact ⟨trivial, trivial, h2, h3, ⟨h4, okE_of fun e he => ⟨by have := (q4 e he).len; omega, (q4 e he).ok⟩⟩, ⟨h5, okE_of fun e he => ⟨by have := (q5 e he).len; omega, (q5 e he).ok⟩⟩, ⟨h6, okE_of fun e he => ⟨by have := (q6 e he).len; omega, (q6 e he).ok⟩⟩, ⟨h7, okE_of fun e he => ⟨by have := (q7 e he).len; omega, (q7 e he).ok⟩⟩, ⟨h8, okE_of fun e he => ⟨by have := (q8 e he).len; omega, (q8 e he).ok⟩⟩, trivial, ⟨h10, okE_of fun e he => ⟨by have := (q10 e he).len; omega, (q10 e he).ok⟩⟩, trivial⟩
inductive IsSchema : List (Leaf false) → Prop
  | mk (e0 : List (List (Leaf false))) (e1 : List (List (Leaf false))) (e2 : List (List (Leaf false))) (h0 : e0.length ≤ maxLen) (q0 : ∀ e ∈ e0, IsDef e) (h1 : e1.length ≤ maxLen) (q1 : ∀ e ∈ e1, IsDef e) (h2 : e2.length ≤ maxLen) (q2 : ∀ e ∈ e2, IsRoot e) : IsSchema [.sl fP e0, .sl fP e1, .sl fP e2]
theorem IsSchema.ex {ls : List (Leaf false)} (h : IsSchema ls) : ∃ (e0 : List (List (Leaf false))) (e1 : List (List (Leaf false))) (e2 : List (List (Leaf false))), ls = [.sl fP e0, .sl fP e1, .sl fP e2] ∧ e0.length ≤ maxLen ∧ (∀ e ∈ e0, IsDef e) ∧ e1.length ≤ maxLen ∧ (∀ e ∈ e1, IsDef e) ∧ e2.length ≤ maxLen ∧ (∀ e ∈ e2, IsRoot e) := by
  cases h with
  | mk e0 e1 e2 h0 q0 h1 q1 h2 q2 => exact ⟨e0, e1, e2, rfl, h0, q0, h1, q1, h2, q2⟩
theorem IsSchema.len {ls : List (Leaf false)} (h : IsSchema ls) : ls.length = 3 := by cases h; rfl
theorem IsSchema.ok {ls : List (Leaf false)} (h : IsSchema ls) : okL 16 ls := by
  cases h with
  | mk e0 e1 e2 h0 q0 h1 q1 h2 q2 => simp only [okL, okF]; exact ⟨⟨h0, okE_of fun e he => ⟨by have := (q0 e he).len; omega, (q0 e he).ok⟩⟩, ⟨h1, okE_of fun e he => ⟨by have := (q1 e he).len; omega, (q1 e he).ok⟩⟩, ⟨h2, okE_of fun e he => ⟨by have := (q2 e he).len; omega, (q2 e he).ok⟩⟩, trivial⟩
inductive IsProblem : List (Leaf false) → Prop
  | mk (i0 : Int) (s1 : ByteArray) (s2 : ByteArray)  : IsProblem [.int .i64 i0, .str s1, .str s2]
theorem IsProblem.ex {ls : List (Leaf false)} (h : IsProblem ls) : ∃ (i0 : Int) (s1 : ByteArray) (s2 : ByteArray), ls = [.int .i64 i0, .str s1, .str s2] := by
  cases h with
  | mk i0 s1 s2  => exact ⟨i0, s1, s2, rfl⟩
theorem IsProblem.len {ls : List (Leaf false)} (h : IsProblem ls) : ls.length = 3 := by cases h; rfl

theorem IsType.st {e : El} (h : IsType e) : ∃ x : R_ss, e = x.l ∧ IsType x.l := by
  cases h with
  | mk s0 s1 h0 h1 => exact ⟨⟨s0, s1⟩, rfl, .mk s0 s1 h0 h1⟩
theorem IsType.of {e : El} (h : IsType e) : (R_ss.of e).l = e := by obtain ⟨x, rfl, _⟩ := h.st; rfl
theorem IsType.nosl {e : El} (h : IsType e) : e.all noSl = true := by obtain ⟨x, rfl, _⟩ := h.st; rfl
theorem IsType.p {x : R_ss} (h : IsType x.l) : (x.a0.size ≤ maxLen) ∧ (x.a1.size ≤ maxLen) := by
  obtain ⟨s0, s1⟩ := x
  have h1 : IsType [.str s0, .str s1] := h
  cases h1 with
  | mk _ _ h0 h1 => exact ⟨h0, h1⟩
theorem IsValue.st {e : El} (h : IsValue e) : ∃ x : R_isee, e = x.l ∧ IsValue x.l := by
  cases h with
  | mk i0 s1 e2 e3 h1 h2 q2 h3 q3 => exact ⟨⟨i0, s1, e2, e3⟩, rfl, .mk i0 s1 e2 e3 h1 h2 q2 h3 q3⟩
theorem IsValue.of {e : El} (h : IsValue e) : (R_isee.of e).l = e := by obtain ⟨x, rfl, _⟩ := h.st; rfl
theorem IsValue.p {x : R_isee} (h : IsValue x.l) : (x.a1.size ≤ maxLen) ∧ (x.a2.length ≤ maxLen) ∧ (∀ e ∈ x.a2, IsValue e) ∧ (x.a3.length ≤ maxLen) ∧ (∀ e ∈ x.a3, IsStr e) := by
  obtain ⟨i0, s1, e2, e3⟩ := x
  have h1 : IsValue [.int .i64 i0, .str s1, .sl fP e2, .sl fP e3] := h
  cases h1 with
  | mk _ _ _ _ h1 h2 q2 h3 q3 => exact ⟨h1, h2, q2, h3, q3⟩
theorem IsArg.st {e : El} (h : IsArg e) : ∃ x : R_sisee, e = x.l ∧ IsArg x.l := by
  cases h with
  | mk s0 i1 s2 e3 e4 h0 h2 h3 q3 h4 q4 => exact ⟨⟨s0, i1, s2, e3, e4⟩, rfl, .mk s0 i1 s2 e3 e4 h0 h2 h3 q3 h4 q4⟩
theorem IsArg.of {e : El} (h : IsArg e) : (R_sisee.of e).l = e := by obtain ⟨x, rfl, _⟩ := h.st; rfl
theorem IsArg.p {x : R_sisee} (h : IsArg x.l) : (x.a0.size ≤ maxLen) ∧ (x.a2.size ≤ maxLen) ∧ (x.a3.length ≤ maxLen) ∧ (∀ e ∈ x.a3, IsValue e) ∧ (x.a4.length ≤ maxLen) ∧ (∀ e ∈ x.a4, IsStr e) := by
  obtain ⟨s0, i1, s2, e3, e4⟩ := x
  have h1 : IsArg [.str s0, .int .i64 i1, .str s2, .sl fP e3, .sl fP e4] := h
  cases h1 with
  | mk _ _ _ _ _ h0 h2 h3 q3 h4 q4 => exact ⟨h0, h2, h3, q3, h4, q4⟩
theorem IsDir.st {e : El} (h : IsDir e) : ∃ x : R_se, e = x.l ∧ IsDir x.l := by
  cases h with
  | mk s0 e1 h0 h1 q1 => exact ⟨⟨s0, e1⟩, rfl, .mk s0 e1 h0 h1 q1⟩
theorem IsDir.of {e : El} (h : IsDir e) : (R_se.of e).l = e := by obtain ⟨x, rfl, _⟩ := h.st; rfl
theorem IsDir.p {x : R_se} (h : IsDir x.l) : (x.a0.size ≤ maxLen) ∧ (x.a1.length ≤ maxLen) ∧ (∀ e ∈ x.a1, IsArg e) := by
  obtain ⟨s0, e1⟩ := x
  have h1 : IsDir [.str s0, .sl fP e1] := h
  cases h1 with
  | mk _ _ h0 h1 q1 => exact ⟨h0, h1, q1⟩
theorem IsInDef.st {e : El} (h : IsInDef e) : ∃ x : R_ssssbiseee, e = x.l ∧ IsInDef x.l := by
  cases h with
  | mk s0 s1 s2 s3 b4 i5 s6 e7 e8 e9 h0 h1 h2 h3 h6 h7 q7 h8 q8 h9 q9 => exact ⟨⟨s0, s1, s2, s3, b4, i5, s6, e7, e8, e9⟩, rfl, .mk s0 s1 s2 s3 b4 i5 s6 e7 e8 e9 h0 h1 h2 h3 h6 h7 q7 h8 q8 h9 q9⟩
theorem IsInDef.of {e : El} (h : IsInDef e) : (R_ssssbiseee.of e).l = e := by obtain ⟨x, rfl, _⟩ := h.st; rfl
theorem IsInDef.p {x : R_ssssbiseee} (h : IsInDef x.l) : (x.a0.size ≤ maxLen) ∧ (x.a1.size ≤ maxLen) ∧ (x.a2.size ≤ maxLen) ∧ (x.a3.size ≤ maxLen) ∧ (x.a6.size ≤ maxLen) ∧ (x.a7.length ≤ maxLen) ∧ (∀ e ∈ x.a7, IsValue e) ∧ (x.a8.length ≤ maxLen) ∧ (∀ e ∈ x.a8, IsStr e) ∧ (x.a9.length ≤ maxLen) ∧ (∀ e ∈ x.a9, IsDir e) := by
  obtain ⟨s0, s1, s2, s3, b4, i5, s6, e7, e8, e9⟩ := x
  have h1 : IsInDef [.str s0, .str s1, .str s2, .str s3, .bool b4, .int .i64 i5, .str s6, .sl fP e7, .sl fP e8, .sl fP e9] := h
  cases h1 with
  | mk _ _ _ _ _ _ _ _ _ _ h0 h1 h2 h3 h6 h7 q7 h8 q8 h9 q9 => exact ⟨h0, h1, h2, h3, h6, h7, q7, h8, q8, h9, q9⟩
theorem IsFieldDef.st {e : El} (h : IsFieldDef e) : ∃ x : R_ssesse, e = x.l ∧ IsFieldDef x.l := by
  cases h with
  | mk s0 s1 e2 s3 s4 e5 h0 h1 h2 q2 h3 h4 h5 q5 => exact ⟨⟨s0, s1, e2, s3, s4, e5⟩, rfl, .mk s0 s1 e2 s3 s4 e5 h0 h1 h2 q2 h3 h4 h5 q5⟩
theorem IsFieldDef.of {e : El} (h : IsFieldDef e) : (R_ssesse.of e).l = e := by obtain ⟨x, rfl, _⟩ := h.st; rfl
theorem IsFieldDef.p {x : R_ssesse} (h : IsFieldDef x.l) : (x.a0.size ≤ maxLen) ∧ (x.a1.size ≤ maxLen) ∧ (x.a2.length ≤ maxLen) ∧ (∀ e ∈ x.a2, IsInDef e) ∧ (x.a3.size ≤ maxLen) ∧ (x.a4.size ≤ maxLen) ∧ (x.a5.length ≤ maxLen) ∧ (∀ e ∈ x.a5, IsDir e) := by
  obtain ⟨s0, s1, e2, s3, s4, e5⟩ := x
  have h1 : IsFieldDef [.str s0, .str s1, .sl fP e2, .str s3, .str s4, .sl fP e5] := h
  cases h1 with
  | mk _ _ _ _ _ _ h0 h1 h2 q2 h3 h4 h5 q5 => exact ⟨h0, h1, h2, q2, h3, h4, h5, q5⟩
theorem IsEnumDef.st {e : El} (h : IsEnumDef e) : ∃ x : R_sse, e = x.l ∧ IsEnumDef x.l := by
  cases h with
  | mk s0 s1 e2 h0 h1 h2 q2 => exact ⟨⟨s0, s1, e2⟩, rfl, .mk s0 s1 e2 h0 h1 h2 q2⟩
theorem IsEnumDef.of {e : El} (h : IsEnumDef e) : (R_sse.of e).l = e := by obtain ⟨x, rfl, _⟩ := h.st; rfl
theorem IsEnumDef.p {x : R_sse} (h : IsEnumDef x.l) : (x.a0.size ≤ maxLen) ∧ (x.a1.size ≤ maxLen) ∧ (x.a2.length ≤ maxLen) ∧ (∀ e ∈ x.a2, IsDir e) := by
  obtain ⟨s0, s1, e2⟩ := x
  have h1 : IsEnumDef [.str s0, .str s1, .sl fP e2] := h
  cases h1 with
  | mk _ _ _ h0 h1 h2 q2 => exact ⟨h0, h1, h2, q2⟩
theorem IsRoot.st {e : El} (h : IsRoot e) : ∃ x : R_is, e = x.l ∧ IsRoot x.l := by
  cases h with
  | mk i0 s1 h1 => exact ⟨⟨i0, s1⟩, rfl, .mk i0 s1 h1⟩
theorem IsRoot.of {e : El} (h : IsRoot e) : (R_is.of e).l = e := by obtain ⟨x, rfl, _⟩ := h.st; rfl
theorem IsRoot.nosl {e : El} (h : IsRoot e) : e.all noSl = true := by obtain ⟨x, rfl, _⟩ := h.st; rfl
theorem IsRoot.p {x : R_is} (h : IsRoot x.l) : (x.a1.size ≤ maxLen) := by
  obtain ⟨i0, s1⟩ := x
  have h1 : IsRoot [.int .i64 i0, .str s1] := h
  cases h1 with
  | mk _ _ h1 => exact h1
theorem IsDef.st {e : El} (h : IsDef e) : ∃ x : R_ibsseeeeebe, e = x.l ∧ IsDef x.l := by
  cases h with
  | mk i0 b1 s2 s3 e4 e5 e6 e7 e8 b9 e10 h2 h3 h4 q4 h5 q5 h6 q6 h7 q7 h8 q8 h10 q10 => exact ⟨⟨i0, b1, s2, s3, e4, e5, e6, e7, e8, b9, e10⟩, rfl, .mk i0 b1 s2 s3 e4 e5 e6 e7 e8 b9 e10 h2 h3 h4 q4 h5 q5 h6 q6 h7 q7 h8 q8 h10 q10⟩
theorem IsDef.of {e : El} (h : IsDef e) : (R_ibsseeeeebe.of e).l = e := by obtain ⟨x, rfl, _⟩ := h.st; rfl
theorem IsDef.p {x : R_ibsseeeeebe} (h : IsDef x.l) : (x.a2.size ≤ maxLen) ∧ (x.a3.size ≤ maxLen) ∧ (x.a4.length ≤ maxLen) ∧ (∀ e ∈ x.a4, IsStr e) ∧ (x.a5.length ≤ maxLen) ∧ (∀ e ∈ x.a5, IsFieldDef e) ∧ (x.a6.length ≤ maxLen) ∧ (∀ e ∈ x.a6, IsInDef e) ∧ (x.a7.length ≤ maxLen) ∧ (∀ e ∈ x.a7, IsEnumDef e) ∧ (x.a8.length ≤ maxLen) ∧ (∀ e ∈ x.a8, IsRoot e) ∧ (x.a10.length ≤ maxLen) ∧ (∀ e ∈ x.a10, IsDir e) := by
  obtain ⟨i0, b1, s2, s3, e4, e5, e6, e7, e8, b9, e10⟩ := x
  have h1 : IsDef [.int .i64 i0, .bool b1, .str s2, .str s3, .sl fP e4, .sl fP e5, .sl fP e6, .sl fP e7, .sl fP e8, .bool b9, .sl fP e10] := h
  cases h1 with
  | mk _ _ _ _ _ _ _ _ _ _ _ h2 h3 h4 q4 h5 q5 h6 q6 h7 q7 h8 q8 h10 q10 => exact ⟨h2, h3, h4, q4, h5, q5, h6, q6, h7, q7, h8, q8, h10, q10⟩
theorem IsSchema.st {e : El} (h : IsSchema e) : ∃ x : R_eee, e = x.l ∧ IsSchema x.l := by
  cases h with
  | mk e0 e1 e2 h0 q0 h1 q1 h2 q2 => exact ⟨⟨e0, e1, e2⟩, rfl, .mk e0 e1 e2 h0 q0 h1 q1 h2 q2⟩
theorem IsSchema.of {e : El} (h : IsSchema e) : (R_eee.of e).l = e := by obtain ⟨x, rfl, _⟩ := h.st; rfl
theorem IsSchema.p {x : R_eee} (h : IsSchema x.l) : (x.a0.length ≤ maxLen) ∧ (∀ e ∈ x.a0, IsDef e) ∧ (x.a1.length ≤ maxLen) ∧ (∀ e ∈ x.a1, IsDef e) ∧ (x.a2.length ≤ maxLen) ∧ (∀ e ∈ x.a2, IsRoot e) := by
  obtain ⟨e0, e1, e2⟩ := x
  have h1 : IsSchema [.sl fP e0, .sl fP e1, .sl fP e2] := h
  cases h1 with
  | mk _ _ _ h0 q0 h1 q1 h2 q2 => exact ⟨h0, q0, h1, q1, h2, q2⟩
theorem IsProblem.st {e : El} (h : IsProblem e) : ∃ x : R_iss, e = x.l ∧ IsProblem x.l := by
  cases h with
  | mk i0 s1 s2 => exact ⟨⟨i0, s1, s2⟩, rfl, .mk i0 s1 s2⟩
theorem IsProblem.of {e : El} (h : IsProblem e) : (R_iss.of e).l = e := by obtain ⟨x, rfl, _⟩ := h.st; rfl
theorem IsProblem.nosl {e : El} (h : IsProblem e) : e.all noSl = true := by obtain ⟨x, rfl, _⟩ := h.st; rfl

end Go.Vs
end
section
open Go Go.Vs Go.Proofs
set_option linter.unusedVariables false
set_option linter.unusedSimpArgs false
namespace Go.Vs
theorem laws_szStringS_from {es : List (List (Leaf false))} (hl : es.length ≤ maxLen) (hq : ∀ e ∈ es, IsStr e) : ∀ i : Nat, i ≤ es.length → ∀ n : Int, 0 ≤ n →
    laws_szStringS_A Dn (laws_szStringS_0 es n i) = some (vint (szE (es.drop i) n), []) := by
  refine upto_ind ?_ ?_
  · intro n hn; rw [laws_szStringS_0_eq]; simp [szE]
  · intro i hi ih n hn
    obtain ⟨s, he, hs⟩ := hq _ (List.getElem_mem hi)
    rw [laws_szStringS_0_eq, drop_at hi]
    simp only [Int.ofNat_lt, hi, decide_true, branch_true, Int.natCast_nonneg, Bool.and_true, Int.toNat_natCast, guarded_true, wrap_upL (Nat.lt_of_lt_of_le hi hl), sized_all (fun e he => (hq e he).len), getD_lt hi]
    rw [he]
    simp only [atK_zero, strK_str]
    exact sz_nextS fun hk => ih _ hk
theorem d_laws_szStringS {es : List (List (Leaf false))} (hl : es.length ≤ maxLen) (hq : ∀ e ∈ es, IsStr e) {n : Int} (hn : 0 ≤ n) :
    Dn F.laws_szStringS [vsl es, vint n] [] = some (vint (szF (.sl fP es) n), []) := by
  apply den_of
  rw [run_laws_szStringS]
  refine sz_len fun hk => ?_
  have := laws_szStringS_from hl hq 0 (Nat.zero_le _) _ hk
  simpa using this
theorem d_laws_szType {ls : List (Leaf false)} (h : IsType ls) : ∀ {n : Int}, 0 ≤ n → Dn F.laws_szType [.agg ls, vint n] [] = some (vint (szL ls n), []) := by
  cases h with
  | mk s0 s1 h0 h1 =>
    intro n hn
    apply den_of
    rw [run_laws_szType]
    refine sz_str fun hn => ?_
    refine sz_str fun hn => ?_
    rfl
theorem laws_szValueS_from {es : List (List (Leaf false))} (hl : es.length ≤ maxLen) (hq : ∀ e ∈ es, IsValue e) (hd : ∀ e ∈ es, ∀ n : Int, 0 ≤ n → Dn F.laws_szValue [.agg e, vint n] [] = some (vint (szL e n), [])) : ∀ i : Nat, i ≤ es.length → ∀ n : Int, 0 ≤ n →
    laws_szValueS_A Dn (laws_szValueS_0 es n i) = some (vint (szE (es.drop i) n), []) := by
  refine upto_ind ?_ ?_
  · intro n hn; rw [laws_szValueS_0_eq]; simp [szE]
  · intro i hi ih n hn
    have hci := hd _ (List.getElem_mem hi) n hn
    obtain ⟨i0, s1, e2, e3, he, h1, h2, q2, h3, q3⟩ := (hq _ (List.getElem_mem hi)).ex
    rw [laws_szValueS_0_eq, drop_at hi]
    simp only [Int.ofNat_lt, hi, decide_true, branch_true, Int.natCast_nonneg, Bool.and_true, Int.toNat_natCast, guarded_true, wrap_upL (Nat.lt_of_lt_of_le hi hl), sized_all (fun e he => (hq e he).len), getD_lt hi]
    rw [he] at hci ⊢
    simp only [bindE_eq, atK_zero, atK_succ, intK_int, strK_str, boolK_bool, slK_sl]
    exact sz_next hci fun k hk => ih k hk
theorem d_laws_szValueS_of {es : List (List (Leaf false))} (hl : es.length ≤ maxLen) (hq : ∀ e ∈ es, IsValue e) (hd : ∀ e ∈ es, ∀ n : Int, 0 ≤ n → Dn F.laws_szValue [.agg e, vint n] [] = some (vint (szL e n), [])) {n : Int} (hn : 0 ≤ n) :
    Dn F.laws_szValueS [vsl es, vint n] [] = some (vint (szF (.sl fP es) n), []) := by
  apply den_of
  rw [run_laws_szValueS]
  refine sz_len fun hk => ?_
  have := laws_szValueS_from hl hq hd 0 (Nat.zero_le _) _ hk
  simpa using this
theorem d_laws_szValue {ls : List (Leaf false)} (h : IsValue ls) : ∀ {n : Int}, 0 ≤ n → Dn F.laws_szValue [.agg ls, vint n] [] = some (vint (szL ls n), []) := by
  induction h with
  | mk i0 s1 e2 e3 h1 h2 q2 h3 q3 ih2 =>
    intro n hn
    apply den_of
    rw [run_laws_szValue]
    refine sz_int hn ?_
    refine sz_str fun hn => ?_
    refine sz_callS (d_laws_szValueS_of h2 q2 (fun e he n hn => ih2 e he hn) hn) fun k hn => ?_
    refine sz_callS (d_laws_szStringS h3 q3 hn) fun k hn => ?_
    rfl
theorem d_laws_szValueS {es : List (List (Leaf false))} (hl : es.length ≤ maxLen) (hq : ∀ e ∈ es, IsValue e) {n : Int} (hn : 0 ≤ n) : Dn F.laws_szValueS [vsl es, vint n] [] = some (vint (szF (.sl fP es) n), []) := d_laws_szValueS_of hl hq (fun e he n hn => d_laws_szValue (hq e he) hn) hn
theorem laws_szArgS_from {es : List (List (Leaf false))} (hl : es.length ≤ maxLen) (hq : ∀ e ∈ es, IsArg e) (hd : ∀ e ∈ es, ∀ n : Int, 0 ≤ n → Dn F.laws_szArg [.agg e, vint n] [] = some (vint (szL e n), [])) : ∀ i : Nat, i ≤ es.length → ∀ n : Int, 0 ≤ n →
    laws_szArgS_A Dn (laws_szArgS_0 es n i) = some (vint (szE (es.drop i) n), []) := by
  refine upto_ind ?_ ?_
  · intro n hn; rw [laws_szArgS_0_eq]; simp [szE]
  · intro i hi ih n hn
    have hci := hd _ (List.getElem_mem hi) n hn
    obtain ⟨s0, i1, s2, e3, e4, he, h0, h2, h3, q3, h4, q4⟩ := (hq _ (List.getElem_mem hi)).ex
    rw [laws_szArgS_0_eq, drop_at hi]
    simp only [Int.ofNat_lt, hi, decide_true, branch_true, Int.natCast_nonneg, Bool.and_true, Int.toNat_natCast, guarded_true, wrap_upL (Nat.lt_of_lt_of_le hi hl), sized_all (fun e he => (hq e he).len), getD_lt hi]
    rw [he] at hci ⊢
    simp only [bindE_eq, atK_zero, atK_succ, intK_int, strK_str, boolK_bool, slK_sl]
    exact sz_next hci fun k hk => ih k hk
theorem d_laws_szArgS_of {es : List (List (Leaf false))} (hl : es.length ≤ maxLen) (hq : ∀ e ∈ es, IsArg e) (hd : ∀ e ∈ es, ∀ n : Int, 0 ≤ n → Dn F.laws_szArg [.agg e, vint n] [] = some (vint (szL e n), [])) {n : Int} (hn : 0 ≤ n) :
    Dn F.laws_szArgS [vsl es, vint n] [] = some (vint (szF (.sl fP es) n), []) := by
  apply den_of
  rw [run_laws_szArgS]
  refine sz_len fun hk => ?_
  have := laws_szArgS_from hl hq hd 0 (Nat.zero_le _) _ hk
  simpa using this
theorem d_laws_szArg {ls : List (Leaf false)} (h : IsArg ls) : ∀ {n : Int}, 0 ≤ n → Dn F.laws_szArg [.agg ls, vint n] [] = some (vint (szL ls n), []) := by
  cases h with
  | mk s0 i1 s2 e3 e4 h0 h2 h3 q3 h4 q4 =>
    intro n hn
    apply den_of
    rw [run_laws_szArg]
    refine sz_str fun hn => ?_
    refine sz_call (a := [.int .i64 i1, .str s2, .sl fP e3, .sl fP e4]) (d_laws_szValue (.mk i1 s2 e3 e4 h2 h3 q3 h4 q4) hn) hn fun k hn => ?_
    rfl
theorem d_laws_szArgS {es : List (List (Leaf false))} (hl : es.length ≤ maxLen) (hq : ∀ e ∈ es, IsArg e) {n : Int} (hn : 0 ≤ n) : Dn F.laws_szArgS [vsl es, vint n] [] = some (vint (szF (.sl fP es) n), []) := d_laws_szArgS_of hl hq (fun e he n hn => d_laws_szArg (hq e he) hn) hn
theorem laws_szDirS_from {es : List (List (Leaf false))} (hl : es.length ≤ maxLen) (hq : ∀ e ∈ es, IsDir e) (hd : ∀ e ∈ es, ∀ n : Int, 0 ≤ n → Dn F.laws_szDir [.agg e, vint n] [] = some (vint (szL e n), [])) : ∀ i : Nat, i ≤ es.length → ∀ n : Int, 0 ≤ n →
    laws_szDirS_A Dn (laws_szDirS_0 es n i) = some (vint (szE (es.drop i) n), []) := by
  refine upto_ind ?_ ?_
  · intro n hn; rw [laws_szDirS_0_eq]; simp [szE]
  · intro i hi ih n hn
    have hci := hd _ (List.getElem_mem hi) n hn
    obtain ⟨s0, e1, he, h0, h1, q1⟩ := (hq _ (List.getElem_mem hi)).ex
    rw [laws_szDirS_0_eq, drop_at hi]
    simp only [Int.ofNat_lt, hi, decide_true, branch_true, Int.natCast_nonneg, Bool.and_true, Int.toNat_natCast, guarded_true, wrap_upL (Nat.lt_of_lt_of_le hi hl), sized_all (fun e he => (hq e he).len), getD_lt hi]
    rw [he] at hci ⊢
    simp only [bindE_eq, atK_zero, atK_succ, intK_int, strK_str, boolK_bool, slK_sl]
    exact sz_next hci fun k hk => ih k hk
theorem d_laws_szDirS_of {es : List (List (Leaf false))} (hl : es.length ≤ maxLen) (hq : ∀ e ∈ es, IsDir e) (hd : ∀ e ∈ es, ∀ n : Int, 0 ≤ n → Dn F.laws_szDir [.agg e, vint n] [] = some (vint (szL e n), [])) {n : Int} (hn : 0 ≤ n) :
    Dn F.laws_szDirS [vsl es, vint n] [] = some (vint (szF (.sl fP es) n), []) := by
  apply den_of
  rw [run_laws_szDirS]
  refine sz_len fun hk => ?_
  have := laws_szDirS_from hl hq hd 0 (Nat.zero_le _) _ hk
  simpa using this
theorem d_laws_szDir {ls : List (Leaf false)} (h : IsDir ls) : ∀ {n : Int}, 0 ≤ n → Dn F.laws_szDir [.agg ls, vint n] [] = some (vint (szL ls n), []) := by
  cases h with
  | mk s0 e1 h0 h1 q1 =>
    intro n hn
    apply den_of
    rw [run_laws_szDir]
    refine sz_str fun hn => ?_
    refine sz_callS (d_laws_szArgS h1 q1 hn) fun k hn => ?_
    rfl
theorem d_laws_szDirS {es : List (List (Leaf false))} (hl : es.length ≤ maxLen) (hq : ∀ e ∈ es, IsDir e) {n : Int} (hn : 0 ≤ n) : Dn F.laws_szDirS [vsl es, vint n] [] = some (vint (szF (.sl fP es) n), []) := d_laws_szDirS_of hl hq (fun e he n hn => d_laws_szDir (hq e he) hn) hn
theorem laws_szInDefS_from {es : List (List (Leaf false))} (hl : es.length ≤ maxLen) (hq : ∀ e ∈ es, IsInDef e) (hd : ∀ e ∈ es, ∀ n : Int, 0 ≤ n → Dn F.laws_szInDef [.agg e, vint n] [] = some (vint (szL e n), [])) : ∀ i : Nat, i ≤ es.length → ∀ n : Int, 0 ≤ n →
    laws_szInDefS_A Dn (laws_szInDefS_0 es n i) = some (vint (szE (es.drop i) n), []) := by
  refine upto_ind ?_ ?_
  · intro n hn; rw [laws_szInDefS_0_eq]; simp [szE]
  · intro i hi ih n hn
    have hci := hd _ (List.getElem_mem hi) n hn
    obtain ⟨s0, s1, s2, s3, b4, i5, s6, e7, e8, e9, he, h0, h1, h2, h3, h6, h7, q7, h8, q8, h9, q9⟩ := (hq _ (List.getElem_mem hi)).ex
    rw [laws_szInDefS_0_eq, drop_at hi]
    simp only [Int.ofNat_lt, hi, decide_true, branch_true, Int.natCast_nonneg, Bool.and_true, Int.toNat_natCast, guarded_true, wrap_upL (Nat.lt_of_lt_of_le hi hl), sized_all (fun e he => (hq e he).len), getD_lt hi]
    rw [he] at hci ⊢
    simp only [bindE_eq, atK_zero, atK_succ, intK_int, strK_str, boolK_bool, slK_sl]
    exact sz_next hci fun k hk => ih k hk
theorem d_laws_szInDefS_of {es : List (List (Leaf false))} (hl : es.length ≤ maxLen) (hq : ∀ e ∈ es, IsInDef e) (hd : ∀ e ∈ es, ∀ n : Int, 0 ≤ n → Dn F.laws_szInDef [.agg e, vint n] [] = some (vint (szL e n), [])) {n : Int} (hn : 0 ≤ n) :
    Dn F.laws_szInDefS [vsl es, vint n] [] = some (vint (szF (.sl fP es) n), []) := by
  apply den_of
  rw [run_laws_szInDefS]
  refine sz_len fun hk => ?_
  have := laws_szInDefS_from hl hq hd 0 (Nat.zero_le _) _ hk
  simpa using this
theorem d_laws_szInDef {ls : List (Leaf false)} (h : IsInDef ls) : ∀ {n : Int}, 0 ≤ n → Dn F.laws_szInDef [.agg ls, vint n] [] = some (vint (szL ls n), []) := by
  cases h with
  | mk s0 s1 s2 s3 b4 i5 s6 e7 e8 e9 h0 h1 h2 h3 h6 h7 q7 h8 q8 h9 q9 =>
    intro n hn
    apply den_of
    rw [run_laws_szInDef]
    refine sz_str fun hn => ?_
    refine sz_str fun hn => ?_
    refine sz_call (a := [.str s2, .str s3]) (d_laws_szType (.mk s2 s3 h2 h3) hn) hn fun k hn => ?_
    refine sz_bool hn ?_
    refine sz_call (a := [.int .i64 i5, .str s6, .sl fP e7, .sl fP e8]) (d_laws_szValue (.mk i5 s6 e7 e8 h6 h7 q7 h8 q8) hn) hn fun k hn => ?_
    refine sz_callS (d_laws_szDirS h9 q9 hn) fun k hn => ?_
    rfl
theorem d_laws_szInDefS {es : List (List (Leaf false))} (hl : es.length ≤ maxLen) (hq : ∀ e ∈ es, IsInDef e) {n : Int} (hn : 0 ≤ n) : Dn F.laws_szInDefS [vsl es, vint n] [] = some (vint (szF (.sl fP es) n), []) := d_laws_szInDefS_of hl hq (fun e he n hn => d_laws_szInDef (hq e he) hn) hn
theorem laws_szFieldDefS_from {es : List (List (Leaf false))} (hl : es.length ≤ maxLen) (hq : ∀ e ∈ es, IsFieldDef e) (hd : ∀ e ∈ es, ∀ n : Int, 0 ≤ n → Dn F.laws_szFieldDef [.agg e, vint n] [] = some (vint (szL e n), [])) : ∀ i : Nat, i ≤ es.length → ∀ n : Int, 0 ≤ n →
    laws_szFieldDefS_A Dn (laws_szFieldDefS_0 es n i) = some (vint (szE (es.drop i) n), []) := by
  refine upto_ind ?_ ?_
  · intro n hn; rw [laws_szFieldDefS_0_eq]; simp [szE]
  · intro i hi ih n hn
    have hci := hd _ (List.getElem_mem hi) n hn
    obtain ⟨s0, s1, e2, s3, s4, e5, he, h0, h1, h2, q2, h3, h4, h5, q5⟩ := (hq _ (List.getElem_mem hi)).ex
    rw [laws_szFieldDefS_0_eq, drop_at hi]
    simp only [Int.ofNat_lt, hi, decide_true, branch_true, Int.natCast_nonneg, Bool.and_true, Int.toNat_natCast, guarded_true, wrap_upL (Nat.lt_of_lt_of_le hi hl), sized_all (fun e he => (hq e he).len), getD_lt hi]
    rw [he] at hci ⊢
    simp only [bindE_eq, atK_zero, atK_succ, intK_int, strK_str, boolK_bool, slK_sl]
    exact sz_next hci fun k hk => ih k hk
theorem d_laws_szFieldDefS_of {es : List (List (Leaf false))} (hl : es.length ≤ maxLen) (hq : ∀ e ∈ es, IsFieldDef e) (hd : ∀ e ∈ es, ∀ n : Int, 0 ≤ n → Dn F.laws_szFieldDef [.agg e, vint n] [] = some (vint (szL e n), [])) {n : Int} (hn : 0 ≤ n) :
    Dn F.laws_szFieldDefS [vsl es, vint n] [] = some (vint (szF (.sl fP es) n), []) := by
  apply den_of
  rw [run_laws_szFieldDefS]
  refine sz_len fun hk => ?_
  have := laws_szFieldDefS_from hl hq hd 0 (Nat.zero_le _) _ hk
  simpa using this
theorem d_laws_szFieldDef {ls : List (Leaf false)} (h : IsFieldDef ls) : ∀ {n : Int}, 0 ≤ n → Dn F.laws_szFieldDef [.agg ls, vint n] [] = some (vint (szL ls n), []) := by
  cases h with
  | mk s0 s1 e2 s3 s4 e5 h0 h1 h2 q2 h3 h4 h5 q5 =>
    intro n hn
    apply den_of
    rw [run_laws_szFieldDef]
    refine sz_str fun hn => ?_
    refine sz_str fun hn => ?_
    refine sz_callS (d_laws_szInDefS h2 q2 hn) fun k hn => ?_
    refine sz_call (a := [.str s3, .str s4]) (d_laws_szType (.mk s3 s4 h3 h4) hn) hn fun k hn => ?_
    refine sz_callS (d_laws_szDirS h5 q5 hn) fun k hn => ?_
    rfl
theorem d_laws_szFieldDefS {es : List (List (Leaf false))} (hl : es.length ≤ maxLen) (hq : ∀ e ∈ es, IsFieldDef e) {n : Int} (hn : 0 ≤ n) : Dn F.laws_szFieldDefS [vsl es, vint n] [] = some (vint (szF (.sl fP es) n), []) := d_laws_szFieldDefS_of hl hq (fun e he n hn => d_laws_szFieldDef (hq e he) hn) hn
theorem laws_szEnumDefS_from {es : List (List (Leaf false))} (hl : es.length ≤ maxLen) (hq : ∀ e ∈ es, IsEnumDef e) (hd : ∀ e ∈ es, ∀ n : Int, 0 ≤ n → Dn F.laws_szEnumDef [.agg e, vint n] [] = some (vint (szL e n), [])) : ∀ i : Nat, i ≤ es.length → ∀ n : Int, 0 ≤ n →
    laws_szEnumDefS_A Dn (laws_szEnumDefS_0 es n i) = some (vint (szE (es.drop i) n), []) := by
  refine upto_ind ?_ ?_
  · intro n hn; rw [laws_szEnumDefS_0_eq]; simp [szE]
  · intro i hi ih n hn
    have hci := hd _ (List.getElem_mem hi) n hn
    obtain ⟨s0, s1, e2, he, h0, h1, h2, q2⟩ := (hq _ (List.getElem_mem hi)).ex
    rw [laws_szEnumDefS_0_eq, drop_at hi]
    simp only [Int.ofNat_lt, hi, decide_true, branch_true, Int.natCast_nonneg, Bool.and_true, Int.toNat_natCast, guarded_true, wrap_upL (Nat.lt_of_lt_of_le hi hl), sized_all (fun e he => (hq e he).len), getD_lt hi]
    rw [he] at hci ⊢
    simp only [bindE_eq, atK_zero, atK_succ, intK_int, strK_str, boolK_bool, slK_sl]
    exact sz_next hci fun k hk => ih k hk
theorem d_laws_szEnumDefS_of {es : List (List (Leaf false))} (hl : es.length ≤ maxLen) (hq : ∀ e ∈ es, IsEnumDef e) (hd : ∀ e ∈ es, ∀ n : Int, 0 ≤ n → Dn F.laws_szEnumDef [.agg e, vint n] [] = some (vint (szL e n), [])) {n : Int} (hn : 0 ≤ n) :
    Dn F.laws_szEnumDefS [vsl es, vint n] [] = some (vint (szF (.sl fP es) n), []) := by
  apply den_of
  rw [run_laws_szEnumDefS]
  refine sz_len fun hk => ?_
  have := laws_szEnumDefS_from hl hq hd 0 (Nat.zero_le _) _ hk
  simpa using this
theorem d_laws_szEnumDef {ls : List (Leaf false)} (h : IsEnumDef ls) : ∀ {n : Int}, 0 ≤ n → Dn F.laws_szEnumDef [.agg ls, vint n] [] = some (vint (szL ls n), []) := by
  cases h with
  | mk s0 s1 e2 h0 h1 h2 q2 =>
    intro n hn
    apply den_of
    rw [run_laws_szEnumDef]
    refine sz_str fun hn => ?_
    refine sz_str fun hn => ?_
    refine sz_callS (d_laws_szDirS h2 q2 hn) fun k hn => ?_
    rfl
theorem d_laws_szEnumDefS {es : List (List (Leaf false))} (hl : es.length ≤ maxLen) (hq : ∀ e ∈ es, IsEnumDef e) {n : Int} (hn : 0 ≤ n) : Dn F.laws_szEnumDefS [vsl es, vint n] [] = some (vint (szF (.sl fP es) n), []) := d_laws_szEnumDefS_of hl hq (fun e he n hn => d_laws_szEnumDef (hq e he) hn) hn
theorem laws_szRootS_from {es : List (List (Leaf false))} (hl : es.length ≤ maxLen) (hq : ∀ e ∈ es, IsRoot e) (hd : ∀ e ∈ es, ∀ n : Int, 0 ≤ n → Dn F.laws_szRoot [.agg e, vint n] [] = some (vint (szL e n), [])) : ∀ i : Nat, i ≤ es.length → ∀ n : Int, 0 ≤ n →
    laws_szRootS_A Dn (laws_szRootS_0 es n i) = some (vint (szE (es.drop i) n), []) := by
  refine upto_ind ?_ ?_
  · intro n hn; rw [laws_szRootS_0_eq]; simp [szE]
  · intro i hi ih n hn
    have hci := hd _ (List.getElem_mem hi) n hn
    obtain ⟨i0, s1, he, h1⟩ := (hq _ (List.getElem_mem hi)).ex
    rw [laws_szRootS_0_eq, drop_at hi]
    simp only [Int.ofNat_lt, hi, decide_true, branch_true, Int.natCast_nonneg, Bool.and_true, Int.toNat_natCast, guarded_true, wrap_upL (Nat.lt_of_lt_of_le hi hl), sized_all (fun e he => (hq e he).len), getD_lt hi]
    rw [he] at hci ⊢
    simp only [bindE_eq, atK_zero, atK_succ, intK_int, strK_str, boolK_bool, slK_sl]
    exact sz_next hci fun k hk => ih k hk
theorem d_laws_szRootS_of {es : List (List (Leaf false))} (hl : es.length ≤ maxLen) (hq : ∀ e ∈ es, IsRoot e) (hd : ∀ e ∈ es, ∀ n : Int, 0 ≤ n → Dn F.laws_szRoot [.agg e, vint n] [] = some (vint (szL e n), [])) {n : Int} (hn : 0 ≤ n) :
    Dn F.laws_szRootS [vsl es, vint n] [] = some (vint (szF (.sl fP es) n), []) := by
  apply den_of
  rw [run_laws_szRootS]
  refine sz_len fun hk => ?_
  have := laws_szRootS_from hl hq hd 0 (Nat.zero_le _) _ hk
  simpa using this
theorem d_laws_szRoot {ls : List (Leaf false)} (h : IsRoot ls) : ∀ {n : Int}, 0 ≤ n → Dn F.laws_szRoot [.agg ls, vint n] [] = some (vint (szL ls n), []) := by
  cases h with
  | mk i0 s1 h1 =>
    intro n hn
    apply den_of
    rw [run_laws_szRoot]
    refine sz_int hn ?_
    refine sz_str fun hn => ?_
    rfl
theorem d_laws_szRootS {es : List (List (Leaf false))} (hl : es.length ≤ maxLen) (hq : ∀ e ∈ es, IsRoot e) {n : Int} (hn : 0 ≤ n) : Dn F.laws_szRootS [vsl es, vint n] [] = some (vint (szF (.sl fP es) n), []) := d_laws_szRootS_of hl hq (fun e he n hn => d_laws_szRoot (hq e he) hn) hn
theorem laws_szDefS_from {es : List (List (Leaf false))} (hl : es.length ≤ maxLen) (hq : ∀ e ∈ es, IsDef e) (hd : ∀ e ∈ es, ∀ n : Int, 0 ≤ n → Dn F.laws_szDef [.agg e, vint n] [] = some (vint (szL e n), [])) : ∀ i : Nat, i ≤ es.length → ∀ n : Int, 0 ≤ n →
    laws_szDefS_A Dn (laws_szDefS_0 es n i) = some (vint (szE (es.drop i) n), []) := by
  refine upto_ind ?_ ?_
  · intro n hn; rw [laws_szDefS_0_eq]; simp [szE]
  · intro i hi ih n hn
    have hci := hd _ (List.getElem_mem hi) n hn
    obtain ⟨i0, b1, s2, s3, e4, e5, e6, e7, e8, b9, e10, he, h2, h3, h4, q4, h5, q5, h6, q6, h7, q7, h8, q8, h10, q10⟩ := (hq _ (List.getElem_mem hi)).ex
    rw [laws_szDefS_0_eq, drop_at hi]
    simp only [Int.ofNat_lt, hi, decide_true, branch_true, Int.natCast_nonneg, Bool.and_true, Int.toNat_natCast, guarded_true, wrap_upL (Nat.lt_of_lt_of_le hi hl), sized_all (fun e he => (hq e he).len), getD_lt hi]
    rw [he] at hci ⊢
    simp only [bindE_eq, atK_zero, atK_succ, intK_int, strK_str, boolK_bool, slK_sl]
    exact sz_next hci fun k hk => ih k hk
theorem d_laws_szDefS_of {es : List (List (Leaf false))} (hl : es.length ≤ maxLen) (hq : ∀ e ∈ es, IsDef e) (hd : ∀ e ∈ es, ∀ n : Int, 0 ≤ n → Dn F.laws_szDef [.agg e, vint n] [] = some (vint (szL e n), [])) {n : Int} (hn : 0 ≤ n) :
    Dn F.laws_szDefS [vsl es, vint n] [] = some (vint (szF (.sl fP es) n), []) := by
  apply den_of
  rw [run_laws_szDefS]
  refine sz_len fun hk => ?_
  have := laws_szDefS_from hl hq hd 0 (Nat.zero_le _) _ hk
  simpa using this
theorem d_laws_szDef {ls : List (Leaf false)} (h : IsDef ls) : ∀ {n : Int}, 0 ≤ n → Dn F.laws_szDef [.agg ls, vint n] [] = some (vint (szL ls n), []) := by
  cases h with
  | mk i0 b1 s2 s3 e4 e5 e6 e7 e8 b9 e10 h2 h3 h4 q4 h5 q5 h6 q6 h7 q7 h8 q8 h10 q10 =>
    intro n hn
    apply den_of
    rw [run_laws_szDef]
    refine sz_int hn ?_
    refine sz_bool hn ?_
    refine sz_str fun hn => ?_
    refine sz_str fun hn => ?_
    refine sz_callS (d_laws_szStringS h4 q4 hn) fun k hn => ?_
    refine sz_callS (d_laws_szFieldDefS h5 q5 hn) fun k hn => ?_
    refine sz_callS (d_laws_szInDefS h6 q6 hn) fun k hn => ?_
    refine sz_callS (d_laws_szEnumDefS h7 q7 hn) fun k hn => ?_
    refine sz_callS (d_laws_szRootS h8 q8 hn) fun k hn => ?_
    refine sz_bool hn ?_
    refine sz_callS (d_laws_szDirS h10 q10 hn) fun k hn => ?_
    rfl
theorem d_laws_szDefS {es : List (List (Leaf false))} (hl : es.length ≤ maxLen) (hq : ∀ e ∈ es, IsDef e) {n : Int} (hn : 0 ≤ n) : Dn F.laws_szDefS [vsl es, vint n] [] = some (vint (szF (.sl fP es) n), []) := d_laws_szDefS_of hl hq (fun e he n hn => d_laws_szDef (hq e he) hn) hn
theorem d_laws_szSchema {ls : List (Leaf false)} (h : IsSchema ls) : ∀ {n : Int}, 0 ≤ n → Dn F.laws_szSchema [.agg ls, vint n] [] = some (vint (szL ls n), []) := by
  cases h with
  | mk e0 e1 e2 h0 q0 h1 q1 h2 q2 =>
    intro n hn
    apply den_of
    rw [run_laws_szSchema]
    refine sz_callS (d_laws_szDefS h0 q0 hn) fun k hn => ?_
    refine sz_callS (d_laws_szDefS h1 q1 hn) fun k hn => ?_
    refine sz_callS (d_laws_szRootS h2 q2 hn) fun k hn => ?_
    rfl

end Go.Vs
end
section
open Go Go.Vs Go.Proofs
set_option linter.unusedVariables false
set_option linter.unusedSimpArgs false
namespace Go.Vs
theorem laws_eqStringS_from {es : List (List (Leaf false))} (hl : es.length ≤ maxLen) (hq : ∀ e ∈ es, IsStr e) : ∀ i : Nat, i ≤ es.length →
    laws_eqStringS_A Dn (laws_eqStringS_0 es es i) = some (vbool true, []) := by
  refine upto_ind ?_ ?_
  · rw [laws_eqStringS_0_eq]; simp
  · intro i hi ih
    obtain ⟨s, he, hs⟩ := hq _ (List.getElem_mem hi)
    rw [laws_eqStringS_0_eq]
    simp only [Int.ofNat_lt, hi, decide_true, branch_true, Int.natCast_nonneg, Bool.and_true, Int.toNat_natCast, guarded_true, wrap_upL (Nat.lt_of_lt_of_le hi hl), sized_all (fun e he => (hq e he).len), getD_lt hi]
    rw [he]
    simp only [atK_zero, strK_str, beq_self_eq_true, Bool.not_true, branch_false]
    exact ih
theorem d_laws_eqStringS {es : List (List (Leaf false))} (hl : es.length ≤ maxLen) (hq : ∀ e ∈ es, IsStr e) : Dn F.laws_eqStringS [vsl es, vsl es] [] = some (vbool true, []) := by
  apply den_of
  rw [run_laws_eqStringS]
  have := laws_eqStringS_from hl hq 0 (Nat.zero_le _)
  simpa using this
theorem d_laws_eqType {ls : List (Leaf false)} (h : IsType ls) : Dn F.laws_eqType [.agg ls, .agg ls] [] = some (vbool true, []) := by
  cases h with
  | mk s0 s1 h0 h1 =>
    apply den_of
    rw [run_laws_eqType]
    simp []
theorem laws_eqValueS_from {es : List (List (Leaf false))} (hl : es.length ≤ maxLen) (hq : ∀ e ∈ es, IsValue e) (hd : ∀ e ∈ es, Dn F.laws_eqValue [.agg e, .agg e] [] = some (vbool true, [])) : ∀ i : Nat, i ≤ es.length →
    laws_eqValueS_A Dn (laws_eqValueS_0 es es i) = some (vbool true, []) := by
  refine upto_ind ?_ ?_
  · rw [laws_eqValueS_0_eq]; simp
  · intro i hi ih
    have hci := hd _ (List.getElem_mem hi)
    obtain ⟨i0, s1, e2, e3, he, h1, h2, q2, h3, q3⟩ := (hq _ (List.getElem_mem hi)).ex
    rw [laws_eqValueS_0_eq]
    simp only [Int.ofNat_lt, hi, decide_true, branch_true, Int.natCast_nonneg, Bool.and_true, Int.toNat_natCast, guarded_true, wrap_upL (Nat.lt_of_lt_of_le hi hl), sized_all (fun e he => (hq e he).len), getD_lt hi]
    rw [he] at hci ⊢
    simp only [bindE_eq, atK_zero, atK_succ, intK_int, strK_str, boolK_bool, slK_sl, hci, Option.bind_some, svLeafK_leaf, Bool.not_true, branch_false]
    exact ih
theorem d_laws_eqValueS_of {es : List (List (Leaf false))} (hl : es.length ≤ maxLen) (hq : ∀ e ∈ es, IsValue e) (hd : ∀ e ∈ es, Dn F.laws_eqValue [.agg e, .agg e] [] = some (vbool true, [])) : Dn F.laws_eqValueS [vsl es, vsl es] [] = some (vbool true, []) := by
  apply den_of
  rw [run_laws_eqValueS]
  have := laws_eqValueS_from hl hq hd 0 (Nat.zero_le _)
  simpa using this
theorem d_laws_eqValue {ls : List (Leaf false)} (h : IsValue ls) : Dn F.laws_eqValue [.agg ls, .agg ls] [] = some (vbool true, []) := by
  induction h with
  | mk i0 s1 e2 e3 h1 h2 q2 h3 q3 ih2 =>
    apply den_of
    rw [run_laws_eqValue]
    have c2 := d_laws_eqValueS_of h2 q2 ih2
    have c3 := d_laws_eqStringS h3 q3
    simp [c2, c3]
theorem d_laws_eqValueS {es : List (List (Leaf false))} (hl : es.length ≤ maxLen) (hq : ∀ e ∈ es, IsValue e) : Dn F.laws_eqValueS [vsl es, vsl es] [] = some (vbool true, []) := d_laws_eqValueS_of hl hq fun e he => d_laws_eqValue (hq e he)
theorem laws_eqArgS_from {es : List (List (Leaf false))} (hl : es.length ≤ maxLen) (hq : ∀ e ∈ es, IsArg e) (hd : ∀ e ∈ es, Dn F.laws_eqArg [.agg e, .agg e] [] = some (vbool true, [])) : ∀ i : Nat, i ≤ es.length →
    laws_eqArgS_A Dn (laws_eqArgS_0 es es i) = some (vbool true, []) := by
  refine upto_ind ?_ ?_
  · rw [laws_eqArgS_0_eq]; simp
  · intro i hi ih
    have hci := hd _ (List.getElem_mem hi)
    obtain ⟨s0, i1, s2, e3, e4, he, h0, h2, h3, q3, h4, q4⟩ := (hq _ (List.getElem_mem hi)).ex
    rw [laws_eqArgS_0_eq]
    simp only [Int.ofNat_lt, hi, decide_true, branch_true, Int.natCast_nonneg, Bool.and_true, Int.toNat_natCast, guarded_true, wrap_upL (Nat.lt_of_lt_of_le hi hl), sized_all (fun e he => (hq e he).len), getD_lt hi]
    rw [he] at hci ⊢
    simp only [bindE_eq, atK_zero, atK_succ, intK_int, strK_str, boolK_bool, slK_sl, hci, Option.bind_some, svLeafK_leaf, Bool.not_true, branch_false]
    exact ih
theorem d_laws_eqArgS_of {es : List (List (Leaf false))} (hl : es.length ≤ maxLen) (hq : ∀ e ∈ es, IsArg e) (hd : ∀ e ∈ es, Dn F.laws_eqArg [.agg e, .agg e] [] = some (vbool true, [])) : Dn F.laws_eqArgS [vsl es, vsl es] [] = some (vbool true, []) := by
  apply den_of
  rw [run_laws_eqArgS]
  have := laws_eqArgS_from hl hq hd 0 (Nat.zero_le _)
  simpa using this
theorem d_laws_eqArg {ls : List (Leaf false)} (h : IsArg ls) : Dn F.laws_eqArg [.agg ls, .agg ls] [] = some (vbool true, []) := by
  cases h with
  | mk s0 i1 s2 e3 e4 h0 h2 h3 q3 h4 q4 =>
    apply den_of
    rw [run_laws_eqArg]
    have c1 := d_laws_eqValue (.mk i1 s2 e3 e4 h2 h3 q3 h4 q4)
    simp [c1]
theorem d_laws_eqArgS {es : List (List (Leaf false))} (hl : es.length ≤ maxLen) (hq : ∀ e ∈ es, IsArg e) : Dn F.laws_eqArgS [vsl es, vsl es] [] = some (vbool true, []) := d_laws_eqArgS_of hl hq fun e he => d_laws_eqArg (hq e he)
theorem laws_eqDirS_from {es : List (List (Leaf false))} (hl : es.length ≤ maxLen) (hq : ∀ e ∈ es, IsDir e) (hd : ∀ e ∈ es, Dn F.laws_eqDir [.agg e, .agg e] [] = some (vbool true, [])) : ∀ i : Nat, i ≤ es.length →
    laws_eqDirS_A Dn (laws_eqDirS_0 es es i) = some (vbool true, []) := by
  refine upto_ind ?_ ?_
  · rw [laws_eqDirS_0_eq]; simp
  · intro i hi ih
    have hci := hd _ (List.getElem_mem hi)
    obtain ⟨s0, e1, he, h0, h1, q1⟩ := (hq _ (List.getElem_mem hi)).ex
    rw [laws_eqDirS_0_eq]
    simp only [Int.ofNat_lt, hi, decide_true, branch_true, Int.natCast_nonneg, Bool.and_true, Int.toNat_natCast, guarded_true, wrap_upL (Nat.lt_of_lt_of_le hi hl), sized_all (fun e he => (hq e he).len), getD_lt hi]
    rw [he] at hci ⊢
    simp only [bindE_eq, atK_zero, atK_succ, intK_int, strK_str, boolK_bool, slK_sl, hci, Option.bind_some, svLeafK_leaf, Bool.not_true, branch_false]
    exact ih
theorem d_laws_eqDirS_of {es : List (List (Leaf false))} (hl : es.length ≤ maxLen) (hq : ∀ e ∈ es, IsDir e) (hd : ∀ e ∈ es, Dn F.laws_eqDir [.agg e, .agg e] [] = some (vbool true, [])) : Dn F.laws_eqDirS [vsl es, vsl es] [] = some (vbool true, []) := by
  apply den_of
  rw [run_laws_eqDirS]
  have := laws_eqDirS_from hl hq hd 0 (Nat.zero_le _)
  simpa using this
theorem d_laws_eqDir {ls : List (Leaf false)} (h : IsDir ls) : Dn F.laws_eqDir [.agg ls, .agg ls] [] = some (vbool true, []) := by
  cases h with
  | mk s0 e1 h0 h1 q1 =>
    apply den_of
    rw [run_laws_eqDir]
    have c1 := d_laws_eqArgS h1 q1
    simp [c1]
theorem d_laws_eqDirS {es : List (List (Leaf false))} (hl : es.length ≤ maxLen) (hq : ∀ e ∈ es, IsDir e) : Dn F.laws_eqDirS [vsl es, vsl es] [] = some (vbool true, []) := d_laws_eqDirS_of hl hq fun e he => d_laws_eqDir (hq e he)
theorem laws_eqInDefS_from {es : List (List (Leaf false))} (hl : es.length ≤ maxLen) (hq : ∀ e ∈ es, IsInDef e) (hd : ∀ e ∈ es, Dn F.laws_eqInDef [.agg e, .agg e] [] = some (vbool true, [])) : ∀ i : Nat, i ≤ es.length →
    laws_eqInDefS_A Dn (laws_eqInDefS_0 es es i) = some (vbool true, []) := by
  refine upto_ind ?_ ?_
  · rw [laws_eqInDefS_0_eq]; simp
  · intro i hi ih
    have hci := hd _ (List.getElem_mem hi)
    obtain ⟨s0, s1, s2, s3, b4, i5, s6, e7, e8, e9, he, h0, h1, h2, h3, h6, h7, q7, h8, q8, h9, q9⟩ := (hq _ (List.getElem_mem hi)).ex
    rw [laws_eqInDefS_0_eq]
    simp only [Int.ofNat_lt, hi, decide_true, branch_true, Int.natCast_nonneg, Bool.and_true, Int.toNat_natCast, guarded_true, wrap_upL (Nat.lt_of_lt_of_le hi hl), sized_all (fun e he => (hq e he).len), getD_lt hi]
    rw [he] at hci ⊢
    simp only [bindE_eq, atK_zero, atK_succ, intK_int, strK_str, boolK_bool, slK_sl, hci, Option.bind_some, svLeafK_leaf, Bool.not_true, branch_false]
    exact ih
theorem d_laws_eqInDefS_of {es : List (List (Leaf false))} (hl : es.length ≤ maxLen) (hq : ∀ e ∈ es, IsInDef e) (hd : ∀ e ∈ es, Dn F.laws_eqInDef [.agg e, .agg e] [] = some (vbool true, [])) : Dn F.laws_eqInDefS [vsl es, vsl es] [] = some (vbool true, []) := by
  apply den_of
  rw [run_laws_eqInDefS]
  have := laws_eqInDefS_from hl hq hd 0 (Nat.zero_le _)
  simpa using this
theorem d_laws_eqInDef {ls : List (Leaf false)} (h : IsInDef ls) : Dn F.laws_eqInDef [.agg ls, .agg ls] [] = some (vbool true, []) := by
  cases h with
  | mk s0 s1 s2 s3 b4 i5 s6 e7 e8 e9 h0 h1 h2 h3 h6 h7 q7 h8 q8 h9 q9 =>
    apply den_of
    rw [run_laws_eqInDef]
    have c2 := d_laws_eqType (.mk s2 s3 h2 h3)
    have c5 := d_laws_eqValue (.mk i5 s6 e7 e8 h6 h7 q7 h8 q8)
    have c9 := d_laws_eqDirS h9 q9
    simp [c2, c5, c9]
theorem d_laws_eqInDefS {es : List (List (Leaf false))} (hl : es.length ≤ maxLen) (hq : ∀ e ∈ es, IsInDef e) : Dn F.laws_eqInDefS [vsl es, vsl es] [] = some (vbool true, []) := d_laws_eqInDefS_of hl hq fun e he => d_laws_eqInDef (hq e he)
theorem laws_eqFieldDefS_from {es : List (List (Leaf false))} (hl : es.length ≤ maxLen) (hq : ∀ e ∈ es, IsFieldDef e) (hd : ∀ e ∈ es, Dn F.laws_eqFieldDef [.agg e, .agg e] [] = some (vbool true, [])) : ∀ i : Nat, i ≤ es.length →
    laws_eqFieldDefS_A Dn (laws_eqFieldDefS_0 es es i) = some (vbool true, []) := by
  refine upto_ind ?_ ?_
  · rw [laws_eqFieldDefS_0_eq]; simp
  · intro i hi ih
    have hci := hd _ (List.getElem_mem hi)
    obtain ⟨s0, s1, e2, s3, s4, e5, he, h0, h1, h2, q2, h3, h4, h5, q5⟩ := (hq _ (List.getElem_mem hi)).ex
    rw [laws_eqFieldDefS_0_eq]
    simp only [Int.ofNat_lt, hi, decide_true, branch_true, Int.natCast_nonneg, Bool.and_true, Int.toNat_natCast, guarded_true, wrap_upL (Nat.lt_of_lt_of_le hi hl), sized_all (fun e he => (hq e he).len), getD_lt hi]
    rw [he] at hci ⊢
    simp only [bindE_eq, atK_zero, atK_succ, intK_int, strK_str, boolK_bool, slK_sl, hci, Option.bind_some, svLeafK_leaf, Bool.not_true, branch_false]
    exact ih
theorem d_laws_eqFieldDefS_of {es : List (List (Leaf false))} (hl : es.length ≤ maxLen) (hq : ∀ e ∈ es, IsFieldDef e) (hd : ∀ e ∈ es, Dn F.laws_eqFieldDef [.agg e, .agg e] [] = some (vbool true, [])) : Dn F.laws_eqFieldDefS [vsl es, vsl es] [] = some (vbool true, []) := by
  apply den_of
  rw [run_laws_eqFieldDefS]
  have := laws_eqFieldDefS_from hl hq hd 0 (Nat.zero_le _)
  simpa using this
theorem d_laws_eqFieldDef {ls : List (Leaf false)} (h : IsFieldDef ls) : Dn F.laws_eqFieldDef [.agg ls, .agg ls] [] = some (vbool true, []) := by
  cases h with
  | mk s0 s1 e2 s3 s4 e5 h0 h1 h2 q2 h3 h4 h5 q5 =>
    apply den_of
    rw [run_laws_eqFieldDef]
    have c2 := d_laws_eqInDefS h2 q2
    have c3 := d_laws_eqType (.mk s3 s4 h3 h4)
    have c5 := d_laws_eqDirS h5 q5
    simp [c2, c3, c5]
theorem d_laws_eqFieldDefS {es : List (List (Leaf false))} (hl : es.length ≤ maxLen) (hq : ∀ e ∈ es, IsFieldDef e) : Dn F.laws_eqFieldDefS [vsl es, vsl es] [] = some (vbool true, []) := d_laws_eqFieldDefS_of hl hq fun e he => d_laws_eqFieldDef (hq e he)
theorem laws_eqEnumDefS_from {es : List (List (Leaf false))} (hl : es.length ≤ maxLen) (hq : ∀ e ∈ es, IsEnumDef e) (hd : ∀ e ∈ es, Dn F.laws_eqEnumDef [.agg e, .agg e] [] = some (vbool true, [])) : ∀ i : Nat, i ≤ es.length →
    laws_eqEnumDefS_A Dn (laws_eqEnumDefS_0 es es i) = some (vbool true, []) := by
  refine upto_ind ?_ ?_
  · rw [laws_eqEnumDefS_0_eq]; simp
  · intro i hi ih
    have hci := hd _ (List.getElem_mem hi)
    obtain ⟨s0, s1, e2, he, h0, h1, h2, q2⟩ := (hq _ (List.getElem_mem hi)).ex
    rw [laws_eqEnumDefS_0_eq]
    simp only [Int.ofNat_lt, hi, decide_true, branch_true, Int.natCast_nonneg, Bool.and_true, Int.toNat_natCast, guarded_true, wrap_upL (Nat.lt_of_lt_of_le hi hl), sized_all (fun e he => (hq e he).len), getD_lt hi]
    rw [he] at hci ⊢
    simp only [bindE_eq, atK_zero, atK_succ, intK_int, strK_str, boolK_bool, slK_sl, hci, Option.bind_some, svLeafK_leaf, Bool.not_true, branch_false]
    exact ih
theorem d_laws_eqEnumDefS_of {es : List (List (Leaf false))} (hl : es.length ≤ maxLen) (hq : ∀ e ∈ es, IsEnumDef e) (hd : ∀ e ∈ es, Dn F.laws_eqEnumDef [.agg e, .agg e] [] = some (vbool true, [])) : Dn F.laws_eqEnumDefS [vsl es, vsl es] [] = some (vbool true, []) := by
  apply den_of
  rw [run_laws_eqEnumDefS]
  have := laws_eqEnumDefS_from hl hq hd 0 (Nat.zero_le _)
  simpa using this
theorem d_laws_eqEnumDef {ls : List (Leaf false)} (h : IsEnumDef ls) : Dn F.laws_eqEnumDef [.agg ls, .agg ls] [] = some (vbool true, []) := by
  cases h with
  | mk s0 s1 e2 h0 h1 h2 q2 =>
    apply den_of
    rw [run_laws_eqEnumDef]
    have c2 := d_laws_eqDirS h2 q2
    simp [c2]
theorem d_laws_eqEnumDefS {es : List (List (Leaf false))} (hl : es.length ≤ maxLen) (hq : ∀ e ∈ es, IsEnumDef e) : Dn F.laws_eqEnumDefS [vsl es, vsl es] [] = some (vbool true, []) := d_laws_eqEnumDefS_of hl hq fun e he => d_laws_eqEnumDef (hq e he)
theorem laws_eqRootS_from {es : List (List (Leaf false))} (hl : es.length ≤ maxLen) (hq : ∀ e ∈ es, IsRoot e) (hd : ∀ e ∈ es, Dn F.laws_eqRoot [.agg e, .agg e] [] = some (vbool true, [])) : ∀ i : Nat, i ≤ es.length →
    laws_eqRootS_A Dn (laws_eqRootS_0 es es i) = some (vbool true, []) := by
  refine upto_ind ?_ ?_
  · rw [laws_eqRootS_0_eq]; simp
  · intro i hi ih
    have hci := hd _ (List.getElem_mem hi)
    obtain ⟨i0, s1, he, h1⟩ := (hq _ (List.getElem_mem hi)).ex
    rw [laws_eqRootS_0_eq]
    simp only [Int.ofNat_lt, hi, decide_true, branch_true, Int.natCast_nonneg, Bool.and_true, Int.toNat_natCast, guarded_true, wrap_upL (Nat.lt_of_lt_of_le hi hl), sized_all (fun e he => (hq e he).len), getD_lt hi]
    rw [he] at hci ⊢
    simp only [bindE_eq, atK_zero, atK_succ, intK_int, strK_str, boolK_bool, slK_sl, hci, Option.bind_some, svLeafK_leaf, Bool.not_true, branch_false]
    exact ih
theorem d_laws_eqRootS_of {es : List (List (Leaf false))} (hl : es.length ≤ maxLen) (hq : ∀ e ∈ es, IsRoot e) (hd : ∀ e ∈ es, Dn F.laws_eqRoot [.agg e, .agg e] [] = some (vbool true, [])) : Dn F.laws_eqRootS [vsl es, vsl es] [] = some (vbool true, []) := by
  apply den_of
  rw [run_laws_eqRootS]
  have := laws_eqRootS_from hl hq hd 0 (Nat.zero_le _)
  simpa using this
theorem d_laws_eqRoot {ls : List (Leaf false)} (h : IsRoot ls) : Dn F.laws_eqRoot [.agg ls, .agg ls] [] = some (vbool true, []) := by
  cases h with
  | mk i0 s1 h1 =>
    apply den_of
    rw [run_laws_eqRoot]
    simp []
theorem d_laws_eqRootS {es : List (List (Leaf false))} (hl : es.length ≤ maxLen) (hq : ∀ e ∈ es, IsRoot e) : Dn F.laws_eqRootS [vsl es, vsl es] [] = some (vbool true, []) := d_laws_eqRootS_of hl hq fun e he => d_laws_eqRoot (hq e he)
theorem laws_eqDefS_from {es : List (List (Leaf false))} (hl : es.length ≤ maxLen) (hq : ∀ e ∈ es, IsDef e) (hd : ∀ e ∈ es, Dn F.laws_eqDef [.agg e, .agg e] [] = some (vbool true, [])) : ∀ i : Nat, i ≤ es.length →
    laws_eqDefS_A Dn (laws_eqDefS_0 es es i) = some (vbool true, []) := by
  refine upto_ind ?_ ?_
  · rw [laws_eqDefS_0_eq]; simp
  · intro i hi ih
    have hci := hd _ (List.getElem_mem hi)
    obtain ⟨i0, b1, s2, s3, e4, e5, e6, e7, e8, b9, e10, he, h2, h3, h4, q4, h5, q5, h6, q6, h7, q7, h8, q8, h10, q10⟩ := (hq _ (List.getElem_mem hi)).ex
    rw [laws_eqDefS_0_eq]
    simp only [Int.ofNat_lt, hi, decide_true, branch_true, Int.natCast_nonneg, Bool.and_true, Int.toNat_natCast, guarded_true, wrap_upL (Nat.lt_of_lt_of_le hi hl), sized_all (fun e he => (hq e he).len), getD_lt hi]
    rw [he] at hci ⊢
    simp only [bindE_eq, atK_zero, atK_succ, intK_int, strK_str, boolK_bool, slK_sl, hci, Option.bind_some, svLeafK_leaf, Bool.not_true, branch_false]
    exact ih
theorem d_laws_eqDefS_of {es : List (List (Leaf false))} (hl : es.length ≤ maxLen) (hq : ∀ e ∈ es, IsDef e) (hd : ∀ e ∈ es, Dn F.laws_eqDef [.agg e, .agg e] [] = some (vbool true, [])) : Dn F.laws_eqDefS [vsl es, vsl es] [] = some (vbool true, []) := by
  apply den_of
  rw [run_laws_eqDefS]
  have := laws_eqDefS_from hl hq hd 0 (Nat.zero_le _)
  simpa using this
theorem d_laws_eqDef {ls : List (Leaf false)} (h : IsDef ls) : Dn F.laws_eqDef [.agg ls, .agg ls] [] = some (vbool true, []) := by
  cases h with
  | mk i0 b1 s2 s3 e4 e5 e6 e7 e8 b9 e10 h2 h3 h4 q4 h5 q5 h6 q6 h7 q7 h8 q8 h10 q10 =>
    apply den_of
    rw [run_laws_eqDef]
    have c4 := d_laws_eqStringS h4 q4
    have c5 := d_laws_eqFieldDefS h5 q5
    have c6 := d_laws_eqInDefS h6 q6
    have c7 := d_laws_eqEnumDefS h7 q7
    have c8 := d_laws_eqRootS h8 q8
    have c10 := d_laws_eqDirS h10 q10
    simp [c4, c5, c6, c7, c8, c10]
theorem d_laws_eqDefS {es : List (List (Leaf false))} (hl : es.length ≤ maxLen) (hq : ∀ e ∈ es, IsDef e) : Dn F.laws_eqDefS [vsl es, vsl es] [] = some (vbool true, []) := d_laws_eqDefS_of hl hq fun e he => d_laws_eqDef (hq e he)
theorem d_laws_eqSchema {ls : List (Leaf false)} (h : IsSchema ls) : Dn F.laws_eqSchema [.agg ls, .agg ls] [] = some (vbool true, []) := by
  cases h with
  | mk e0 e1 e2 h0 q0 h1 q1 h2 q2 =>
    apply den_of
    rw [run_laws_eqSchema]
    have c0 := d_laws_eqDefS h0 q0
    have c1 := d_laws_eqDefS h1 q1
    have c2 := d_laws_eqRootS h2 q2
    simp [c0, c1, c2]
theorem laws_eqProblemS_from {es : List (List (Leaf false))} (hl : es.length ≤ maxLen) (hq : ∀ e ∈ es, IsProblem e) (hd : ∀ e ∈ es, Dn F.laws_eqProblem [.agg e, .agg e] [] = some (vbool true, [])) : ∀ i : Nat, i ≤ es.length →
    laws_eqProblemS_A Dn (laws_eqProblemS_0 es es i) = some (vbool true, []) := by
  refine upto_ind ?_ ?_
  · rw [laws_eqProblemS_0_eq]; simp
  · intro i hi ih
    have hci := hd _ (List.getElem_mem hi)
    obtain ⟨i0, s1, s2, he⟩ := (hq _ (List.getElem_mem hi)).ex
    rw [laws_eqProblemS_0_eq]
    simp only [Int.ofNat_lt, hi, decide_true, branch_true, Int.natCast_nonneg, Bool.and_true, Int.toNat_natCast, guarded_true, wrap_upL (Nat.lt_of_lt_of_le hi hl), sized_all (fun e he => (hq e he).len), getD_lt hi]
    rw [he] at hci ⊢
    simp only [bindE_eq, atK_zero, atK_succ, intK_int, strK_str, boolK_bool, slK_sl, hci, Option.bind_some, svLeafK_leaf, Bool.not_true, branch_false]
    exact ih
theorem d_laws_eqProblemS_of {es : List (List (Leaf false))} (hl : es.length ≤ maxLen) (hq : ∀ e ∈ es, IsProblem e) (hd : ∀ e ∈ es, Dn F.laws_eqProblem [.agg e, .agg e] [] = some (vbool true, [])) : Dn F.laws_eqProblemS [vsl es, vsl es] [] = some (vbool true, []) := by
  apply den_of
  rw [run_laws_eqProblemS]
  have := laws_eqProblemS_from hl hq hd 0 (Nat.zero_le _)
  simpa using this
theorem d_laws_eqProblem {ls : List (Leaf false)} (h : IsProblem ls) : Dn F.laws_eqProblem [.agg ls, .agg ls] [] = some (vbool true, []) := by
  cases h with
  | mk i0 s1 s2 =>
    apply den_of
    rw [run_laws_eqProblem]
    simp []
theorem d_laws_eqProblemS {es : List (List (Leaf false))} (hl : es.length ≤ maxLen) (hq : ∀ e ∈ es, IsProblem e) : Dn F.laws_eqProblemS [vsl es, vsl es] [] = some (vbool true, []) := d_laws_eqProblemS_of hl hq fun e he => d_laws_eqProblem (hq e he)

end Go.Vs
end
